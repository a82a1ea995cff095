/- RowG0: the fills of a row in the order of their codes; which fit below which; plain. -/
import Derived.Test.YtdnklmdmafbogaaDoorFillS
import Derived.Test.YtdnklmdmafbogaaDoorVisit
namespace Go.Proofs.YtdnklmdmafbogaaDoor
open Go.RowKit

theorem flatMap_same {α β : Type} {f g : α → List β} : ∀ {l : List α}, (∀ x ∈ l, f x = g x) → l.flatMap f = l.flatMap g
  | [], _ => rfl
  | x :: l, h => by rw [List.flatMap_cons, List.flatMap_cons, h x List.mem_cons_self, flatMap_same fun y hy => h y (List.mem_cons_of_mem _ hy)]
/-- A code's digits, the first one first. -/
def dig (n : Nat) : Nat → Nat → List Nat
  | 0, _ => []
  | w + 1, c => dig n w (c / n) ++ [c % n]
theorem dig_length (n : Nat) : ∀ w c, (dig n w c).length = w
  | 0, _ => rfl
  | w + 1, c => by rw [dig, List.length_append, dig_length n w, List.length_singleton]
theorem dig_cons (n : Nat) : ∀ w c, dig n (w + 1) c = (c / n ^ w % n) :: dig n w c
  | 0, c => by rw [dig, dig, Nat.pow_zero, Nat.div_one]; rfl
  | w + 1, c => by
    rw [dig, dig_cons n w (c / n), Nat.div_div_eq_div_mul, Nat.pow_succ, Nat.mul_comm n]
    rfl
theorem dig_lt {n : Nat} (hn : 0 < n) : ∀ w c, ∀ x ∈ dig n w c, x < n
  | 0, _, x, h => by simp [dig] at h
  | w + 1, c, x, h => by
    rw [dig_cons] at h
    rcases List.mem_cons.1 h with rfl | h
    · exact Nat.mod_lt _ hn
    · exact dig_lt hn w c x h
/-- All lists that go on with so many numbers below n. -/
def allX (n : Nat) : Nat → List Nat → List (List Nat)
  | 0, f => [f]
  | k + 1, f => (List.range n).flatMap fun t => allX n k (f ++ [t])
theorem range_mul (a b : Nat) : List.range (a * b) = (List.range a).flatMap fun t => (List.range b).map (t * b + ·) := by
  induction a with
  | zero => simp
  | succ a ih => rw [Nat.succ_mul, List.range_add, ih, List.range_succ, List.flatMap_append, List.flatMap_singleton]
theorem dig_top (n : Nat) (hn : 0 < n) : ∀ (k t c : Nat), t < n → c < n ^ k → dig n (k + 1) (t * n ^ k + c) = t :: dig n k c := by
  intro k t c ht hc
  rw [dig_cons]
  have hp : 0 < n ^ k := Nat.pow_pos hn
  have h1 : (t * n ^ k + c) / n ^ k = t := by
    rw [Nat.mul_comm, Nat.mul_add_div hp, Nat.div_eq_of_lt hc, Nat.add_zero]
  rw [h1, Nat.mod_eq_of_lt ht]
  congr 1
  have key : ∀ (j : Nat), j ≤ k → dig n j (t * n ^ k + c) = dig n j c := by
    intro j
    induction j with
    | zero => intro _; rfl
    | succ j ih =>
      intro hj
      rw [dig_cons, dig_cons, ih (by omega)]
      congr 1
      have e : t * n ^ k = n ^ j * (n * (t * n ^ (k - (j + 1)))) := by
        have : n ^ k = n ^ j * n * n ^ (k - (j + 1)) := by rw [← Nat.pow_succ, ← Nat.pow_add]; congr 1; omega
        rw [this]
        ac_rfl
      rw [e, Nat.mul_add_div (Nat.pow_pos hn), Nat.mul_add_mod]
  exact key k (Nat.le_refl _)
theorem allX_dig {n : Nat} (hn : 0 < n) : ∀ (k : Nat) (f : List Nat), allX n k f = (List.range (n ^ k)).map fun c => f ++ dig n k c
  | 0, f => by simp [allX, dig]
  | k + 1, f => by
    rw [allX, Nat.pow_succ, Nat.mul_comm, range_mul, List.map_flatMap]
    refine flatMap_same fun t ht => ?_
    rw [allX_dig hn k, List.map_map]
    refine List.map_congr_left fun c hc => ?_
    show f ++ [t] ++ dig n k c = f ++ dig n (k + 1) (t * n ^ k + c)
    rw [dig_top n hn k t c (List.mem_range.1 ht) (List.mem_range.1 hc), List.append_assoc]
    rfl
theorem allX_prefix {n : Nat} : ∀ (k : Nat) (f g : List Nat), g ∈ allX n k f → f <+: g
  | 0, f, g, h => by
    rw [allX, List.mem_singleton] at h
    rw [h]
    exact List.prefix_refl _
  | k + 1, f, g, h => by
    rw [allX, List.mem_flatMap] at h
    obtain ⟨t, _, h⟩ := h
    exact (List.prefix_append f [t]).trans (allX_prefix k _ g h)
/-- Whether all places from one on fit. -/
def okFrom (ts : List Tile) (b : Nat) (g : List Nat) (i n : Nat) : Bool := (List.range n).all fun j => fitsB ts b (g.take (i + j)) (At g (i + j))
theorem fillsF_filter (ts : List Tile) (b : Nat) : ∀ (n : Nat) (f : List Nat), fillsF ts b n f = (allX ts.length n f).filter fun g => okFrom ts b g f.length n
  | 0, f => by simp [fillsF, allX, okFrom]
  | n + 1, f => by
    rw [fillsF, allX, List.filter_flatMap]
    refine flatMap_same fun t _ => ?_
    have hg : ∀ g ∈ allX ts.length n (f ++ [t]), okFrom ts b g f.length (n + 1) = (fitsB ts b f t && okFrom ts b g (f.length + 1) n) := fun g hg => by
      obtain ⟨r, rfl⟩ := allX_prefix n _ g hg
      have e1 : ((f ++ [t]) ++ r).take f.length = f := by rw [List.append_assoc, List.take_left']; rfl
      have e2 : At ((f ++ [t]) ++ r) f.length = t := by
        unfold At
        rw [List.append_assoc, List.getD_eq_getElem?_getD, List.getElem?_append_right (Nat.le_refl _), Nat.sub_self]
        rfl
      unfold okFrom
      rw [List.range_succ_eq_map, List.all_cons, List.all_map, Nat.add_zero, e1, e2]
      congr 1
      refine List.all_congr rfl fun j => ?_
      show fitsB ts b (((f ++ [t]) ++ r).take (f.length + (j + 1))) (At ((f ++ [t]) ++ r) (f.length + (j + 1))) = _
      rw [show f.length + (j + 1) = f.length + 1 + j by omega]
    rw [List.filter_congr hg]
    cases hf : fitsB ts b f t with
    | false => simp
    | true =>
      rw [if_pos rfl, fillsF_filter ts b n (f ++ [t])]
      simp
/-- Whether a code's row fits. -/
def okRow (ts : List Tile) (W c : Nat) : Bool := okFrom ts W (dig ts.length W c) 0 W
theorem fillsF_codes (ts : List Tile) (W : Nat) (hn : 0 < ts.length) : fillsF ts W W [] = ((List.range (ts.length ^ W)).filter fun c => okRow ts W c).map fun c => dig ts.length W c := by
  rw [fillsF_filter, allX_dig hn, List.filter_map]
  simp only [List.nil_append]
  rfl
/-- The rows among the first codes. -/
def rowsTo (ts : List Tile) (W k : Nat) : List (List Nat) := ((List.range k).filter fun c => okRow ts W c).map fun c => dig ts.length W c
theorem rowsTo_yes {ts : List Tile} {W k : Nat} (h : okRow ts W k = true) : rowsTo ts W (k + 1) = rowsTo ts W k ++ [dig ts.length W k] := by
  unfold rowsTo
  rw [List.range_succ, List.filter_append, List.map_append]
  simp [h]
theorem rowsTo_no {ts : List Tile} {W k : Nat} (h : okRow ts W k = false) : rowsTo ts W (k + 1) = rowsTo ts W k := by
  unfold rowsTo
  rw [List.range_succ, List.filter_append, List.map_append]
  simp [h]
theorem rowsTo_length (ts : List Tile) (W k : Nat) : (rowsTo ts W k).length ≤ k := by
  unfold rowsTo
  rw [List.length_map]
  have := List.length_filter_le (fun c => okRow ts W c) (List.range k)
  rw [List.length_range] at this
  exact this
theorem nats_bk (g : List Nat) : (nats g).map Int.toNat = g := by
  unfold nats
  rw [List.map_map]
  have : (Int.toNat ∘ fun i : Nat => (i : Int)) = id := by funext i; rfl
  rw [this, List.map_id]
theorem Xa_nats (g : List Nat) (i : Nat) : Xa (nats g) i = (At g i : Nat) := by
  unfold Xa At nats
  rw [List.getD_eq_getElem?_getD, List.getD_eq_getElem?_getD, List.getElem?_map]
  cases g[i]? <;> rfl
theorem nats_take' (g : List Nat) (i : Nat) : ((nats g).take i).map Int.toNat = g.take i := by
  rw [List.map_take, nats_bk]
/-- The reference's test says the same of a code's row. -/
theorem isFill_dig {ts : List Tile} {W c : Nat} (hW : Wangs ts) (hl : 0 < ts.length) (h1 : 1 ≤ W ∧ W ≤ 4) : decide (IsFill ts W 1 (nats (dig ts.length W c))) = okRow ts W c := by
  rw [Bool.eq_iff_iff, decide_eq_true_iff]
  have hlen : (nats (dig ts.length W c)).length = W := by rw [nats_length, dig_length]
  unfold okRow okFrom
  rw [List.all_eq_true]
  constructor
  · rintro ⟨_, _, _, hf⟩ j hj
    have hj' := List.mem_range.1 hj
    have := (hf j (by rw [hlen]; exact hj')).2
    rw [nats_take', Xa_nats, Int.toNat_natCast, Int.toNat_natCast] at this
    rw [Nat.zero_add]
    exact this
  · intro h
    refine ⟨hW, ⟨⟨by omega, by omega⟩, by omega, by omega⟩, by rw [hlen]; omega, fun i hi => ?_⟩
    rw [hlen] at hi
    rw [nats_take', Xa_nats, Int.toNat_natCast, Int.toNat_natCast]
    have h2 := h i (List.mem_range.2 hi)
    rw [Nat.zero_add] at h2
    refine ⟨⟨by omega, ?_⟩, h2⟩
    have h3 := dig_lt hl W c ((dig ts.length W c)[i]'(by rw [dig_length]; exact hi)) (List.getElem_mem _)
    unfold At
    rw [List.getD_eq_getElem?_getD, List.getElem?_eq_getElem (by rw [dig_length]; exact hi)]
    show (((dig ts.length W c)[i]'(by rw [dig_length]; exact hi) : Nat) : Int) < _
    omega
/-- Whether a row fits below another one. -/
def fitV (ts : List Tile) (a c : List Nat) : Nat → Bool
  | 0 => true
  | x + 1 => fitV ts a c x && decide ((Tl ts (At a x)).b = (Tl ts (At c x)).t)
def nextTo (ts : List Tile) (W : Nat) (rows : List (List Nat)) (i k : Nat) : List Nat := (List.range k).filter fun j => fitV ts (rows.getD i []) (rows.getD j []) W
theorem nextTo_yes {ts : List Tile} {W i k : Nat} {rows : List (List Nat)} (h : fitV ts (rows.getD i []) (rows.getD k []) W = true) : nextTo ts W rows i (k + 1) = nextTo ts W rows i k ++ [k] := by
  unfold nextTo
  rw [List.range_succ, List.filter_append, List.filter_cons, if_pos h]
  rfl
theorem nextTo_no {ts : List Tile} {W i k : Nat} {rows : List (List Nat)} (h : fitV ts (rows.getD i []) (rows.getD k []) W = false) : nextTo ts W rows i (k + 1) = nextTo ts W rows i k := by
  unfold nextTo
  rw [List.range_succ, List.filter_append, List.filter_cons, if_neg (by rw [h]; decide), List.filter_nil, List.append_nil]
theorem nextTo_length (ts : List Tile) (W : Nat) (rows : List (List Nat)) (i k : Nat) : (nextTo ts W rows i k).length ≤ k := by
  unfold nextTo
  have := List.length_filter_le (fun j => fitV ts (rows.getD i []) (rows.getD j []) W) (List.range k)
  rw [List.length_range] at this
  exact this
/-- The rows, then what fits below the first ones of them. -/
def rgTo (ts : List Tile) (W : Nat) (rows : List (List Nat)) (k : Nat) : List (List Int) := rows.map nats ++ (List.range k).map fun i => nats (nextTo ts W rows i rows.length)
theorem rgTo_succ (ts : List Tile) (W : Nat) (rows : List (List Nat)) (k : Nat) : rgTo ts W rows (k + 1) = rgTo ts W rows k ++ [nats (nextTo ts W rows k rows.length)] := by
  unfold rgTo
  rw [List.range_succ, List.map_append, List.append_assoc]
  rfl
theorem rgTo_length (ts : List Tile) (W : Nat) (rows : List (List Nat)) (k : Nat) : (rgTo ts W rows k).length = rows.length + k := by
  unfold rgTo
  rw [List.length_append, List.length_map, List.length_map, List.length_range]
theorem rgTo_at (ts : List Tile) (W : Nat) (rows : List (List Nat)) (k i : Nat) (hi : i < rows.length) : (rgTo ts W rows k)[i]? = some (nats rows[i]) := by
  unfold rgTo
  rw [List.getElem?_append_left (by rw [List.length_map]; exact hi), List.getElem?_map, List.getElem?_eq_getElem hi]
  rfl
def rgOk (ts : List Tile) (w : Int) : Prop := Wangs ts ∧ 1 ≤ w ∧ w ≤ 3
instance (ts : List Tile) (w : Int) : Decidable (rgOk ts w) := by unfold rgOk; infer_instance
def rgF (ts : List Tile) (w : Int) : List (List Nat) := fillsF ts w.toNat w.toNat []
def rgL (ts : List Tile) (w : Int) : List (List Int) := if rgOk ts w ∧ (rgF ts w).length ≤ 40 then rgTo ts w.toNat (rgF ts w) (rgF ts w).length else []
def rgB (ts : List Tile) (w : Int) : Bool := decide (rgOk ts w ∧ (rgF ts w).length ≤ 40)
/-- Visited up to the first that is too many. -/
def rgCont (L : List (List Nat)) : Bool := decide (L.length ≤ 40)
theorem visit_rg : ∀ (Fs L : List (List Nat)), L.length ≤ 40 → (visit rgCont Fs L).1 = L ++ Fs.take (41 - L.length)
  | [], L, _ => by simp [visit]
  | f :: Fs, L, h => by
    have hl : (L ++ [f]).length = L.length + 1 := by simp
    by_cases h2 : L.length + 1 ≤ 40
    · have hc : rgCont (L ++ [f]) = true := by unfold rgCont; rw [hl]; exact decide_eq_true h2
      rw [visit, if_pos hc, visit_rg Fs _ (by rw [hl]; exact h2), hl, show 41 - L.length = (41 - (L.length + 1)) + 1 by omega, List.take_succ_cons, List.append_assoc]
      rfl
    · have hc : rgCont (L ++ [f]) = false := by unfold rgCont; rw [hl]; exact decide_eq_false h2
      rw [visit, if_neg (by rw [hc]; decide), show 41 - L.length = 1 by omega]
      rfl
end Go.Proofs.YtdnklmdmafbogaaDoor
