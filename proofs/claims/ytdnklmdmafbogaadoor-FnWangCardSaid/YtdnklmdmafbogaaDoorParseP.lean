/- ParseP: reading tiles: the pieces between the spaces, and the tiles at every fifth place; plain. -/
import Derived.Test.YtdnklmdmafbogaaDoorText1
import Derived.Lib.SplitLaws
namespace Go.Proofs.YtdnklmdmafbogaaDoor
open Go.RowKit

/-- The pieces between the spaces. -/
def spl : List UInt8 → List (List UInt8)
  | [] => [[]]
  | b :: l => if b = 32 then [] :: spl l else match spl l with
    | [] => [[b]]
    | x :: xs => (b :: x) :: xs
theorem spl_ne (l : List UInt8) : spl l ≠ [] := by
  cases l with
  | nil => simp [spl]
  | cons b l =>
    rw [spl]
    split
    · simp
    · split <;> simp
theorem indexByte_cons (b c : UInt8) (l : List UInt8) : Lib.indexByte (b :: l) c = if b = c then 0 else if Lib.indexByte l c = -1 then -1 else Lib.indexByte l c + 1 := by
  rw [Lib.indexByte]
  by_cases h : b = c
  · simp [h]
  · simp only [h, if_false, beq_iff_eq]
theorem spl_is : ∀ l : List UInt8, Lib.splitK [32] 0 (Lib.count l [32]) l = spl l
  | [] => by
    rw [Lib.count_one]
    rfl
  | b :: l => by
    have ih := spl_is l
    by_cases hb : b = 32
    · subst hb
      rw [Lib.count_cons_eq, Nat.add_comm, Lib.splitK, Lib.index_one, indexByte_cons, if_pos rfl, spl, if_pos rfl, ← ih]
      simp
    · rw [Lib.count_cons_ne b 32 l hb, spl, if_neg hb, ← ih]
      cases hk : Lib.count l [32] with
      | zero => rfl
      | succ k =>
        rw [Lib.splitK, Lib.splitK, Lib.index_one, Lib.index_one, indexByte_cons, if_neg hb]
        have hge := Lib.indexByte_ge l 32
        by_cases hm : Lib.indexByte l 32 = -1
        · exfalso
          have := Lib.count_miss (s := l) (sub := [32]) (by rw [Lib.index_one]; exact hm)
          omega
        · rw [if_neg hm]
          obtain ⟨i, hi⟩ : ∃ i : Nat, Lib.indexByte l 32 = (i : Int) := ⟨(Lib.indexByte l 32).toNat, by omega⟩
          rw [hi]
          have e1 : ((i : Int) + 1 == -1) = false := beq_false_of_ne (by omega)
          have e2 : ((i : Int) == -1) = false := beq_false_of_ne (by omega)
          have e3 : ((i : Int) + 1).toNat = i + 1 := by omega
          simp [e1, e2, e3]
theorem spl_join : ∀ l : List UInt8, Lib.join (spl l) [32] = l
  | [] => rfl
  | b :: l => by
    have ih := spl_join l
    obtain ⟨x, xs, hx⟩ : ∃ x xs, spl l = x :: xs := by
      cases h : spl l with
      | nil => exact absurd h (spl_ne l)
      | cons x xs => exact ⟨x, xs, rfl⟩
    rw [spl]
    rw [hx] at ih ⊢
    by_cases hb : b = 32
    · rw [if_pos hb, hb]
      rw [Lib.join_cons] at ih
      rw [Lib.join_cons]
      unfold Lib.joinTail at ih ⊢
      simp
      exact ih
    · rw [if_neg hb]
      show Lib.join ((b :: x) :: xs) [32] = _
      rw [Lib.join_cons] at ih ⊢
      rw [List.cons_append, ih]
theorem spl_clean : ∀ (p : List UInt8), (∀ b ∈ p, b ≠ 32) → spl p = [p]
  | [], _ => rfl
  | b :: p, h => by
    have ih := spl_clean p fun x hx => h x (List.mem_cons_of_mem _ hx)
    rw [spl, if_neg (h b List.mem_cons_self), ih]
theorem spl_app : ∀ (p l : List UInt8), (∀ b ∈ p, b ≠ 32) → spl (p ++ 32 :: l) = p :: spl l
  | [], l, _ => by
    rw [List.nil_append, spl, if_pos rfl]
  | b :: p, l, h => by
    have ih := spl_app p l fun x hx => h x (List.mem_cons_of_mem _ hx)
    rw [List.cons_append, spl, if_neg (h b List.mem_cons_self), ih]
theorem spl_of_join : ∀ (x : List UInt8) (xs : List (List UInt8)), (∀ p ∈ x :: xs, ∀ b ∈ p, b ≠ 32) → spl (Lib.join (x :: xs) [32]) = x :: xs
  | x, [], h => by
    rw [Lib.join_one]
    exact spl_clean x (h x List.mem_cons_self)
  | x, y :: ys, h => by
    have ih := spl_of_join y ys fun p hp => h p (List.mem_cons_of_mem _ hp)
    have e : Lib.join (x :: y :: ys) [32] = x ++ 32 :: Lib.join (y :: ys) [32] := by
      rw [Lib.join_cons, Lib.join_cons]
      unfold Lib.joinTail
      simp
    rw [e, spl_app x _ (h x List.mem_cons_self), ih]

/-- The tile that four signs spell. -/
def tileOf (p : List UInt8) : Tile := ⟨((p.getD 0 0).toNat : Int) - 48, ((p.getD 1 0).toNat : Int) - 48, ((p.getD 2 0).toNat : Int) - 48, ((p.getD 3 0).toNat : Int) - 48⟩
/-- The tile at the i-th fifth place. -/
def tileAt (s : List UInt8) (i : Nat) : Tile := ⟨((s.getD (i * 5) 0).toNat : Int) - 48, ((s.getD (i * 5 + 1) 0).toNat : Int) - 48, ((s.getD (i * 5 + 2) 0).toNat : Int) - 48, ((s.getD (i * 5 + 3) 0).toNat : Int) - 48⟩
def tilesAt (s : List UInt8) (k : Nat) : List Tile := (List.range k).map (tileAt s)
theorem tilesAt_succ (s : List UInt8) (k : Nat) : tilesAt s (k + 1) = tilesAt s k ++ [tileAt s k] := by
  unfold tilesAt
  rw [List.range_succ, List.map_append]
  rfl
theorem tilesAt_length (s : List UInt8) (k : Nat) : (tilesAt s k).length = k := by simp [tilesAt]
/-- What the program asks. -/
def okI (s : List UInt8) : Prop := (∀ p ∈ spl s, p.length = 4) ∧ (spl s).length ≤ 6 ∧ Wangs ((spl s).map tileOf)
/-- What the reference asks. -/
def okS (s : List UInt8) : Prop := s.length % 5 = 4 ∧ s.length ≤ 40 ∧ (fmtW (tilesAt s ((s.length + 1) / 5))).data.toList = s
instance (s : List UInt8) : Decidable (okI s) := by unfold okI; infer_instance
theorem join_len4 : ∀ (x : List UInt8) (xs : List (List UInt8)), (∀ p ∈ x :: xs, p.length = 4) → (Lib.join (x :: xs) [32]).length + 1 = 5 * (x :: xs).length
  | x, [], h => by
    rw [Lib.join_one, h x List.mem_cons_self]
    rfl
  | x, y :: ys, h => by
    have ih := join_len4 y ys fun p hp => h p (List.mem_cons_of_mem _ hp)
    have e : Lib.join (x :: y :: ys) [32] = x ++ 32 :: Lib.join (y :: ys) [32] := by
      rw [Lib.join_cons, Lib.join_cons]
      unfold Lib.joinTail
      simp
    have h4 := h x List.mem_cons_self
    rw [e, List.length_append, List.length_cons, List.length_cons]
    rw [List.length_cons] at ih
    rw [List.length_cons]
    omega
theorem tileAt_app (p l : List UInt8) (hp : p.length = 4) (i : Nat) : tileAt (p ++ 32 :: l) (i + 1) = tileAt l i := by
  have e : ∀ j, (p ++ 32 :: l).getD ((i + 1) * 5 + j) 0 = l.getD (i * 5 + j) 0 := fun j => by
    rw [List.getD_eq_getElem?_getD, List.getD_eq_getElem?_getD, List.getElem?_append_right (by omega), hp]
    have : (i + 1) * 5 + j - 4 = (i * 5 + j) + 1 := by omega
    rw [this, List.getElem?_cons_succ]
  unfold tileAt
  have e0 := e 0
  rw [Nat.add_zero] at e0
  rw [e0, e 1, e 2, e 3]
  rfl
theorem tileAt_head (p l : List UInt8) (hp : p.length = 4) : tileAt (p ++ l) 0 = tileOf p := by
  have e : ∀ j, j < 4 → (p ++ l).getD j 0 = p.getD j 0 := fun j hj => by
    rw [List.getD_eq_getElem?_getD, List.getD_eq_getElem?_getD, List.getElem?_append_left (by omega)]
  unfold tileAt tileOf
  simp only [Nat.zero_mul, Nat.zero_add]
  rw [e 0 (by omega), e 1 (by omega), e 2 (by omega), e 3 (by omega)]
theorem tiles_join : ∀ (x : List UInt8) (xs : List (List UInt8)), (∀ p ∈ x :: xs, p.length = 4) → tilesAt (Lib.join (x :: xs) [32]) (x :: xs).length = (x :: xs).map tileOf
  | x, [], h => by
    rw [Lib.join_one]
    have e := tileAt_head x [] (h x List.mem_cons_self)
    rw [List.append_nil] at e
    show [tileAt x 0] = [tileOf x]
    rw [e]
  | x, y :: ys, h => by
    have ih := tiles_join y ys fun p hp => h p (List.mem_cons_of_mem _ hp)
    have e : Lib.join (x :: y :: ys) [32] = x ++ 32 :: Lib.join (y :: ys) [32] := by
      rw [Lib.join_cons, Lib.join_cons]
      unfold Lib.joinTail
      simp
    have h4 := h x List.mem_cons_self
    rw [e, List.map_cons, ← ih]
    unfold tilesAt
    rw [List.length_cons, List.range_succ_eq_map, List.map_cons, List.map_map, tileAt_head x _ h4]
    congr 1
    apply List.map_congr_left
    intro i _
    exact tileAt_app x _ h4 i
theorem tileB_list {x : Tile} (h : TileFine x) : (tileB x).data.toList = [UInt8.ofNat (48 + x.t.toNat), UInt8.ofNat (48 + x.r.toNat), UInt8.ofNat (48 + x.b.toNat), UInt8.ofNat (48 + x.l.toNat)] := by
  obtain ⟨h1, h2, h3, h4⟩ := h
  unfold Col at h1 h2 h3 h4
  unfold tileB
  rw [ba_list, ba_list, ba_list, numB_small (by omega), numB_small (by omega), numB_small (by omega), numB_small (by omega)]
  rfl
theorem col_byte {a : Int} (h : Col a) : ((UInt8.ofNat (48 + a.toNat)).toNat : Int) - 48 = a ∧ UInt8.ofNat (48 + a.toNat) ≠ 32 := by
  unfold Col at h
  have e : (UInt8.ofNat (48 + a.toNat)).toNat = 48 + a.toNat := by
    rw [UInt8.toNat_ofNat']
    omega
  refine ⟨by rw [e]; omega, fun q => ?_⟩
  have := congrArg UInt8.toNat q
  rw [e] at this
  have e2 : (32 : UInt8).toNat = 32 := rfl
  omega
theorem tileOf_B {x : Tile} (h : TileFine x) : tileOf (tileB x).data.toList = x := by
  rw [tileB_list h]
  obtain ⟨h1, h2, h3, h4⟩ := h
  obtain ⟨a, b, c, d⟩ := x
  simp only [tileOf, List.getD_cons_zero, List.getD_cons_succ]
  rw [(col_byte h1).1, (col_byte h2).1, (col_byte h3).1, (col_byte h4).1]
theorem byte_col {b : UInt8} (h : Col ((b.toNat : Int) - 48)) : UInt8.ofNat (48 + ((b.toNat : Int) - 48).toNat) = b := by
  unfold Col at h
  apply UInt8.toNat_inj.1
  rw [UInt8.toNat_ofNat']
  have := b.toNat_lt
  omega
theorem tileB_of {p : List UInt8} (hp : p.length = 4) (h : TileFine (tileOf p)) : (tileB (tileOf p)).data.toList = p := by
  rw [tileB_list h]
  obtain ⟨h1, h2, h3, h4⟩ := h
  match p, hp with
  | [a, b, c, d], _ =>
    simp only [tileOf, List.getD_cons_zero, List.getD_cons_succ] at h1 h2 h3 h4 ⊢
    rw [byte_col h1, byte_col h2, byte_col h3, byte_col h4]
theorem fmtW_list {ts : List Tile} (h : Wangs ts) : (fmtW ts).data.toList = Lib.join (ts.map fun x => (tileB x).data.toList) [32] := by
  have q := fmtTo_join ts ts.length (Nat.le_refl _)
  rw [List.take_length] at q
  rw [show fmtW ts = fmtTo ts ts.length from if_pos h, q]
theorem ok_same (s : List UInt8) : okI s ↔ okS s := by
  constructor
  · rintro ⟨h4, h6, hw⟩
    obtain ⟨x, xs, hx⟩ : ∃ x xs, spl s = x :: xs := by
      cases h : spl s with
      | nil => exact absurd h (spl_ne s)
      | cons x xs => exact ⟨x, xs, rfl⟩
    have hj := spl_join s
    rw [hx] at h4 h6 hw hj
    have hl := join_len4 x xs h4
    have ht := tiles_join x xs h4
    rw [hj] at hl ht
    have hk : (s.length + 1) / 5 = (x :: xs).length := by omega
    refine ⟨by omega, by omega, ?_⟩
    rw [hk, ht, fmtW_list hw, List.map_map]
    have e : (x :: xs).map ((fun x => (tileB x).data.toList) ∘ tileOf) = x :: xs := by
      conv => rhs; rw [← List.map_id (x :: xs)]
      apply List.map_congr_left
      intro p hp
      exact tileB_of (h4 p hp) (hw.1 _ (List.mem_map_of_mem hp))
    rw [e, hj]
  · rintro ⟨h5, h40, hf⟩
    generalize hts : tilesAt s ((s.length + 1) / 5) = ts at hf
    have hw : Wangs ts := by
      by_cases h : Wangs ts
      · exact h
      · rw [show fmtW ts = ⟨#[]⟩ from if_neg h] at hf
        have := congrArg List.length hf
        change 0 = s.length at this
        omega
    rw [fmtW_list hw] at hf
    obtain ⟨x, xs, hx⟩ : ∃ x xs, ts = x :: xs := by
      cases h : ts with
      | nil => rw [h] at hw; exact absurd hw.2.1 (by simp)
      | cons x xs => exact ⟨x, xs, rfl⟩
    have hno : ∀ p ∈ ts.map (fun x => (tileB x).data.toList), ∀ b ∈ p, b ≠ 32 := by
      intro p hp b hb
      obtain ⟨y, hy, rfl⟩ := List.mem_map.1 hp
      have hfy := hw.1 y hy
      rw [tileB_list hfy] at hb
      obtain ⟨h1, h2, h3, h4⟩ := hfy
      simp only [List.mem_cons, List.mem_nil_iff, or_false] at hb
      rcases hb with rfl | rfl | rfl | rfl
      · exact (col_byte h1).2
      · exact (col_byte h2).2
      · exact (col_byte h3).2
      · exact (col_byte h4).2
    have hs : spl s = ts.map fun x => (tileB x).data.toList := by
      rw [← hf]
      rw [hx, List.map_cons] at hno ⊢
      exact spl_of_join _ _ hno
    unfold okI
    rw [hs]
    refine ⟨?_, by rw [List.length_map]; exact hw.2.2, ?_⟩
    · intro p hp
      obtain ⟨y, hy, rfl⟩ := List.mem_map.1 hp
      rw [tileB_list (hw.1 y hy)]
      rfl
    · have e : (ts.map fun x => (tileB x).data.toList).map tileOf = ts := by
        rw [List.map_map]
        conv => rhs; rw [← List.map_id ts]
        apply List.map_congr_left
        intro y hy
        exact tileOf_B (hw.1 y hy)
      rw [e]
      exact hw
theorem tiles_same {s : List UInt8} (h : okI s) : tilesAt s ((s.length + 1) / 5) = (spl s).map tileOf := by
  obtain ⟨h4, _, _⟩ := h
  obtain ⟨x, xs, hx⟩ : ∃ x xs, spl s = x :: xs := by
    cases h : spl s with
    | nil => exact absurd h (spl_ne s)
    | cons x xs => exact ⟨x, xs, rfl⟩
  have hj := spl_join s
  rw [hx] at h4 hj ⊢
  have hl := join_len4 x xs h4
  have ht := tiles_join x xs h4
  rw [hj] at hl ht
  have hk : (s.length + 1) / 5 = (x :: xs).length := by omega
  rw [hk, ht]
/-- What is read. -/
def parseT (s : List UInt8) : List Tile := if okI s then (spl s).map tileOf else []
end Go.Proofs.YtdnklmdmafbogaaDoor
