/- AllPk0: parts laid together: Packs0, Memo0. -/
import Derived.Test.YtcoggnoeafpgbaaGreatAllOnes
import Derived.Test.YtcoggnoeafpgbaaGreatAllBase
import Derived.Test.YtcoggnoeafpgbaaGreatAllFrame
import Derived.Maps.OwnOps
import Derived.Maps.OwnSet
import Derived.Maps.Views
import Derived.DeepKeys4
import Derived.ChangeKeys

/- Packs0: largest lists of masks without common cells: the program's greedy choice is the reference's first largest; plain. -/
namespace Go.Proofs.YtcoggnoeafpgbaaGreat

/-- The greatest number of masks without cells that are used. -/
def mostL : List Int → Nat → Nat
  | [], _ => 0
  | v :: t, used => if v.toNat &&& used = 0 then max (mostL t used) (1 + mostL t (used ||| v.toNat)) else mostL t used
/-- The program's list: the first mask that loses nothing, again and again. -/
def packL : List Int → Nat → List Int
  | [], _ => []
  | v :: t, used => if v.toNat &&& used = 0 ∧ 1 + mostL t (used ||| v.toNat) = mostL (v :: t) used then v :: packL t (used ||| v.toNat) else packL t used
theorem packL_length : ∀ (l : List Int) (used : Nat), (packL l used).length = mostL l used
  | [], _ => rfl
  | v :: t, used => by
    have h1 := packL_length t used
    have h2 := packL_length t (used ||| v.toNat)
    rw [packL]
    by_cases hz : v.toNat &&& used = 0
    · have hm : mostL (v :: t) used = max (mostL t used) (1 + mostL t (used ||| v.toNat)) := by rw [mostL, if_pos hz]
      by_cases hq : 1 + mostL t (used ||| v.toNat) = mostL (v :: t) used
      · rw [if_pos ⟨hz, hq⟩, List.length_cons, h2, ← hq, Nat.add_comm]
      · rw [if_neg (fun q : _ ∧ _ => hq q.2), h1]
        rw [hm] at hq ⊢
        omega
    · rw [if_neg (fun q : _ ∧ _ => hz q.1), h1, mostL, if_neg hz]
/-- The reference's: behind a best list so far. -/
def packS : List Int → Nat → List Int → List Int
  | [], _, best => best
  | v :: t, used, best => if v.toNat &&& used = 0 then packS t used (if best.length < (v :: packS t (used ||| v.toNat) []).length then v :: packS t (used ||| v.toNat) [] else best) else packS t used best
theorem packS_eq : ∀ (l : List Int) (used : Nat) (best : List Int), packS l used best = if best.length < mostL l used then packL l used else best
  | [], used, best => by rw [packS, mostL, if_neg (Nat.not_lt_zero _)]
  | v :: t, used, best => by
    by_cases hz : v.toNat &&& used = 0
    · have hx : packS t (used ||| v.toNat) [] = packL t (used ||| v.toNat) := by
        rw [packS_eq t (used ||| v.toNat) []]
        by_cases h : ([] : List Int).length < mostL t (used ||| v.toNat)
        · rw [if_pos h]
        · rw [if_neg h]
          have := packL_length t (used ||| v.toNat)
          rw [List.length_nil] at h
          exact (List.eq_nil_of_length_eq_zero (by omega)).symm
      have hm : mostL (v :: t) used = max (mostL t used) (1 + mostL t (used ||| v.toNat)) := by rw [mostL, if_pos hz]
      have hl2 := packL_length t (used ||| v.toNat)
      rw [packS, if_pos hz, hx, packS_eq t used, packL, List.length_cons, hl2]
      generalize mostL t (used ||| v.toNat) = a at hm hl2 ⊢
      generalize mostL t used = b at hm ⊢
      generalize mostL (v :: t) used = m at hm ⊢
      by_cases hb : best.length < a + 1
      · rw [if_pos hb, List.length_cons, hl2]
        by_cases h2 : a + 1 < b
        · rw [if_pos h2, if_pos (by omega), if_neg (by omega)]
        · rw [if_neg h2, if_pos (by omega), if_pos ⟨hz, by omega⟩]
      · rw [if_neg hb]
        by_cases h2 : best.length < b
        · rw [if_pos h2, if_pos (by omega), if_neg (by omega)]
        · rw [if_neg h2, if_neg (by omega)]
    · have e1 : mostL (v :: t) used = mostL t used := by rw [mostL, if_neg hz]
      have e2 : packL (v :: t) used = packL t used := by rw [packL, if_neg (fun q : _ ∧ _ => hz q.1)]
      rw [packS, if_neg hz, packS_eq t used best, e1, e2]
theorem packS_nil (l : List Int) (used : Nat) : packS l used [] = packL l used := by
  rw [packS_eq]
  by_cases h : ([] : List Int).length < mostL l used
  · rw [if_pos h]
  · rw [if_neg h]
    have := packL_length l used
    rw [List.length_nil] at h
    exact (List.eq_nil_of_length_eq_zero (by omega)).symm
theorem mostL_le : ∀ (l : List Int) (used : Nat), mostL l used ≤ l.length
  | [], _ => Nat.le_refl _
  | v :: t, used => by
    have h1 := mostL_le t used
    have h2 := mostL_le t (used ||| v.toNat)
    rw [mostL, List.length_cons]
    split <;> omega
theorem packL_le (l : List Int) (used : Nat) : (packL l used).length ≤ l.length := by rw [packL_length]; exact mostL_le l used
theorem packL_mem : ∀ (l : List Int) (used : Nat), ∀ v ∈ packL l used, v ∈ l
  | [], _, v, h => h
  | u :: t, used, v, h => by
    rw [packL] at h
    split at h
    · rcases List.mem_cons.1 h with rfl | h
      · exact List.mem_cons_self
      · exact List.mem_cons_of_mem _ (packL_mem t _ v h)
    · exact List.mem_cons_of_mem _ (packL_mem t _ v h)
end Go.Proofs.YtcoggnoeafpgbaaGreat

/- Memo0: a map whose keys are pairs of numbers, that the call makes: what it remembers; how it is asked and filled. -/
namespace Go.Proofs.YtcoggnoeafpgbaaGreat
open Go.RowKit Go.Maps

theorem pair_row : (92 : TypeId) < Tryz.prog.types.size := of_decide_eq_true (by kernel_rfl)
theorem pair_cells : Tryz.prog.cellsOf 92 = 2 := by kernel_rfl
theorem int_cells : Tryz.prog.cellsOf 3 = 1 := by kernel_rfl
theorem pair_wide : (match Tryz.prog.underlying 92 with | some (.array _ _) | some (.struct _) => true | _ => false) = true := by rw [Tryz.underlying92]
theorem pair_deep : Tryz.prog.keyTypeAt 2 92 = true := by kernel_rfl
set_option maxRecDepth 100000 in
theorem pairKey : Keyed Tryz.prog 92 := Keyed.of_law (deep_law_laid Tryz.laid (m := 2) (by omega) pair_row pair_deep pair_wide)
theorem pair_type : Tryz.prog.keyType 92 = true := by kernel_rfl
/-- The key that a pair is. -/
def pkey (i u : Nat) : Lit := .string (keyBytes [.int .i64 (i : Int), .int .i64 (u : Int)])
theorem int_wf {v : Int} (h0 : 0 ≤ v) (h : v < 9223372036854775808) : (Lit.int .i64 v).wf = true := by
  have e1 : IntKind.i64.min = -9223372036854775808 := by decide
  have e2 : IntKind.i64.max = 9223372036854775807 := by decide
  show (decide (IntKind.i64.min ≤ v) && decide (v ≤ IntKind.i64.max)) = true
  rw [decide_eq_true (show IntKind.i64.min ≤ v by rw [e1]; omega), decide_eq_true (show v ≤ IntKind.i64.max by rw [e2]; omega)]
  rfl
theorem pair_lits {a b : Int} (ha : (Lit.int .i64 a).wf = true) (hb : (Lit.int .i64 b).wf = true) (d : Nat) : Tryz.prog.keyLits (d + 2) 92 [.int .i64 a, .int .i64 b] = some [.int .i64 a, .int .i64 b] := by
  have h1 : ∀ c : Int, (Lit.int .i64 c).wf = true → Tryz.prog.keyLits (d + 1) 3 [.int .i64 c] = some [.int .i64 c] := fun c hc => by
    unfold Program.keyLits
    rw [Tryz.underlying3]
    simp [hc]
  unfold Program.keyLits
  rw [Tryz.underlying92]
  have e : List.range 2 = [0, 1] := rfl
  simp [pair_cells, int_cells, e, h1 a ha, h1 b hb]
theorem keyOf_pair {i u : Nat} (hi : i < 9223372036854775808) (hu : u < 9223372036854775808) : keyOf Tryz.prog 92 (.agg #[.int .i64 (i : Int), .int .i64 (u : Int)]) = some (pkey i u) := by
  have hs : ∃ d, Tryz.prog.types.size + 1 = d + 2 := by
    have h : 92 < Tryz.prog.types.size := pair_row
    generalize Tryz.prog.types.size = n at h ⊢
    exact ⟨n - 1, by omega⟩
  obtain ⟨d, hd⟩ := hs
  have hl := pair_lits (int_wf (v := (i : Int)) (by omega) (by omega)) (int_wf (v := (u : Int)) (by omega) (by omega)) d
  have hf : (Value.agg #[.int .i64 (i : Int), .int .i64 (u : Int)]).formed Tryz.prog 92 = true := by simp [Value.formed, Tryz.underlying92, pair_cells]
  unfold keyOf
  rw [Tryz.underlying92]
  show (if (Tryz.prog.keyType 92 && (Value.agg #[.int .i64 (i : Int), .int .i64 (u : Int)]).formed Tryz.prog 92) = true then _ else none) = _
  rw [pair_type, hf, if_pos (show (true && true) = true from rfl), hd]
  show (Tryz.prog.keyLits (d + 2) 92 [.int .i64 (i : Int), .int .i64 (u : Int)]).map _ = _
  rw [hl]
  rfl
theorem pkey_inj {i u i' u' : Nat} (hi : i < 9223372036854775808) (hu : u < 9223372036854775808) (hi' : i' < 9223372036854775808) (hu' : u' < 9223372036854775808) (h : pkey i u = pkey i' u') : i = i' ∧ u = u' := by
  have h1 : keyBytes [.int .i64 (i : Int), .int .i64 (u : Int)] = keyBytes [.int .i64 (i' : Int), .int .i64 (u' : Int)] := by
    unfold pkey at h
    exact Lit.string.inj h
  have h2 := keyBytes_inj (l := [.int .i64 (i : Int), .int .i64 (u : Int)]) (l' := [.int .i64 (i' : Int), .int .i64 (u' : Int)]) ⟨rfl, rfl, trivial⟩
    (by intro a ha; rcases List.mem_cons.1 ha with rfl | ha
        · exact int_wf (by omega) (by omega)
        · rw [List.mem_singleton] at ha; subst ha; exact int_wf (by omega) (by omega))
    (by intro a ha; rcases List.mem_cons.1 ha with rfl | ha
        · exact int_wf (by omega) (by omega)
        · rw [List.mem_singleton] at ha; subst ha; exact int_wf (by omega) (by omega)) h1
  simp only [List.cons.injEq, Lit.int.injEq] at h2
  omega
theorem pkey_is (i u : Nat) : WideAt.IsKeyLit (pkey i u) := trivial

/-- Distinct numbers below a bound are no more than it. -/
theorem nodup_le : ∀ (N : Nat) (l : List Nat), l.Nodup → (∀ x ∈ l, x < N) → l.length ≤ N
  | 0, l, _, h => by
    cases l with
    | nil => exact Nat.le_refl _
    | cons x l => exact absurd (h x List.mem_cons_self) (Nat.not_lt_zero _)
  | N + 1, l, hn, h => by
    have h1 := nodup_le N (l.erase N) (hn.erase N) (fun x hx => by
      have q1 := h x (List.mem_of_mem_erase hx)
      have q2 : x ≠ N := fun e => by
        subst e
        exact (hn.not_mem_erase) hx
      omega)
    have h2 := List.length_erase_le (a := N) (l := l)
    have h3 : l.length ≤ (l.erase N).length + 1 := by
      by_cases q : N ∈ l
      · rw [List.length_erase_of_mem q]; omega
      · rw [List.erase_of_not_mem q]; omega
    omega

/-- What the map remembers is right; c: the pairs that it has, as numbers. -/
def Memo (w : World) (b : Nat) (A : List Int) (D : DataW Unit) : Prop :=
  ∃ cs : List Nat, w.ownsMap Tryz.prog 92 (plainElem Tryz.prog 3) b cs.length D ∧ cs.Nodup ∧ (∀ c ∈ cs, c < 1048576 * 68719476736 ∧ Maps.has D (pkey (c / 68719476736) (c % 68719476736)) = true) ∧
    ∀ i u, i < 1048576 → u < 68719476736 → Maps.has D (pkey i u) = true → ∀ z, D.atKey (pkey i u) z = .lit (.int .i64 (mostL (A.drop i) u : Nat))
theorem Memo.kept {w w' : World} {b : Nat} {A : List Int} {D : DataW Unit} {row : Option Nat} (h : Memo w b A D) (hg : w.grownBy w' row) (hne : some b ≠ row) : Memo w' b A D := by
  obtain ⟨cs, h1, h2⟩ := h
  exact ⟨cs, h1.kept hg hne, h2⟩
theorem Memo.made (w : World) (A : List Int) : Memo (w.alloc (.map #[] 0)) w.heap.size A (.map []) :=
  ⟨[], World.ownsMap_made _ _ _ _, List.nodup_nil, fun c hc => by simp at hc, fun i u _ _ h => by cases h⟩
theorem Memo.lt {w : World} {b : Nat} {A : List Int} {D : DataW Unit} (h : Memo w b A D) : b < w.heap.size := by
  obtain ⟨cs, h1, _⟩ := h
  exact h1.lt
/-- v, ok := m[key]. -/
theorem memo_look {w : World} {b : Nat} {A : List Int} {D : DataW Unit} (hown : Memo w b A D) (i u : Nat) (hi : i < 1048576) (hu : u < 68719476736) :
    ∃ c : Int, Sem.run Tryz.prog (Instr.lookup 68 (.map (some b)) (.agg #[.int .i64 (i : Int), .int .i64 (u : Int)]) true) w = .ok (.tuple #[.int .i64 c, .bool (Maps.has D (pkey i u))]) w ∧
      (Maps.has D (pkey i u) = true → c = (mostL (A.drop i) u : Nat)) := by
  obtain ⟨cs, h1, _, _, h4⟩ := hown
  have hz : (zeroValue 3).run Tryz.prog w = .ok (.int .i64 0) w := by kernel_rfl
  obtain ⟨v, ps, hrun, hv⟩ := h1.look_ok pairKey Tryz.underlying68 hz (plainElem_int Tryz.underlying3 (by decide)) (keyOf_pair (Nat.lt_trans hi (by decide)) (Nat.lt_trans hu (by decide)))
  obtain ⟨c, rfl, hc, _⟩ := plainElem_int_inv Tryz.underlying3 hv
  simp only [Prod.mk.injEq] at hc
  exact ⟨c, hrun, fun q => by
    have e := h4 i u hi hu q (.lit (.int .i64 0))
    rw [hc.1] at e
    simp only [DataW.lit.injEq, Lit.int.injEq] at e
    exact e.2⟩
/-- m[key] = v. -/
theorem memo_tell {w : World} {b : Nat} {A : List Int} {D : DataW Unit} (hown : Memo w b A D) (i u : Nat) (hi : i < 1048576) (hu : u < 68719476736) (hm2 : mostL (A.drop i) u < 9223372036854775808) (hno : Maps.has D (pkey i u) = false) :
    ∃ w' D', Sem.run Tryz.prog (Instr.mapUpdate 68 (.map (some b)) (.agg #[.int .i64 (i : Int), .int .i64 (u : Int)]) (.int .i64 (mostL (A.drop i) u : Nat))) w = .ok () w' ∧
      Memo w' b A D' ∧ w.grownBy w' (some b) ∧ (∀ i' u', i' < 1048576 → u' < 68719476736 → i' ≠ i → Maps.has D' (pkey i' u') = Maps.has D (pkey i' u')) := by
  obtain ⟨cs, h1, h2, h3, h4⟩ := hown
  have hlen : cs.length ≤ 1048576 * 68719476736 := nodup_le _ cs h2 (fun c hc => (h3 c hc).1)
  have hi64 : i < 9223372036854775808 := Nat.lt_trans hi (by decide)
  have hu64 : u < 9223372036854775808 := Nat.lt_trans hu (by decide)
  obtain ⟨w', hrun, q1, q2⟩ := h1.update pairKey Tryz.underlying68 (Nat.lt_of_le_of_lt hlen (by decide)) (keyOf_pair hi64 hu64) (plainElem_int Tryz.underlying3 (int_wf (v := (mostL (A.drop i) u : Nat)) (by omega) (by omega)))
  have hother : ∀ i' u', i' < 1048576 → u' < 68719476736 → (i' ≠ i ∨ u' ≠ u) → pkey i' u' ≠ pkey i u := fun i' u' r1 r2 r3 e => by
    have := pkey_inj (Nat.lt_trans r1 (by decide)) (Nat.lt_trans r2 (by decide)) hi64 hu64 e
    omega
  refine ⟨w', D.put (pkey i u) (.lit (.int .i64 (mostL (A.drop i) u : Nat))), hrun, ?_, q2, fun i' u' r1 r2 r3 => has_put_other (hother _ _ r1 r2 (.inl r3)) _⟩
  refine ⟨(i * 68719476736 + u) :: cs, q1, ?_, ?_, ?_⟩
  · rw [List.nodup_cons]
    refine ⟨fun hc => ?_, h2⟩
    have q := (h3 _ hc).2
    have e1 : (i * 68719476736 + u) / 68719476736 = i := by omega
    have e2 : (i * 68719476736 + u) % 68719476736 = u := by omega
    rw [e1, e2, hno] at q
    cases q
  · intro c hc
    have hcl : c < 1048576 * 68719476736 := by
      rcases List.mem_cons.1 hc with rfl | hc
      · have : (i + 1) * 68719476736 ≤ 1048576 * 68719476736 := Nat.mul_le_mul_right _ hi
        omega
      · exact (h3 c hc).1
    refine ⟨hcl, ?_⟩
    by_cases e : c / 68719476736 = i ∧ c % 68719476736 = u
    · rw [e.1, e.2]
      exact has_put_same h1.isMap (pkey_is i u) _
    · rw [has_put_other (hother _ _ (Nat.div_lt_of_lt_mul (by rw [Nat.mul_comm]; exact hcl)) (Nat.mod_lt _ (by decide)) (by omega))]
      rcases List.mem_cons.1 hc with rfl | hc
      · exfalso
        apply e
        omega
      · exact (h3 c hc).2
  · intro i' u' r1 r2 r3 z
    by_cases e : i' = i ∧ u' = u
    · obtain ⟨rfl, rfl⟩ := e
      exact atKey_put_same h1.isMap (pkey_is _ _) _ z
    · rw [has_put_other (hother _ _ r1 r2 (by omega))] at r3
      rw [atKey_put_other (hother _ _ r1 r2 (by omega))]
      exact h4 i' u' r1 r2 r3 z
end Go.Proofs.YtcoggnoeafpgbaaGreat
