/- MakeStep: make([]T, n) in a region that draws its order; a map of integers that the call makes, by what keys it has. -/
import Derived.Test.YtomaihbaffoplaaGreatDoorAllBase
import Derived.Test.YtomaihbaffoplaaGreatDoorAllMk
import Derived.Maps.RangeWalk
import Derived.Maps.OwnOps
import Derived.Maps.Views
namespace Go.Proofs.YtomaihbaffoplaaGreatDoor
open Go.RowKit Go.Maps

theorem intKey : Keyed Tryz.prog 3 := int_keyed Tryz.underlying3
/-- Block b is a map of at most n entries whose keys are those x with S x. -/
def MapI (w : World) (b n : Nat) (S : Int → Bool) : Prop := ∃ D : DataW Unit, w.ownsMap Tryz.prog 3 (plainElem Tryz.prog 3) b n D ∧ (∀ x, Maps.has D (.int .i64 x) = S x) ∧ ∀ k, Maps.has D k = true → ∃ x, k = .int .i64 x ∧ S x = true
theorem MapI.made (w : World) : MapI (w.alloc (.map #[] 0)) w.heap.size 0 (fun _ => false) := ⟨_, World.ownsMap_made _ _ _ _, fun _ => rfl, fun k h => by cases h⟩
theorem MapI.kept {w w' : World} {b n : Nat} {S : Int → Bool} {row : Option Nat} (h : MapI w b n S) (hg : w.grownBy w' row) (hne : some b ≠ row) : MapI w' b n S := by
  obtain ⟨D, h1, h2⟩ := h
  exact ⟨D, h1.kept hg hne, h2⟩
theorem MapI.mono {w : World} {b n n' : Nat} {S : Int → Bool} (h : MapI w b n S) (hn : n ≤ n') : MapI w b n' S := by
  obtain ⟨D, h1, h2⟩ := h
  exact ⟨D, h1.mono hn, h2⟩
theorem below_grown {w w' : World} (h : Below w.heap.size w w') : w.grownBy w' none := ⟨h.os, h.tape, h.output, h.size, fun i hi _ => h.block i hi⟩
theorem MapI.below {w w' : World} {b n : Nat} {S : Int → Bool} (h : MapI w b n S) (hb : Below w.heap.size w w') : MapI w' b n S := h.kept (below_grown hb) (by simp)
theorem MapI.lt {w : World} {b n : Nat} {S : Int → Bool} (h : MapI w b n S) : b < w.heap.size := by
  obtain ⟨D, h1, _⟩ := h
  exact h1.lt
theorem MapI.congr {w : World} {b n : Nat} {S S' : Int → Bool} (h : MapI w b n S) (hs : ∀ x, S x = S' x) : MapI w b n S' := by
  obtain rfl : S = S' := funext hs
  exact h
section
variable {P : Program} {ops : Array Oper} {rest : List Oper} {o : Oper} {a : Act} {w : World} {Q : Exit → Act → World → Prop}
/-- m[x] = v. -/
theorem wpList_putI (hg : o.guard = none) (m x v : Operand) (hop : o.op = Op.mapUpdate 81 m x v) (b n : Nat) (S : Int → Bool) (hm : a.eval m = .map (some b)) (hown : MapI w b n S) (hn : n < maxLen)
    (k c : Int) (hx : a.eval x = .int .i64 k) (hv : a.eval v = .int .i64 c) (hwk : (Lit.int .i64 k).wf = true) (hwc : (Lit.int .i64 c).wf = true)
    (hK : ∀ w', MapI w' b (n + 1) (fun y => decide (y = k) || S y) → w.grownBy w' (some b) → wpList Tryz.prog ops Q rest (a.put o.dst undef) w') :
    wpList Tryz.prog ops Q (o :: rest) a w := by
  obtain ⟨D, h1, h2, h3⟩ := hown
  refine wpList_mapUpdate_own w hg m x v 81 hop 3 3 intKey Tryz.underlying81 _ b n D hm h1 hn _ _ (.int .i64 k) hx hv (keyOf_int_mk Tryz.underlying3 hwk) _ [] (plainElem_int Tryz.underlying3 hwc) ?_
  intro w' q1 q2
  refine hK w' ⟨_, q1, fun y => ?_, fun kl hkl => ?_⟩ q2
  · by_cases e : y = k
    · rw [e, has_put_same (k := Lit.int .i64 k) h1.isMap trivial]
      simp
    · rw [has_put_other (fun q => e (by cases q; rfl)), h2]
      simp [e]
  · by_cases e : kl = .int .i64 k
    · exact ⟨k, e, by simp⟩
    · rw [has_put_other e] at hkl
      obtain ⟨y, r1, r2⟩ := h3 kl hkl
      exact ⟨y, r1, by simp [r2]⟩
end
/-- A loop over such a map: those keys x with L x are still to come. -/
def RangesI (w : World) (b r n : Nat) (S : Int → Bool) (L : Int → Bool) (cnt : Nat) : Prop :=
  ∃ (D : DataW Unit) (left : Lit → Bool), w.ranges Tryz.prog 3 (plainElem Tryz.prog 3) b r n D left cnt ∧ (∀ x, left (.int .i64 x) = L x) ∧ ∀ k, left k = true → ∃ x, k = .int .i64 x ∧ S x = true
theorem RangesI.kept {w w' : World} {b r n cnt : Nat} {S L : Int → Bool} {row : Option Nat} (h : RangesI w b r n S L cnt) (hg : w.grownBy w' row) (h1 : some b ≠ row) (h2 : some r ≠ row) : RangesI w' b r n S L cnt := by
  obtain ⟨D, left, q1, q2⟩ := h
  exact ⟨D, left, q1.kept hg h1 h2, q2⟩
theorem RangesI.left_eq {w : World} {b r n cnt : Nat} {S L : Int → Bool} (h : RangesI w b r n S L cnt) : w.rangeLeft b r = cnt := by
  obtain ⟨D, left, q1, _⟩ := h
  exact q1.left_eq
theorem RangesI.congr {w : World} {b r n cnt : Nat} {S L L' : Int → Bool} (h : RangesI w b r n S L cnt) (hs : ∀ x, L x = L' x) : RangesI w b r n S L' cnt := by
  obtain rfl : L = L' := funext hs
  exact h
theorem RangesI.lt {w : World} {b r n cnt : Nat} {S L : Int → Bool} (h : RangesI w b r n S L cnt) : b < w.heap.size ∧ r < w.heap.size ∧ r ≠ b := by
  obtain ⟨D, left, q1, _⟩ := h
  exact ⟨q1.owns.lt, q1.lt, q1.ne⟩
section
variable {ops : Array Oper} {rest : List Oper} {o : Oper} {a : Act} {w : World} {Q : Exit → Act → World → Prop}
theorem wpList_rangeI (hg : o.guard = none) (m : Operand) (hop : o.op = Op.range 81 m) (b n : Nat) (S : Int → Bool) (hm : a.eval m = .map (some b)) (hown : MapI w b n S)
    (hK : ∀ w' cnt, RangesI w' b w.heap.size n S S cnt → w.grownBy w' none → w'.heap.size = w.heap.size + 1 → wpList Tryz.prog ops Q rest (a.put o.dst (.pointer (some ⟨w.heap.size, 0, none⟩))) w') :
    wpList Tryz.prog ops Q (o :: rest) a w := by
  obtain ⟨D, h1, h2, h3⟩ := hown
  refine wpList_range_own w hg m 81 hop 3 3 intKey Tryz.underlying81 _ b n D hm h1 ?_
  intro w' q1 q2 q3
  exact hK w' _ ⟨D, _, q1, h2, h3⟩ q2 q3
theorem wpList_nextI (hg : o.guard = none) (it : Operand) (hop : o.op = Op.next it false) (b r n cnt : Nat) (S L : Int → Bool) (hit : a.eval it = .pointer (some ⟨r, 0, none⟩)) (h : RangesI w b r n S L cnt)
    (hDone : (∀ x, L x = false) → wpList Tryz.prog ops Q rest (a.put o.dst (.tuple #[.bool false])) w)
    (hMore : ∀ (x c : Int) (w' : World) (cnt' : Nat), L x = true → S x = true → RangesI w' b r n S (fun y => L y && !decide (y = x)) cnt' → cnt' < cnt → w.grownBy w' (some r) → w'.heap.size = w.heap.size →
      (Instr.entry (.pointer (some ⟨r, 0, none⟩))).run Tryz.prog w' = .ok (.tuple #[.int .i64 x, .int .i64 c]) w' → wpList Tryz.prog ops Q rest (a.put o.dst (.tuple #[.bool true, .int .i64 x, .int .i64 c])) w') :
    wpList Tryz.prog ops Q (o :: rest) a w := by
  obtain ⟨D, left, h1, h2, h3⟩ := h
  refine wpList_next_ranges_ii w hg it hop 3 3 .i64 .i64 intKey Tryz.underlying3 Tryz.underlying3 b r n D left cnt hit h1 (fun _ hl => hDone fun x => by rw [← h2, hl]) ?_
  intro x c w' cnt' _ _ hlx _ hr' hlt hg' hs' hen
  obtain ⟨x', e, hS⟩ := h3 _ hlx
  cases e
  have hlx' : L x = true := by rw [← h2]; exact hlx
  refine hMore x c w' cnt' hlx' hS ⟨D, _, hr', fun y => ?_, fun k hk => h3 k ?_⟩ hlt hg' hs' hen
  · show (left (.int .i64 y) && !(Lit.int .i64 y).sameKey (.int .i64 x)) = _
    rw [h2]
    congr 2
    rw [Bool.eq_iff_iff]
    simp [Lit.sameKey]
  · simp only [Bool.and_eq_true] at hk
    exact hk.1
end
end Go.Proofs.YtomaihbaffoplaaGreatDoor
