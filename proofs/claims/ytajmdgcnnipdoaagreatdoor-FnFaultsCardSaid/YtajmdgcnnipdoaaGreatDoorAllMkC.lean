/- AllMkC: parts laid together: MakeStep, Crossings. -/
import Derived.Test.YtajmdgcnnipdoaaGreatDoorAllBase
import Derived.Test.YtajmdgcnnipdoaaGreatDoorAllMk
import Derived.Maps.RangeWalk
import Derived.Maps.OwnOps
import Derived.Maps.Views
import Derived.Test.YtajmdgcnnipdoaaGreatDoorAllCr
import Derived.Deep.RegionHeld3
import Derived.Deep.DeepCutAuto
import Derived.Deep.DrawnRows

/- MakeStep: make([]T, n) in a region that draws its order; a map of integers that the call makes, by what keys it has. -/
namespace Go.Proofs.YtajmdgcnnipdoaaGreatDoor
open Go.RowKit Go.Maps

theorem intKey : Keyed Tryz.prog 3 := int_keyed Tryz.underlying3
/-- Block b is a map of at most n entries whose keys are those x with S x. -/
def MapI (w : World) (b n : Nat) (S : Int → Bool) : Prop := ∃ D : DataW Unit, w.ownsMap Tryz.prog 3 (plainElem Tryz.prog 3) b n D ∧ (∀ x, Maps.has D (.int .i64 x) = S x) ∧ ∀ k, Maps.has D k = true → ∃ x, k = .int .i64 x ∧ S x = true
theorem MapI.made (w : World) : MapI (w.alloc (.map #[] 0)) w.heap.size 0 (fun _ => false) := ⟨_, World.ownsMap_made _ _ _ _, fun _ => rfl, fun k h => by cases h⟩
theorem MapI.kept {w w' : World} {b n : Nat} {S : Int → Bool} {row : Option Nat} (h : MapI w b n S) (hg : w.grownBy w' row) (hne : some b ≠ row) : MapI w' b n S := by
  obtain ⟨D, h1, h2⟩ := h
  exact ⟨D, h1.kept hg hne, h2⟩
theorem MapI.mono {w : World} {b n n' : Nat} {S : Int → Bool} (h : MapI w b n S) (hn : n ≤ n') : MapI w b n' S := by
  obtain ⟨D, h1, h2⟩ := h
  exact ⟨D, h1.mono hn, h2⟩
theorem below_grown {w w' : World} (h : Below w.heap.size w w') : w.grownBy w' none := ⟨h.os, h.tape, h.output, h.size, fun i hi _ => h.block i hi⟩
theorem MapI.below {w w' : World} {b n : Nat} {S : Int → Bool} (h : MapI w b n S) (hb : Below w.heap.size w w') : MapI w' b n S := h.kept (below_grown hb) (by simp)
theorem MapI.lt {w : World} {b n : Nat} {S : Int → Bool} (h : MapI w b n S) : b < w.heap.size := by
  obtain ⟨D, h1, _⟩ := h
  exact h1.lt
theorem MapI.congr {w : World} {b n : Nat} {S S' : Int → Bool} (h : MapI w b n S) (hs : ∀ x, S x = S' x) : MapI w b n S' := by
  obtain rfl : S = S' := funext hs
  exact h
section
variable {P : Program} {ops : Array Oper} {rest : List Oper} {o : Oper} {a : Act} {w : World} {Q : Exit → Act → World → Prop}
/-- m[x] = v. -/
theorem wpList_putI (hg : o.guard = none) (m x v : Operand) (hop : o.op = Op.mapUpdate 103 m x v) (b n : Nat) (S : Int → Bool) (hm : a.eval m = .map (some b)) (hown : MapI w b n S) (hn : n < maxLen)
    (k c : Int) (hx : a.eval x = .int .i64 k) (hv : a.eval v = .int .i64 c) (hwk : (Lit.int .i64 k).wf = true) (hwc : (Lit.int .i64 c).wf = true)
    (hK : ∀ w', MapI w' b (n + 1) (fun y => decide (y = k) || S y) → w.grownBy w' (some b) → wpList Tryz.prog ops Q rest (a.put o.dst undef) w') :
    wpList Tryz.prog ops Q (o :: rest) a w := by
  obtain ⟨D, h1, h2, h3⟩ := hown
  refine wpList_mapUpdate_own w hg m x v 103 hop 3 3 intKey Tryz.underlying103 _ b n D hm h1 hn _ _ (.int .i64 k) hx hv (keyOf_int_mk Tryz.underlying3 hwk) _ [] (plainElem_int Tryz.underlying3 hwc) ?_
  intro w' q1 q2
  refine hK w' ⟨_, q1, fun y => ?_, fun kl hkl => ?_⟩ q2
  · by_cases e : y = k
    · rw [e, has_put_same (k := Lit.int .i64 k) h1.isMap trivial]
      simp
    · rw [has_put_other (fun q => e (by cases q; rfl)), h2]
      simp [e]
  · by_cases e : kl = .int .i64 k
    · exact ⟨k, e, by simp⟩
    · rw [has_put_other e] at hkl
      obtain ⟨y, r1, r2⟩ := h3 kl hkl
      exact ⟨y, r1, by simp [r2]⟩
end
/-- A loop over such a map: those keys x with L x are still to come. -/
def RangesI (w : World) (b r n : Nat) (S : Int → Bool) (L : Int → Bool) (cnt : Nat) : Prop :=
  ∃ (D : DataW Unit) (left : Lit → Bool), w.ranges Tryz.prog 3 (plainElem Tryz.prog 3) b r n D left cnt ∧ (∀ x, left (.int .i64 x) = L x) ∧ ∀ k, left k = true → ∃ x, k = .int .i64 x ∧ S x = true
theorem RangesI.kept {w w' : World} {b r n cnt : Nat} {S L : Int → Bool} {row : Option Nat} (h : RangesI w b r n S L cnt) (hg : w.grownBy w' row) (h1 : some b ≠ row) (h2 : some r ≠ row) : RangesI w' b r n S L cnt := by
  obtain ⟨D, left, q1, q2⟩ := h
  exact ⟨D, left, q1.kept hg h1 h2, q2⟩
theorem RangesI.left_eq {w : World} {b r n cnt : Nat} {S L : Int → Bool} (h : RangesI w b r n S L cnt) : w.rangeLeft b r = cnt := by
  obtain ⟨D, left, q1, _⟩ := h
  exact q1.left_eq
theorem RangesI.congr {w : World} {b r n cnt : Nat} {S L L' : Int → Bool} (h : RangesI w b r n S L cnt) (hs : ∀ x, L x = L' x) : RangesI w b r n S L' cnt := by
  obtain rfl : L = L' := funext hs
  exact h
theorem RangesI.lt {w : World} {b r n cnt : Nat} {S L : Int → Bool} (h : RangesI w b r n S L cnt) : b < w.heap.size ∧ r < w.heap.size ∧ r ≠ b := by
  obtain ⟨D, left, q1, _⟩ := h
  exact ⟨q1.owns.lt, q1.lt, q1.ne⟩
section
variable {ops : Array Oper} {rest : List Oper} {o : Oper} {a : Act} {w : World} {Q : Exit → Act → World → Prop}
theorem wpList_rangeI (hg : o.guard = none) (m : Operand) (hop : o.op = Op.range 103 m) (b n : Nat) (S : Int → Bool) (hm : a.eval m = .map (some b)) (hown : MapI w b n S)
    (hK : ∀ w' cnt, RangesI w' b w.heap.size n S S cnt → w.grownBy w' none → w'.heap.size = w.heap.size + 1 → wpList Tryz.prog ops Q rest (a.put o.dst (.pointer (some ⟨w.heap.size, 0, none⟩))) w') :
    wpList Tryz.prog ops Q (o :: rest) a w := by
  obtain ⟨D, h1, h2, h3⟩ := hown
  refine wpList_range_own w hg m 103 hop 3 3 intKey Tryz.underlying103 _ b n D hm h1 ?_
  intro w' q1 q2 q3
  exact hK w' _ ⟨D, _, q1, h2, h3⟩ q2 q3
theorem wpList_nextI (hg : o.guard = none) (it : Operand) (hop : o.op = Op.next it false) (b r n cnt : Nat) (S L : Int → Bool) (hit : a.eval it = .pointer (some ⟨r, 0, none⟩)) (h : RangesI w b r n S L cnt)
    (hDone : (∀ x, L x = false) → wpList Tryz.prog ops Q rest (a.put o.dst (.tuple #[.bool false])) w)
    (hMore : ∀ (x c : Int) (w' : World) (cnt' : Nat), L x = true → S x = true → RangesI w' b r n S (fun y => L y && !decide (y = x)) cnt' → cnt' < cnt → w.grownBy w' (some r) → w'.heap.size = w.heap.size →
      (Instr.entry (.pointer (some ⟨r, 0, none⟩))).run Tryz.prog w' = .ok (.tuple #[.int .i64 x, .int .i64 c]) w' → wpList Tryz.prog ops Q rest (a.put o.dst (.tuple #[.bool true, .int .i64 x, .int .i64 c])) w') :
    wpList Tryz.prog ops Q (o :: rest) a w := by
  obtain ⟨D, left, h1, h2, h3⟩ := h
  refine wpList_next_ranges_ii w hg it hop 3 3 .i64 .i64 intKey Tryz.underlying3 Tryz.underlying3 b r n D left cnt hit h1 (fun _ hl => hDone fun x => by rw [← h2, hl]) ?_
  intro x c w' cnt' _ _ hlx _ hr' hlt hg' hs' hen
  obtain ⟨x', e, hS⟩ := h3 _ hlx
  cases e
  have hlx' : L x = true := by rw [← h2]; exact hlx
  refine hMore x c w' cnt' hlx' hS ⟨D, _, hr', fun y => ?_, fun k hk => h3 k ?_⟩ hlt hg' hs' hen
  · show (left (.int .i64 y) && !(Lit.int .i64 y).sameKey (.int .i64 x)) = _
    rw [h2]
    congr 2
    rw [Bool.eq_iff_iff]
    simp [Lit.sameKey]
  · simp only [Bool.and_eq_true] at hk
    exact hk.1
end
end Go.Proofs.YtajmdgcnnipdoaaGreatDoor

/- Crossings: the walk of the program's crossings. -/
namespace Go.Proofs.YtajmdgcnnipdoaaGreatDoor
open Go.RowKit Go.Maps

attribute [local go_sem ↓] Go.wp_at_zero Go.wp_at_succ

/-- Which of the first j cells have a neighbour to the right, by column; and below, by row. -/
def seenX (l : List Cl) (j : Nat) (x : Int) : Bool := (l.take j).any fun c => decide (c.x = x) && hasC l (c.x + 1) c.y
def seenY (l : List Cl) (j : Nat) (y : Int) : Bool := (l.take j).any fun c => decide (c.y = y) && hasC l c.x (c.y + 1)
theorem seenX_succ (l : List Cl) (j : Nat) (hj : j < l.length) (x : Int) : seenX l (j + 1) x = (seenX l j x || (decide (l[j].x = x) && hasC l (l[j].x + 1) l[j].y)) := by
  unfold seenX
  rw [List.take_succ_eq_append_getElem hj, List.any_append]
  simp
theorem seenY_succ (l : List Cl) (j : Nat) (hj : j < l.length) (y : Int) : seenY l (j + 1) y = (seenY l j y || (decide (l[j].y = y) && hasC l l[j].x (l[j].y + 1))) := by
  unfold seenY
  rw [List.take_succ_eq_append_getElem hj, List.any_append]
  simp
theorem seenX_all (l : List Cl) (x : Int) : seenX l l.length x = colX l x := by simp [seenX, colX]
theorem seenY_all (l : List Cl) (y : Int) : seenY l l.length y = colY l y := by simp [seenY, colY]
theorem cls_places' (a : Nat) (l : List Nat) : placeCells a l = cls (placesOf a l) := (cls_places a l).symm
/-- The counts, those keys counted that are no longer to come. -/
def cntF (f : List Cl → Int → Bool) (b : Int) (xs ls : List Int) (n k : Nat) (v : Int) (L : Int → Bool) : List Int :=
  (List.range n).map fun x : Nat => ((cntTo f b xs ls (x : Int) k : Nat) : Int) + if f (maskC b xs v) x = true ∧ L x = false then 1 else 0
theorem cntF_length (f : List Cl → Int → Bool) (b : Int) (xs ls : List Int) (n k : Nat) (v : Int) (L : Int → Bool) : (cntF f b xs ls n k v L).length = n := by simp [cntF]
theorem cntF_start (f : List Cl → Int → Bool) (b : Int) (xs ls : List Int) (n k : Nat) (v : Int) (L : Int → Bool) (h : ∀ x, L x = f (maskC b xs v) x) : cntF f b xs ls n k v L = cntL f b xs ls n k := by
  unfold cntF cntL
  refine List.map_congr_left fun x _ => ?_
  rw [if_neg (by rw [h]; cases f (maskC b xs v) x <;> simp)]
  omega
theorem cntF_end (f : List Cl → Int → Bool) (b : Int) (xs ls : List Int) (n k : Nat) (hk : k < ls.length) (L : Int → Bool) (h : ∀ x, L x = false) : cntF f b xs ls n k ls[k] L = cntL f b xs ls n (k + 1) := by
  unfold cntF cntL
  refine List.map_congr_left fun x _ => ?_
  rw [cntTo_succ f b xs ls x k hk, h]
  cases f (maskC b xs ls[k]) x <;> simp
theorem cntF_at (f : List Cl → Int → Bool) (b : Int) (xs ls : List Int) (n k : Nat) (v : Int) (L : Int → Bool) (x : Nat) (hx : x < n) (hL : L x = true) : (cntF f b xs ls n k v L)[x]'(by rw [cntF_length]; exact hx) = ((cntTo f b xs ls (x : Int) k : Nat) : Int) := by
  simp [cntF, hL]
theorem cntF_step (f : List Cl → Int → Bool) (b : Int) (xs ls : List Int) (n k : Nat) (v : Int) (L : Int → Bool) (x : Nat) (hf : f (maskC b xs v) x = true) :
    (cntF f b xs ls n k v L).set x (((cntTo f b xs ls (x : Int) k : Nat) : Int) + 1) = cntF f b xs ls n k v (fun y => L y && !decide (y = (x : Int))) := by
  apply List.ext_getElem
  · simp [cntF]
  · intro i h1 h2
    rw [List.getElem_set]
    simp only [cntF, List.getElem_map, List.getElem_range]
    split
    · rename_i e
      subst e
      rw [if_pos ⟨hf, by simp⟩]
    · rename_i e
      have : ¬ ((i : Int) = (x : Int)) := by omega
      simp [this]
theorem cntL_zero (f : List Cl → Int → Bool) (b : Int) (xs ls : List Int) (n : Nat) : List.replicate n 0 = cntL f b xs ls n 0 := by
  unfold cntL
  symm
  rw [List.eq_replicate_iff]
  refine ⟨by simp, fun b hb => ?_⟩
  rw [List.mem_map] at hb
  obtain ⟨x, _, rfl⟩ := hb
  simp [cntTo]
theorem cntL_none (f : List Cl → Int → Bool) (hf : ∀ x, f [] x = false) (b : Int) (xs ls : List Int) (n k : Nat) (hk : k < ls.length) (h : isMaskB b xs ls[k] = false) : cntL f b xs ls n (k + 1) = cntL f b xs ls n k := by
  unfold cntL
  refine List.map_congr_left fun x _ => ?_
  have : maskC b xs ls[k] = [] := by unfold maskC; rw [if_neg (by rw [h]; decide)]
  rw [cntTo_succ f b xs ls x k hk, this, hf]
  simp

theorem two_made (W : World) (H : Nat) (hH : W.heap.size = H) (n m : Nat) (hn : n ≤ 1048576) (hm : m ≤ 1048576) :
    (((W.alloc (.cells (intZeros n) 3)).alloc (.cells (intZeros m) 3)).drew).ownsRow H 3 1 (.slice (some ⟨H, 0, none⟩) n n) n (ints (List.replicate n 0)) ∧
    (((W.alloc (.cells (intZeros n) 3)).alloc (.cells (intZeros m) 3)).drew).ownsRow (H + 1) 3 1 (.slice (some ⟨H + 1, 0, none⟩) m m) m (ints (List.replicate m 0)) ∧
    Below W.heap.size W (((W.alloc (.cells (intZeros n) 3)).alloc (.cells (intZeros m) 3)).drew) := by
  subst hH
  have h1 := ownsRow_zeros W n hn
  have h2 := ownsRow_zeros (W.alloc (.cells (intZeros n) 3)) m hm
  have e : (W.alloc (.cells (intZeros n) 3)).heap.size = W.heap.size + 1 := by simp
  rw [e] at h2
  exact ⟨ownsRow_far_below (ownsRow_drewN h1 0) (((Below.refl _ _).alloc (Nat.le_refl _) _).drew) (Nat.le_refl _), h2, (((Below.refl _ _).alloc (Nat.le_refl _) _).alloc (by simp) _).drew⟩
theorem put_seen {S S' : Int → Bool} {k : Int} {h : Bool} (hs : ∀ x, S' x = (S x || (decide (k = x) && h))) : (h = true → ∀ x, (decide (x = k) || S x) = S' x) ∧ (h = false → ∀ x, S x = S' x) := by
  constructor
  · rintro rfl x
    rw [hs, Bool.and_true, Bool.or_comm]
    congr 1
    exact decide_eq_decide.2 eq_comm
  · rintro rfl x
    rw [hs, Bool.and_false, Bool.or_false]
theorem placesC (a m n : Nat) (w : World) (ha : 1 ≤ a ∧ a ≤ 1000) (hm : m < 2 ^ n) (hn : n ≤ 60) :
    Calls Tryz.prog 99 #[.int .i64 a, .int .i64 m] w fun e w' => ∃ ad cap, e = .returned (.slice ad (placesOf a (smBits n m)).length cap) ∧ CellsAt w' ad (cls (placesOf a (smBits n m))) ∧ Below w.heap.size w w' := by
  refine (places_any a m n w ha hm hn).mono ?_
  rintro e w' ⟨v, rfl, ho, hb⟩
  obtain ⟨ad, cap, rfl, h⟩ := ownsRow_cells ho
  rw [placesOf_length, cls_places]
  exact ⟨ad, cap, rfl, h, hb⟩
set_option maxRecDepth 100000 in
set_option maxHeartbeats 6400000 in
theorem implCrossings (B n0 n1 : Nat) (ad al : Option Addr) (c cl : Nat) (xs ls : List Int) (w : World) (hn0 : n0 + 1 = B) (hn1 : n1 + 1 = xs.length) (hr : Reg (B : Int) xs) (hnl : ls.length ≤ 1048576) (hwl : ∀ x ∈ ls, (Lit.int .i64 x).wf = true)
    (hc : CellsAt w ad (ints xs)) (hcl : CellsAt w al (ints ls)) :
    Calls Tryz.prog 62 #[.agg #[.int .i64 B, .slice ad xs.length c], .slice al ls.length cl] w fun e w' => ∃ g0 g1, e = .returned (.tuple #[.slice (some ⟨g0, 0, none⟩) n0 n0, .slice (some ⟨g1, 0, none⟩) n1 n1]) ∧
      g0 ≠ g1 ∧ w.heap.size ≤ g0 ∧ w.heap.size ≤ g1 ∧ w'.ownsRow g0 3 1 (.slice (some ⟨g0, 0, none⟩) n0 n0) n0 (ints (cntL colX B xs ls n0 ls.length)) ∧ w'.ownsRow g1 3 1 (.slice (some ⟨g1, 0, none⟩) n1 n1) n1 (ints (cntL colY B xs ls n1 ls.length)) ∧ Below w.heap.size w w' := by
  have hl6 : xs.length ≤ 6 := hr.2.1.2
  have hb6 : B ≤ 6 := by have := hr.1.2; omega
  have hb1 : 1 ≤ B := by omega
  have hismask := fun v w hv (h : CellsAt w ad (ints xs)) => implIsMask B ad c xs v w hr hv h
  have hmn := fun v h => isMask_nat (v := v) hr h
  have HR := Lib.hid hr
  have HC := Lib.hid hc
  have HCL := Lib.hid hcl
  have HWL := Lib.hid hwl
  have HISM := Lib.hid hismask
  have HMN := Lib.hid hmn
  have hl := ints_length xs
  have hll := ints_length ls
  have hmm := @run_makeMap Tryz.prog
  clear hr hc hcl hwl hismask hmn
  have hbA : Below w.heap.size w (w.alloc (.cells #[.int .i64 B, .slice ad xs.length c] 26)) := (Below.refl _ _).alloc (Nat.le_refl _) _
  have hblkA : (w.alloc (.cells #[.int .i64 B, .slice ad xs.length c] 26)).heap[w.heap.size]? = some (.cells #[.int .i64 B, .slice ad xs.length c] 26 (0, 0)) := heap_alloc_new w _
  have hzA : (w.alloc (.cells #[.int .i64 B, .slice ad xs.length c] 26)).heap.size = w.heap.size + 1 := by simp
  go_enter Tryz.func62, Tryz.ntmps62
  go_upto_region 1 with (fail)
  generalize w.alloc (.cells #[.int .i64 B, .slice ad xs.length c] 26) = wA at hbA hblkA hzA ⊢
  have HBA := Lib.hid hbA
  have HBLKA := Lib.hid hblkA
  have HZA := Lib.hid hzA
  clear hbA hblkA hzA
  go_cut [6, 7] (fun s6 s7 wx => ∃ g0 g1, s6 = .slice (some ⟨g0, 0, none⟩) n0 n0 ∧ s7 = .slice (some ⟨g1, 0, none⟩) n1 n1 ∧ g0 ≠ g1 ∧ wA.heap.size ≤ g0 ∧ wA.heap.size ≤ g1 ∧
    wx.ownsRow g0 3 1 (.slice (some ⟨g0, 0, none⟩) n0 n0) n0 (ints (cntL colX B xs ls n0 0)) ∧ wx.ownsRow g1 3 1 (.slice (some ⟨g1, 0, none⟩) n1 n1) n1 (ints (cntL colY B xs ls n1 0)) ∧ Below wA.heap.size wA wx)
  case first =>
    have x0 : wA.cell? ⟨w.heap.size, 0, none⟩ = some (.int .i64 B) := by rw [cell_of_row wA _ 0 _ _ _ HBLKA.out]; rfl
    have x1 : wA.cell? ⟨w.heap.size, 1, none⟩ = some (.slice ad xs.length c) := by rw [cell_of_row wA _ 1 _ _ _ HBLKA.out]; rfl
    have t0 : IntKind.i64.wrap ((B : Int) - 1) = (n0 : Int) := by rw [IntWalk.i64_in _ (by omega)]; omega
    have t1 : IntKind.i64.wrap ((xs.length : Int) - 1) = (n1 : Int) := by rw [IntWalk.i64_in _ (by omega)]; omega
    have hlt := HZA.out
    have m0 := run_make_ints n0 (by omega)
    have m1 := run_make_ints n1 (by omega)
    go_region_held3 (fun w' => w'.cell? ⟨w.heap.size, 0, none⟩ = some (.int .i64 B) ∧ w'.cell? ⟨w.heap.size, 1, none⟩ = some (.slice ad xs.length c)) (go_keep) (fail)
    all_goals go_wp2_with fail
    all_goals go_meet
    · obtain ⟨q1, q2, q3⟩ := two_made wA (w.heap.size + 1) HZA.out n0 n1 (by omega) (by omega)
      rw [cntL_zero colX B xs ls n0] at q1
      rw [cntL_zero colY B xs ls n1] at q2
      exact ⟨_, _, rfl, rfl, by omega, by omega, by omega, q1, ownsRow_rebase q2 (Nat.le_refl _), q3⟩
    · obtain ⟨q1, q2, q3⟩ := two_made wA (w.heap.size + 1) HZA.out n1 n0 (by omega) (by omega)
      rw [cntL_zero colY B xs ls n1] at q1
      rw [cntL_zero colX B xs ls n0] at q2
      exact ⟨_, _, rfl, rfl, by omega, by omega, by omega, q2, q1, q3⟩
  case rest =>
    rename World => wx
    obtain ⟨g0, g1, rfl, rfl, hne, hg0, hg1, hox, hoy, hbx⟩ := hcut
    have HOX := Lib.hid hox
    have HOY := Lib.hid hoy
    have HBX := Lib.hid hbx
    clear hox hoy hbx
    go_wp2
    go_loopw [28] (fun i wr => ∃ k : Nat, k ≤ ls.length ∧ i = .int .i64 k ∧ wr.ownsRow g0 3 1 (.slice (some ⟨g0, 0, none⟩) n0 n0) n0 (ints (cntL colX B xs ls n0 k)) ∧ wr.ownsRow g1 3 1 (.slice (some ⟨g1, 0, none⟩) n1 n1) n1 (ints (cntL colY B xs ls n1 k)) ∧ Below wA.heap.size wA wr) (fun i _ => ls.length - (intOf i).toNat)
    case atStart => exact ⟨0, by omega, rfl, HOX.out, HOY.out, HBX.out⟩
    case round =>
      obtain ⟨k, hk, rfl, hox, hoy, hb⟩ := hrel
      obtain ⟨wo, rfl⟩ : ∃ wo, wo = wr := ⟨_, rfl⟩
      have HOX := Lib.hid hox
      have HOY := Lib.hid hoy
      have HB := Lib.hid hb
      have hszr := hb.size
      have hzA := HZA.out
      clear hox hoy hb
      by_cases hlt : k < ls.length
      · obtain ⟨g, off, rfl, hg, hcc⟩ := HCL.out.open (by omega)
        have HBW := Lib.hid (HBA.out.trans (HB.out.mono (by omega)))
        have y0 := (HBW.out.cell (p := ⟨g, off + k, none⟩) hg).trans (hcc k _ (ints_at ls k hlt))
        have hwf := HWL.out _ (List.getElem_mem hlt)
        obtain ⟨v, hv⟩ : ∃ v, v = ls[k] := ⟨_, rfl⟩
        rw [← hv] at y0 hwf
        have HV := Lib.hid hv
        have hblk := (HB.out.block w.heap.size (by omega)).trans HBLKA.out
        have x0 : wo.cell? ⟨w.heap.size, 0, none⟩ = some (.int .i64 B) := by rw [cell_of_row wo _ 0 _ _ _ hblk]; rfl
        have x1 : wo.cell? ⟨w.heap.size, 1, none⟩ = some (.slice ad xs.length c) := by rw [cell_of_row wo _ 1 _ _ _ hblk]; rfl
        have hism := fun w => HISM.out v w hwf
        have HWF := Lib.hid hwf
        clear hcc hv hblk hwf
        by_cases hm : isMaskB B xs v = true
        · rw [hm] at hism
          have HIS := Lib.hid hism
          obtain ⟨m, rfl, hmM, hmlt⟩ := HMN.out v hm
          obtain ⟨n, hn⟩ : ∃ n, n = B * xs.length := ⟨_, rfl⟩
          have hn36 : n ≤ 6 * 6 := by rw [hn]; exact Nat.mul_le_mul hb6 hl6
          have hmlt' : m < 2 ^ n := by rw [hn]; simpa using hmlt
          obtain ⟨l, hl0⟩ : ∃ l, l = placesOf B (smBits n m) := ⟨_, rfl⟩
          have hlm : l = maskC B xs (m : Int) := by unfold maskC; rw [if_pos hm, hl0, hn]; simp
          have hlin : ∀ c ∈ l, 0 ≤ c.x ∧ c.x < B ∧ 0 ≤ c.y ∧ c.y < xs.length := fun c hc => maskC_in (v := (m : Int)) (by omega) (hlm ▸ hc)
          have hlen : l.length ≤ 36 := by rw [hlm]; exact maskC_length _ HR.out
          have hpl := fun w => placesC B m n w ⟨hb1, by omega⟩ hmlt' (by omega)
          rw [← hl0] at hpl
          have HPL := Lib.hid hpl
          have HLM := Lib.hid hlm
          have HLIN := Lib.hid hlin
          clear hism hmlt hmlt' hl0 hlm hlin hpl hn hn36 hm
          go_wp2_with fail
          refine (HIS.out _ (HC.out.below HBW.out)).mono ?_
          rintro e w1 ⟨rfl, hb1'⟩
          have hb1A := HB.out.trans (hb1'.mono hszr)
          have hblk := (hb1A.block w.heap.size (by omega)).trans HBLKA.out
          have x0 : w1.cell? ⟨w.heap.size, 0, none⟩ = some (.int .i64 B) := by rw [cell_of_row w1 _ 0 _ _ _ hblk]; rfl
          have x1 : w1.cell? ⟨w.heap.size, 1, none⟩ = some (.slice ad xs.length c) := by rw [cell_of_row w1 _ 1 _ _ _ hblk]; rfl
          have HB1 := Lib.hid hb1'
          clear hb1A hblk hb1'
          go_wp2_with fail
          refine (HPL.out _).mono ?_
          rintro e w2 ⟨ap, cp, rfl, hcp, hb2⟩
          have HCP := Lib.hid hcp
          have HBR := Lib.hid (HB1.out.trans (hb2.mono HB1.out.size))
          have hsz2 : wo.heap.size ≤ w2.heap.size := HBR.out.size
          clear hcp hb2 x0 x1
          go_wp2
          go_loopw [44] (fun i wy => ∃ j : Nat, j ≤ l.length ∧ i = .int .i64 j ∧ MapI wy w2.heap.size j (seenX l j) ∧ MapI wy (w2.heap.size + 1) j (seenY l j) ∧ Below w2.heap.size w2 wy) (fun i _ => l.length - (intOf i).toNat)
          case atStart =>
            refine ⟨0, by omega, rfl, ?_, ?_, ((Below.refl _ _).alloc (Nat.le_refl _) _).alloc (by simp) _⟩
            · exact ((MapI.made w2).kept (World.grownBy_alloc _ _ none) (by simp)).congr (fun x => by simp [seenX])
            · have := MapI.made (w2.alloc (.map #[] 0))
              have e : (w2.alloc (.map #[] 0)).heap.size = w2.heap.size + 1 := by simp
              rw [e] at this
              exact this.congr (fun x => by simp [seenY])
          case round =>
            obtain ⟨j, hj, rfl, hmx, hmy, hby⟩ := hrel
            obtain ⟨wy, rfl⟩ : ∃ wy, wy = wr := ⟨_, rfl⟩
            have HMX := Lib.hid hmx
            have HMY := Lib.hid hmy
            have HBY := Lib.hid hby
            have hszy := hby.size
            clear hmx hmy hby
            have hxa := HMX.out.lt
            have hxb := HMY.out.lt
            by_cases hjl : j < l.length
            · skip
              obtain ⟨gp, op, rfl, hgp, hcp⟩ := cl_open (HCP.out.below HBY.out) (by omega)
              obtain ⟨z0, z1⟩ := hcp j hjl
              have hin := HLIN.out _ (List.getElem_mem hjl)
              have hsx := seenX_succ l j hjl
              have hsy := seenY_succ l j hjl
              clear hcp
              generalize l[j] = d at z0 z1 hin hsx hsy
              obtain ⟨dx, dy⟩ := d
              simp only at z0 z1 hin hsx hsy
              obtain ⟨i1, i2, i3, i4⟩ := hin
              have hhx := fun w h => implHas (some ⟨gp, op, none⟩) cp l (dx + 1) dy w (by omega) h
              have hhy := fun w h => implHas (some ⟨gp, op, none⟩) cp l dx (dy + 1) w (by omega) h
              have WX := Lib.hid (WalkArith.wf_i64 (n := dx) (by omega))
              have WY := Lib.hid (WalkArith.wf_i64 (n := dy) (by omega))
              generalize hasC l (dx + 1) dy = bx at hsx hhx
              generalize hasC l dx (dy + 1) = by' at hsy hhy
              have SX := Lib.hid (put_seen hsx)
              have SY := Lib.hid (put_seen hsy)
              have HHX := Lib.hid hhx
              have HHY := Lib.hid hhy
              clear hsx hsy hhx hhy
              cases bx
              · cases by'
                · skip
                  have SXW := Lib.hid (SX.out.2 rfl)
                  have SYW := Lib.hid (SY.out.2 rfl)
                  clear SX SY
                  go_wp2_with fail
                  refine (HHX.out _ (HCP.out.below (HBY.out.alloc hszy _))).mono ?_
                  rintro e w3 ⟨rfl, hb3⟩
                  have hy3 : Below wy.heap.size wy w3 := ((Below.refl _ _).alloc (Nat.le_refl _) _).trans (hb3.mono (by simp))
                  have hbox : w3.heap[wy.heap.size]? = some (.cells #[.int .i64 dx, .int .i64 dy] 91 (0, 0)) := (hb3.block wy.heap.size (by simp)).trans (heap_alloc_new wy _)
                  have hmx3 := HMX.out.below hy3
                  have hmy3 := HMY.out.below hy3
                  have hz3 := lt_of_blk hbox
                  have hby3 := HBY.out.trans (hy3.mono hszy)
                  clear hb3 hy3
                  have hmx4 := (hmx3.congr SXW.out).mono (Nat.le_succ j)
                  have hmy4 := hmy3
                  have hbox4 := hbox
                  have hby4 := hby3
                  clear hmx3 hmy3 hbox hby3
                  obtain ⟨k0, k1⟩ := cl_box hbox4
                  have HMX4 := Lib.hid hmx4
                  have HMY4 := Lib.hid hmy4
                  have HBY4 := Lib.hid hby4
                  have HBOX4 := Lib.hid hbox4
                  clear hmx4 hmy4 hby4 hbox4
                  go_wp2_with fail
                  refine (HHY.out _ (HCP.out.below HBY4.out)).mono ?_
                  rintro e w5 ⟨rfl, hb5⟩
                  have hmx5 := HMX4.out.below hb5
                  have hmy5 := HMY4.out.below hb5
                  have hby5 := HBY4.out.trans (hb5.mono HBY4.out.size)
                  have HMX5 := Lib.hid hmx5
                  have HMY5 := Lib.hid hmy5
                  have HBY5 := Lib.hid hby5
                  clear hb5 hmx5 hmy5 hby5 k0 k1
                  go_wp2
                  go_roundw
                  case rel => exact ⟨j + 1, by omega, by go_num, HMX5.out, (HMY5.out.congr SYW.out).mono (Nat.le_succ j), HBY5.out⟩
                  case measure => simp [intOf]; omega
                · skip
                  have SXW := Lib.hid (SX.out.2 rfl)
                  have SYW := Lib.hid (SY.out.1 rfl)
                  clear SX SY
                  go_wp2_with fail
                  refine (HHX.out _ (HCP.out.below (HBY.out.alloc hszy _))).mono ?_
                  rintro e w3 ⟨rfl, hb3⟩
                  have hy3 : Below wy.heap.size wy w3 := ((Below.refl _ _).alloc (Nat.le_refl _) _).trans (hb3.mono (by simp))
                  have hbox : w3.heap[wy.heap.size]? = some (.cells #[.int .i64 dx, .int .i64 dy] 91 (0, 0)) := (hb3.block wy.heap.size (by simp)).trans (heap_alloc_new wy _)
                  have hmx3 := HMX.out.below hy3
                  have hmy3 := HMY.out.below hy3
                  have hz3 := lt_of_blk hbox
                  have hby3 := HBY.out.trans (hy3.mono hszy)
                  clear hb3 hy3
                  have hmx4 := (hmx3.congr SXW.out).mono (Nat.le_succ j)
                  have hmy4 := hmy3
                  have hbox4 := hbox
                  have hby4 := hby3
                  clear hmx3 hmy3 hbox hby3
                  obtain ⟨k0, k1⟩ := cl_box hbox4
                  have HMX4 := Lib.hid hmx4
                  have HMY4 := Lib.hid hmy4
                  have HBY4 := Lib.hid hby4
                  have HBOX4 := Lib.hid hbox4
                  clear hmx4 hmy4 hby4 hbox4
                  go_wp2_with fail
                  refine (HHY.out _ (HCP.out.below HBY4.out)).mono ?_
                  rintro e w5 ⟨rfl, hb5⟩
                  have hmx5 := HMX4.out.below hb5
                  have hmy5 := HMY4.out.below hb5
                  have hby5 := HBY4.out.trans (hb5.mono HBY4.out.size)
                  have hbox5 := (hb5.block wy.heap.size (lt_of_blk HBOX4.out)).trans HBOX4.out
                  clear k0 k1
                  obtain ⟨k0, k1⟩ := cl_box hbox5
                  have HMX5 := Lib.hid hmx5
                  have HMY5 := Lib.hid hmy5
                  have HBY5 := Lib.hid hby5
                  clear hb5 hmx5 hmy5 hby5 hbox5
                  go_wp2_with (at_mapUpdate; refine wpList_putI rfl _ _ _ rfl (w2.heap.size + 1) j _ rfl HMY5.out (by unfold maxLen; omega) _ 1 rfl rfl WY.out (by decide) ?_; intro w6 hm6 hg6; go_frame)
                  go_roundw
                  case rel => exact ⟨j + 1, by omega, by go_num, HMX5.out.kept hg6 (by simp), hm6.congr SYW.out, HBY5.out.grown hg6 HBY5.out.size (fun q hq => by cases hq; omega)⟩
                  case measure => simp [intOf]; omega
              · cases by'
                · skip
                  have SXW := Lib.hid (SX.out.1 rfl)
                  have SYW := Lib.hid (SY.out.2 rfl)
                  clear SX SY
                  go_wp2_with fail
                  refine (HHX.out _ (HCP.out.below (HBY.out.alloc hszy _))).mono ?_
                  rintro e w3 ⟨rfl, hb3⟩
                  have hy3 : Below wy.heap.size wy w3 := ((Below.refl _ _).alloc (Nat.le_refl _) _).trans (hb3.mono (by simp))
                  have hbox : w3.heap[wy.heap.size]? = some (.cells #[.int .i64 dx, .int .i64 dy] 91 (0, 0)) := (hb3.block wy.heap.size (by simp)).trans (heap_alloc_new wy _)
                  have hmx3 := HMX.out.below hy3
                  have hmy3 := HMY.out.below hy3
                  have hz3 := lt_of_blk hbox
                  have hby3 := HBY.out.trans (hy3.mono hszy)
                  clear hb3 hy3
                  obtain ⟨k0, k1⟩ := cl_box hbox
                  have HMX3 := Lib.hid hmx3
                  have HMY3 := Lib.hid hmy3
                  have HBOX := Lib.hid hbox
                  have HBY3 := Lib.hid hby3
                  clear hmx3 hmy3 hbox hby3
                  go_wp2_with (first | (at_mapUpdate; refine wpList_putI rfl _ _ _ rfl w2.heap.size j _ rfl HMX3.out (by unfold maxLen; omega) _ 1 rfl rfl WX.out (by decide) ?_; intro w4 hm4 hg4; have hmx4 := hm4.congr SXW.out; have hmy4 := HMY3.out.kept hg4 (by simp); have hbox4 := (hg4.block wy.heap.size hz3 (by simp; omega)).trans HBOX.out; have hby4 := HBY3.out.grown hg4 HBY3.out.size (fun q hq => by cases hq; exact Nat.le_refl _); have hz4 := lt_of_blk hbox4; clear hm4 hg4 k0 k1; obtain ⟨k0, k1⟩ := cl_box hbox4; go_frame) | fail)
                  have HMX4 := Lib.hid hmx4
                  have HMY4 := Lib.hid hmy4
                  have HBY4 := Lib.hid hby4
                  have HBOX4 := Lib.hid hbox4
                  clear hmx4 hmy4 hby4 hbox4
                  refine (HHY.out _ (HCP.out.below HBY4.out)).mono ?_
                  rintro e w5 ⟨rfl, hb5⟩
                  have hmx5 := HMX4.out.below hb5
                  have hmy5 := HMY4.out.below hb5
                  have hby5 := HBY4.out.trans (hb5.mono HBY4.out.size)
                  have HMX5 := Lib.hid hmx5
                  have HMY5 := Lib.hid hmy5
                  have HBY5 := Lib.hid hby5
                  clear hb5 hmx5 hmy5 hby5 k0 k1
                  go_wp2
                  go_roundw
                  case rel => exact ⟨j + 1, by omega, by go_num, HMX5.out, (HMY5.out.congr SYW.out).mono (Nat.le_succ j), HBY5.out⟩
                  case measure => simp [intOf]; omega
                · skip
                  have SXW := Lib.hid (SX.out.1 rfl)
                  have SYW := Lib.hid (SY.out.1 rfl)
                  clear SX SY
                  go_wp2_with fail
                  refine (HHX.out _ (HCP.out.below (HBY.out.alloc hszy _))).mono ?_
                  rintro e w3 ⟨rfl, hb3⟩
                  have hy3 : Below wy.heap.size wy w3 := ((Below.refl _ _).alloc (Nat.le_refl _) _).trans (hb3.mono (by simp))
                  have hbox : w3.heap[wy.heap.size]? = some (.cells #[.int .i64 dx, .int .i64 dy] 91 (0, 0)) := (hb3.block wy.heap.size (by simp)).trans (heap_alloc_new wy _)
                  have hmx3 := HMX.out.below hy3
                  have hmy3 := HMY.out.below hy3
                  have hz3 := lt_of_blk hbox
                  have hby3 := HBY.out.trans (hy3.mono hszy)
                  clear hb3 hy3
                  obtain ⟨k0, k1⟩ := cl_box hbox
                  have HMX3 := Lib.hid hmx3
                  have HMY3 := Lib.hid hmy3
                  have HBOX := Lib.hid hbox
                  have HBY3 := Lib.hid hby3
                  clear hmx3 hmy3 hbox hby3
                  go_wp2_with (first | (at_mapUpdate; refine wpList_putI rfl _ _ _ rfl w2.heap.size j _ rfl HMX3.out (by unfold maxLen; omega) _ 1 rfl rfl WX.out (by decide) ?_; intro w4 hm4 hg4; have hmx4 := hm4.congr SXW.out; have hmy4 := HMY3.out.kept hg4 (by simp); have hbox4 := (hg4.block wy.heap.size hz3 (by simp; omega)).trans HBOX.out; have hby4 := HBY3.out.grown hg4 HBY3.out.size (fun q hq => by cases hq; exact Nat.le_refl _); have hz4 := lt_of_blk hbox4; clear hm4 hg4 k0 k1; obtain ⟨k0, k1⟩ := cl_box hbox4; go_frame) | fail)
                  have HMX4 := Lib.hid hmx4
                  have HMY4 := Lib.hid hmy4
                  have HBY4 := Lib.hid hby4
                  have HBOX4 := Lib.hid hbox4
                  clear hmx4 hmy4 hby4 hbox4
                  refine (HHY.out _ (HCP.out.below HBY4.out)).mono ?_
                  rintro e w5 ⟨rfl, hb5⟩
                  have hmx5 := HMX4.out.below hb5
                  have hmy5 := HMY4.out.below hb5
                  have hby5 := HBY4.out.trans (hb5.mono HBY4.out.size)
                  have hbox5 := (hb5.block wy.heap.size (lt_of_blk HBOX4.out)).trans HBOX4.out
                  clear k0 k1
                  obtain ⟨k0, k1⟩ := cl_box hbox5
                  have HMX5 := Lib.hid hmx5
                  have HMY5 := Lib.hid hmy5
                  have HBY5 := Lib.hid hby5
                  clear hb5 hmx5 hmy5 hby5 hbox5
                  go_wp2_with (at_mapUpdate; refine wpList_putI rfl _ _ _ rfl (w2.heap.size + 1) j _ rfl HMY5.out (by unfold maxLen; omega) _ 1 rfl rfl WY.out (by decide) ?_; intro w6 hm6 hg6; go_frame)
                  go_roundw
                  case rel => exact ⟨j + 1, by omega, by go_num, HMX5.out.kept hg6 (by simp), hm6.congr SYW.out, HBY5.out.grown hg6 HBY5.out.size (fun q hq => by cases hq; omega)⟩
                  case measure => simp [intOf]; omega
            · skip
              obtain rfl : j = l.length := by omega
              obtain ⟨v, hvm⟩ : ∃ v : Int, v = (m : Int) := ⟨_, rfl⟩
              rw [← hvm] at HLM HV
              have hm1 := HMX.out.congr (seenX_all l)
              have hm2 := HMY.out.congr (seenY_all l)
              have hbwy : Below wo.heap.size wo wy := HBR.out.trans (HBY.out.mono hsz2)
              have HM1 := Lib.hid hm1
              have HM2 := Lib.hid hm2
              have HBWY := Lib.hid hbwy
              have hzwy := hbwy.size
              have hgA0 : g0 < wo.heap.size := (HOX.out.lt g0 rfl).2
              have hgA1 : g1 < wo.heap.size := (HOY.out.lt g1 rfl).2
              have hxy0 := hm1.lt
              have hxy1 := hm2.lt
              clear hm1 hm2 hbwy y0 hvm
              go_wp2_with (first | (at_range; refine wpList_rangeI rfl _ rfl w2.heap.size l.length _ rfl HM1.out ?_; intro w3 cn0 hr3 hg3 hs3; go_frame))
              have hb3 : Below wy.heap.size wy w3 := (Below.refl _ _).grown hg3 (Nat.le_refl _) (fun q hq => by cases hq)
              have hb3r : Below wo.heap.size wo w3 := HBWY.out.trans (hb3.mono HBWY.out.size)
              have hox3 := ownsRow_far_below HOX.out hb3r (Nat.le_refl _)
              have hoy3 := ownsRow_far_below HOY.out hb3r (Nat.le_refl _)
              have hm3 := HM2.out.below hb3
              have hbA3 := HB.out.trans (hb3r.mono hszr)
              rw [← cntF_start colX B xs ls n0 k v (colX l) (fun x => by rw [HLM.out])] at hox3
              have ST := Lib.hid (And.intro hr3 (And.intro hox3 (And.intro hoy3 (And.intro hm3 hbA3))))
              clear hr3 hox3 hoy3 hm3 hbA3 hb3r hb3 hg3
              go_loopw [15] (fun _ wz => ∃ (L : Int → Bool) (cnt : Nat), RangesI wz w2.heap.size wy.heap.size l.length (colX l) L cnt ∧ wz.ownsRow g0 3 1 (.slice (some ⟨g0, 0, none⟩) n0 n0) n0 (ints (cntF colX B xs ls n0 k v L)) ∧ wz.ownsRow g1 3 1 (.slice (some ⟨g1, 0, none⟩) n1 n1) n1 (ints (cntL colY B xs ls n1 k)) ∧ MapI wz (w2.heap.size + 1) l.length (colY l) ∧ Below wA.heap.size wA wz) (fun _ wz => wz.rangeLeft w2.heap.size wy.heap.size)
              case atStart => exact ⟨_, _, ST.out.1, ST.out.2.1, ST.out.2.2.1, ST.out.2.2.2.1, ST.out.2.2.2.2⟩
              case round =>
                obtain ⟨L, cnt, hr, hoc, hod, hmz, hbz⟩ := hrel
                obtain ⟨wz, rfl⟩ : ∃ wz, wz = wr := ⟨_, rfl⟩
                have HR := Lib.hid hr
                have HOC := Lib.hid hoc
                have HOD := Lib.hid hod
                have HBZ := Lib.hid hbz
                have HMZ := Lib.hid hmz
                clear hmz
                have hlts := hr.lt
                clear hr hoc hod hbz
                go_wp2_with (first | (at_next; refine wpList_nextI rfl _ rfl w2.heap.size wy.heap.size l.length cnt (colX l) L rfl HR.out ?_ ?_))
                · skip
                  intro hl0
                  have hoc2 := HOC.out
                  have hend := cntF_end colX B xs ls n0 k hlt L hl0
                  rw [← HV.out] at hend
                  rw [hend] at hoc2
                  have HOX2 := Lib.hid hoc2
                  have HOY2 := Lib.hid HOD.out
                  have HM2 := Lib.hid HMZ.out
                  have HBA2 := Lib.hid HBZ.out
                  clear hoc2 hend hl0 HOC HOD HMZ
                  go_wp2_with (first | (at_range; refine wpList_rangeI rfl _ rfl (w2.heap.size + 1) l.length _ rfl HM2.out ?_; intro w7 cn0 hr3 hg3 hs3; go_frame))
                  have hb3 : Below wz.heap.size wz w7 := (Below.refl _ _).grown hg3 (Nat.le_refl _) (fun q hq => by cases hq)
                  have hox7 := ownsRow_far_below HOX2.out hb3 (Nat.le_refl _)
                  have hoy7 := ownsRow_far_below HOY2.out hb3 (Nat.le_refl _)
                  have hbA7 := HBA2.out.trans (hb3.mono HBA2.out.size)
                  rw [← cntF_start colY B xs ls n1 k v (colY l) (fun x => by rw [HLM.out])] at hoy7
                  have ST2 := Lib.hid (And.intro hr3 (And.intro hoy7 (And.intro hox7 hbA7)))
                  clear hr3 hox7 hoy7 hbA7 hb3 hg3
                  go_loopw [16] (fun _ wv => ∃ (L : Int → Bool) (cnt : Nat), RangesI wv (w2.heap.size + 1) wz.heap.size l.length (colY l) L cnt ∧ wv.ownsRow g1 3 1 (.slice (some ⟨g1, 0, none⟩) n1 n1) n1 (ints (cntF colY B xs ls n1 k v L)) ∧ wv.ownsRow g0 3 1 (.slice (some ⟨g0, 0, none⟩) n0 n0) n0 (ints (cntL colX B xs ls n0 (k + 1))) ∧ Below wA.heap.size wA wv) (fun _ wv => wv.rangeLeft (w2.heap.size + 1) wz.heap.size)
                  case atStart => exact ⟨_, _, ST2.out.1, ST2.out.2.1, ST2.out.2.2.1, ST2.out.2.2.2⟩
                  case round =>
                    obtain ⟨L, cnt, hr, hoc, hod, hbz⟩ := hrel
                    obtain ⟨wv, rfl⟩ : ∃ wv, wv = wr := ⟨_, rfl⟩
                    have HR := Lib.hid hr
                    have HOC := Lib.hid hoc
                    have HOD := Lib.hid hod
                    have HBZ := Lib.hid hbz
                    have hlts := hr.lt
                    clear hr hoc hod hbz
                    go_wp2_with (first | (at_next; refine wpList_nextI rfl _ rfl (w2.heap.size + 1) wz.heap.size l.length cnt (colY l) L rfl HR.out ?_ ?_))
                    · skip
                      intro hl0
                      have hoc2 := HOC.out
                      have hend := cntF_end colY B xs ls n1 k hlt L hl0
                      rw [← HV.out] at hend
                      rw [hend] at hoc2
                      have HOY3 := Lib.hid hoc2
                      clear hoc2 hend hl0
                      go_wp2
                      go_roundw
                      case rel => exact ⟨k + 1, by omega, by go_num, HOD.out, HOY3.out, HBZ.out⟩
                      case measure => simp [intOf]; omega
                    · skip
                      intro x cv w8 cn1 hlx hsx hr4 hltc hg4 hs4 hen
                      have hin := colY_in (v := v) (by omega) (HLM.out ▸ hsx)
                      obtain ⟨X, rfl⟩ := Int.eq_ofNat_of_zero_le hin.1
                      have hX : X < n1 := by have := hin.2; omega
                      have ho4 := HOC.out.kept hg4 (.inr (by simp [Value.ownBlock]; omega))
                      have hcell := ho4.cellAt X (by omega)
                      have hcn := cntF_at colY B xs ls n1 k v L X hX hlx
                      have hcell2 : w8.cell? ⟨g1, X, none⟩ = some (.int .i64 ((cntTo colY B xs ls (X : Int) k : Nat) : Int)) := by rw [hcell, ints_at _ X (by rw [cntF_length]; exact hX), hcn]
                      have hfz := ho4.frozenAt X
                      have hst := ho4.stored X (.int .i64 (((cntTo colY B xs ls (X : Int) k : Nat) : Int) + 1))
                      have hle := cntTo_le colY B xs ls (X : Int) k
                      have hset := cntF_step colY B xs ls n1 k v L X (HLM.out ▸ hsx)
                      rw [ints_set, hset] at hst
                      have HST := Lib.hid hst
                      have HR4 := Lib.hid hr4
                      have HG4 := Lib.hid hg4
                      have hod4 := HOD.out.kept hg4 (.inr (by simp [Value.ownBlock]; omega))
                      have HOD4 := Lib.hid hod4
                      have hb4 := HBZ.out.grown hg4 HBZ.out.size (fun q hq => by cases hq; omega)
                      have HB4 := Lib.hid hb4
                      have hltr := HR.out.left_eq
                      obtain ⟨q, hq⟩ : ∃ q, q = cntTo colY B xs ls (X : Int) k := ⟨_, rfl⟩
                      rw [← hq] at hcell2 hle hst
                      have HQ := Lib.hid hq
                      have HLTR := Lib.hid hltr
                      clear hin hcell hcn hset hst hr4 hg4 hod4 hb4 ho4 hlx hsx hq hltr
                      go_wp2
                      have hr5 := HR4.out.kept HST.out.2 (by simp; omega) (by simp; omega)
                      go_roundw
                      case rel =>
                        refine ⟨_, cn1, by first | (rw [HQ.out]; exact hr5) | exact hr5, by first | (rw [HQ.out]; exact HST.out.1) | exact HST.out.1, ?_, ?_⟩
                        · have := HOD4.out.kept HST.out.2 (.inr (by simp [Value.ownBlock]; omega))
                          first | (rw [HQ.out]; exact this) | exact this
                        · have := HB4.out.grown HST.out.2 HB4.out.size (fun q hq => by cases hq; omega)
                          first | (rw [HQ.out]; exact this) | exact this
                      case measure =>
                        try rw [HQ.out]
                        rw [hr5.left_eq, HLTR.out]
                        exact hltc
                · skip
                  intro x cv w4 cn1 hlx hsx hr4 hltc hg4 hs4 hen
                  have hin := colX_in (v := v) (by omega) (HLM.out ▸ hsx)
                  obtain ⟨X, rfl⟩ := Int.eq_ofNat_of_zero_le hin.1
                  have hX : X < n0 := by have := hin.2; omega
                  have ho4 := HOC.out.kept hg4 (.inr (by simp [Value.ownBlock]; omega))
                  have hcell := ho4.cellAt X (by omega)
                  have hcn := cntF_at colX B xs ls n0 k v L X hX hlx
                  have hcell2 : w4.cell? ⟨g0, X, none⟩ = some (.int .i64 ((cntTo colX B xs ls (X : Int) k : Nat) : Int)) := by rw [hcell, ints_at _ X (by rw [cntF_length]; exact hX), hcn]
                  have hfz := ho4.frozenAt X
                  have hst := ho4.stored X (.int .i64 (((cntTo colX B xs ls (X : Int) k : Nat) : Int) + 1))
                  have hle := cntTo_le colX B xs ls (X : Int) k
                  have hset := cntF_step colX B xs ls n0 k v L X (HLM.out ▸ hsx)
                  rw [ints_set, hset] at hst
                  have HST := Lib.hid hst
                  have HR4 := Lib.hid hr4
                  have HG4 := Lib.hid hg4
                  have hod4 := HOD.out.kept hg4 (.inr (by simp [Value.ownBlock]; omega))
                  have HOD4 := Lib.hid hod4
                  have hmz4 := HMZ.out.kept hg4 (by simp; omega)
                  have HMZ4 := Lib.hid hmz4
                  clear hmz4
                  have hb4 := HBZ.out.grown hg4 HBZ.out.size (fun q hq => by cases hq; omega)
                  have HB4 := Lib.hid hb4
                  have hltr := HR.out.left_eq
                  obtain ⟨q, hq⟩ : ∃ q, q = cntTo colX B xs ls (X : Int) k := ⟨_, rfl⟩
                  rw [← hq] at hcell2 hle hst
                  have HQ := Lib.hid hq
                  have HLTR := Lib.hid hltr
                  clear hin hcell hcn hset hst hr4 hg4 hod4 hb4 ho4 hlx hsx hq hltr
                  go_wp2
                  have hr5 := HR4.out.kept HST.out.2 (by simp; omega) (by simp; omega)
                  go_roundw
                  case rel =>
                    refine ⟨_, cn1, by first | (rw [HQ.out]; exact hr5) | exact hr5, by first | (rw [HQ.out]; exact HST.out.1) | exact HST.out.1, ?_, ?_, ?_⟩
                    · have := HOD4.out.kept HST.out.2 (.inr (by simp [Value.ownBlock]; omega))
                      first | (rw [HQ.out]; exact this) | exact this
                    · have := HMZ4.out.kept HST.out.2 (by simp; omega)
                      first | (rw [HQ.out]; exact this) | exact this
                    · have := HB4.out.grown HST.out.2 HB4.out.size (fun q hq => by cases hq; omega)
                      first | (rw [HQ.out]; exact this) | exact this
                  case measure =>
                    try rw [HQ.out]
                    rw [hr5.left_eq, HLTR.out]
                    exact hltc
        · skip
          have hm' : isMaskB B xs v = false := by simpa using hm
          rw [hm'] at hism
          have HIS := Lib.hid hism
          have e1 := cntL_none colX (fun _ => rfl) B xs ls n0 k hlt (by rw [← HV.out]; exact hm')
          have e2 := cntL_none colY (fun _ => rfl) B xs ls n1 k hlt (by rw [← HV.out]; exact hm')
          have E1 := Lib.hid e1
          have E2 := Lib.hid e2
          clear hism hm hm' e1 e2
          go_wp2_with fail
          refine (HIS.out _ (HC.out.below HBW.out)).mono ?_
          rintro e w1 ⟨rfl, hb1'⟩
          go_wp2
          go_roundw
          case rel => exact ⟨k + 1, by omega, by go_num, by rw [E1.out]; exact ownsRow_far_below HOX.out hb1' (Nat.le_refl _), by rw [E2.out]; exact ownsRow_far_below HOY.out hb1' (Nat.le_refl _), HB.out.trans (hb1'.mono hszr)⟩
          case measure => simp [intOf]; omega
      · obtain rfl : k = ls.length := by omega
        go_wp2
        go_ret2
        exact ⟨g0, g1, rfl, hne, by omega, by omega, HOX.out, HOY.out, HBA.out.trans (HB.out.mono (by omega))⟩
end Go.Proofs.YtajmdgcnnipdoaaGreatDoor
