/- CountI: the walk of countUpTo. -/
import Derived.Test.YtmpcmeeoiapbdaaGreatDoorFillI
import Derived.Test.YtmpcmeeoiapbdaaGreatDoorNewS
import Derived.OneCell
import Derived.Laws.EntriesVeiled
namespace Go.Proofs.YtmpcmeeoiapbdaaGreatDoor
open Go.RowKit

theorem callFunc_cnt (args : Array Value) (w : World) : Sem.run Tryz.prog (callFunc 73 args) w = .ok (.enter 73 args) w := by kernel_rfl

/-- What is known of the world while tilings are counted: the bound, the count, the search. -/
def CntI (lo S most : Nat) (A : List Int) (L : List (List Int)) (w : World) : Prop :=
  (w.heap[lo]? = some (.cells #[.int .i64 most] 3 (0, 0)) ∧ w.heap[lo + 1]? = some (.cells #[.int .i64 (L.length : Nat)] 3 (0, 0))) ∧ L.length ≤ most ∧
    AtOK w S (.func (.func 73) #[] #[.pointer (some ⟨lo + 1, 0, none⟩), .pointer (some ⟨lo, 0, none⟩)]) (atL A) ∧ Tab w
theorem CntI.below {lo S most : Nat} {A : List Int} {L : List (List Int)} {w w' : World} (h : CntI lo S most A L w) (hb : Below w.heap.size w w') : CntI lo S most A L w' :=
  ⟨⟨(hb.block lo (lt_of_block h.1.1)).trans h.1.1, (hb.block (lo + 1) (lt_of_block h.1.2)).trans h.1.2⟩, h.2.1, h.2.2.1.below hb, h.2.2.2.below hb⟩

set_option maxRecDepth 100000 in
set_option maxHeartbeats 1600000 in
theorem cntVisit (lo S most : Nat) (A : List Int) (hlo : 1 < lo) (hS : lo + 2 ≤ S) (hm : most ≤ 2000) (L : List (List Int)) (l : List Int) (w : World) (al : Option Addr) (n cl : Nat) (hg : GoL (cntG most) L) (h1m : 1 ≤ most) (hI : CntI lo S most A L w) :
    Calls Tryz.prog 73 #[.slice al n cl, .pointer (some ⟨lo + 1, 0, none⟩), .pointer (some ⟨lo, 0, none⟩)] w fun e w' => e = .returned (.bool (cntG most (L ++ [l]))) ∧ CntI lo S most A (L ++ [l]) w' ∧ Touched lo (lo + 2) w w' := by
  have hlt : L.length < most := by
    rcases hg with q | q
    · rw [q]; exact h1m
    · exact of_decide_eq_true q
  obtain ⟨⟨h1, h2⟩, _, h4, h5⟩ := hI
  have x1 := cell_of_one h1
  have x2 := cell_of_one h2
  have y2 := free_of_one h2
  have H1 := Lib.hid h1
  have H2 := Lib.hid h2
  have H4 := Lib.hid h4
  have H5 := Lib.hid h5
  have hl : (L ++ [l]).length = L.length + 1 := by simp
  have hcg : cntG most (L ++ [l]) = decide (L.length + 1 < most) := by unfold cntG; rw [hl]
  have HL := Lib.hid hl
  rw [hcg]
  clear h1 h2 h4 h5 hl hcg hg
  obtain ⟨m, hm0⟩ : ∃ m, m = L.length := ⟨_, rfl⟩
  obtain ⟨m1, hm1⟩ : ∃ m1, m1 = m + 1 := ⟨_, rfl⟩
  rw [← hm0, ← hm1] at HL
  rw [← hm0, ← hm1]
  have e0 : (m : Int) + 1 = (m1 : Int) := by omega
  have e1 : wrap64 (m1 : Int) = (m1 : Int) := wrap_nat (by omega)
  have e2 : IntKind.i64.wrap (m1 : Int) = (m1 : Int) := by rw [IntWalk.i64_left]; exact e1
  rw [← hm0] at x2 H2
  have hle : m1 ≤ most := by omega
  clear hm0 hm1 hlt
  have x1' : (w.setCell ⟨lo + 1, 0, none⟩ (.int .i64 m1)).cell? ⟨lo, 0, none⟩ = some (.int .i64 most) := by
    rw [World.cell?_setCell_other _ _ _ _ (by simp)]; exact x1
  have ht : Touched lo (lo + 2) w (w.setCell ⟨lo + 1, 0, none⟩ (.int .i64 m1)) := (Touched.refl lo (lo + 2) w).setCell (p := ⟨lo + 1, 0, none⟩) (by show lo ≤ lo + 1; omega) (by show lo + 1 < lo + 2; omega) _
  have HT := Lib.hid ht
  clear ht
  go_enter Tryz.func73, Tryz.ntmps73
  go_wp2
  go_ret
  refine ⟨by simp, ⟨⟨?_, ?_⟩, by rw [HL.out]; exact hle, H4.out.touched HT.out hS, H5.out.touched HT.out hlo⟩, HT.out⟩
  · rw [Below.heap_setCell _ _ _ _ (by show lo ≠ lo + 1; omega)]
    exact H1.out
  · rw [HL.out]
    exact one_setCell H2.out

set_option maxRecDepth 100000 in
set_option maxHeartbeats 3200000 in
theorem implCountUpTo (ad : Option Addr) (c : Nat) (A : List Int) (free most : Nat) (w : World) (hn : A.length ≤ 1048576) (hs : ∀ v ∈ A, Mk v) (h36 : free < 68719476736) (h1 : 1 ≤ most) (hm : most ≤ 2000) (hT : Tab w) (hc : CellsAt w ad (ints A)) :
    Calls Tryz.prog 46 #[.slice ad A.length c, .int .i64 free, .int .i64 most] w fun e w' => e = .returned (.int .i64 (min most (srchF A free free).length : Nat)) ∧ Below w.heap.size w w' := by
  obtain ⟨wA, hwA⟩ : ∃ wA, wA = (w.alloc (.cells #[.int .i64 most] 3)).alloc (.cells #[.int .i64 0] 3) := ⟨_, rfl⟩
  have hbA : Below w.heap.size w wA := by rw [hwA]; exact ((Below.refl _ _).alloc (Nat.le_refl _) _).alloc (by simp) _
  have hszA : wA.heap.size = w.heap.size + 2 := by rw [hwA]; simp
  have hA0 : wA.heap[w.heap.size]? = some (.cells #[.int .i64 most] 3 (0, 0)) := by
    rw [hwA, Below.heap_alloc _ _ _ (by simp)]
    exact heap_alloc_new w _
  have hA1 : wA.heap[w.heap.size + 1]? = some (.cells #[.int .i64 0] 3 (0, 0)) := by
    have h := heap_alloc_new (w.alloc (.cells #[.int .i64 most] 3)) (.cells #[.int .i64 0] 3)
    rw [hwA]
    simpa using h
  have hns := newSearch_any ad c A 73 #[.pointer (some ⟨w.heap.size + 1, 0, none⟩), .pointer (some ⟨w.heap.size, 0, none⟩)] wA hn hs (hc.below hbA)
  rw [hszA] at hns
  have hfills : ∀ w1 : World, CntI w.heap.size (w.heap.size + 2) most A [] w1 → w.heap.size + 2 ≤ w1.heap.size → _ := fun w1 hI hz => fill_any 73 #[.pointer (some ⟨w.heap.size + 1, 0, none⟩), .pointer (some ⟨w.heap.size, 0, none⟩)] w.heap.size (w.heap.size + 2) (w.heap.size + 2) A (CntI w.heap.size (w.heap.size + 2) most A) (cntG most) (Nat.le_refl _) hn hs callFunc_cnt
    (fun L w h => h.2.2) (fun L w w' h hb => h.below hb) (fun L l w' al cl hg hI _ _ => cntVisit w.heap.size (w.heap.size + 2) most A hT.1 (Nat.le_refl _) hm L l w' al l.length cl hg h1 hI)
    free free [] [] w1 none 0 (Nat.le_refl _) h36 ⟨by simp, by simp⟩ (.inl rfl) hI hz (World.ownsRow_nil _ _ _ _)
  have hcnt := visitG_cnt most (srchF A free free) [] (by rw [List.length_nil]; omega)
  rw [List.length_nil, Nat.zero_add] at hcnt
  have HCNT := Lib.hid hcnt
  have HFI := Lib.hid hfills
  have HNS := Lib.hid hns
  have HBA := Lib.hid hbA
  have HWA := Lib.hid hwA
  have HA0 := Lib.hid hA0
  have HA1 := Lib.hid hA1
  have HTT := Lib.hid (hT.below hbA)
  have hsz0 := hbA.size
  clear hns hbA hwA hA0 hA1 hT hc hs hfills hcnt
  go_enter Tryz.func46, Tryz.ntmps46
  go_wp2_with fail
  rw [← HWA.out]
  refine HNS.out.mono ?_
  rintro e w1 ⟨rfl, hat, hb1⟩
  have hz1 := hb1.size
  have hI : CntI w.heap.size (w.heap.size + 2) most A [] w1 :=
    ⟨⟨(hb1.block _ (by omega)).trans HA0.out, (hb1.block _ (by omega)).trans HA1.out⟩, Nat.zero_le _, hat, HTT.out.below (hb1.mono (by omega))⟩
  have HF := Lib.hid (HFI.out w1 hI (by omega))
  have HB1 := Lib.hid (HBA.out.trans (hb1.mono (by omega)))
  have hsz1 := HB1.out.size
  clear hI hat hb1
  go_wp2_with fail
  refine HF.out.mono ?_
  rintro e w2 ⟨rfl, hI2, ht2⟩
  rw [laid_none] at hI2
  obtain ⟨⟨_, h2⟩, _, _, _⟩ := hI2
  rw [HCNT.out] at h2
  have x2 := cell_of_one h2
  have HB2 := Lib.hid (HB1.out.trans (ht2.below (Nat.le_refl _) hsz1))
  clear h2 ht2
  go_wp2
  go_ret
  exact ⟨rfl, HB2.out⟩
end Go.Proofs.YtmpcmeeoiapbdaaGreatDoor
