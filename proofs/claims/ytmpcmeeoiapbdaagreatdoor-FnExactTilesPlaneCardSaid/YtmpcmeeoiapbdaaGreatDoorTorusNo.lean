/- TorusNo: the walks of TorusPlacements where there is nothing to place. -/
import Derived.Test.YtmpcmeeoiapbdaaGreatDoorOrient
import Derived.Test.YtmpcmeeoiapbdaaGreatDoorTorus0
import Derived.Test.YtmpcmeeoiapbdaaGreatDoorFine
namespace Go.Proofs.YtmpcmeeoiapbdaaGreatDoor
open Go.RowKit

attribute [local go_sem ↓] Go.wp_at_zero Go.wp_at_succ

set_option maxRecDepth 100000 in
set_option maxHeartbeats 3200000 in
theorem specTorus_no (x y : Int) (h : ¬ (1 ≤ x ∧ x ≤ 5 ∧ 1 ≤ y ∧ y ≤ 5)) (ad : Option Addr) (c : Nat) (l : List Cl) (w : World) (hn : l.length ≤ 1048576) (hc : CellsAt w ad (cls l)) :
    Calls Tryz.prog 66 #[.int .i64 x, .int .i64 y, .slice ad l.length c] w fun e w' => ∃ ad' c', e = .returned (.slice ad' 0 c') ∧ w'.ownsRow w.heap.size 3 1 (.slice ad' 0 c') 0 [] ∧ Below w.heap.size w w' := by
  have HOR := Lib.hid (fun w' hc' => specOrient ad c l w' hn hc')
  have HC := Lib.hid hc
  have HF := Lib.hid (fun w' => l16Fine_no x y w' h)
  have hrl := orientL_length l
  clear hc h
  generalize (orientL l).length = n at HOR hrl
  obtain ⟨w0, hw0⟩ : ∃ w0, w0 = w.alloc (.cells #[] 3) := ⟨_, rfl⟩
  have hb0 : Below w.heap.size w w0 := by rw [hw0]; exact (Below.refl _ _).alloc (Nat.le_refl _) _
  have ho0 : w0.ownsRow w.heap.size 3 1 (.slice (some ⟨w.heap.size, 0, none⟩) 0 0) 0 [] := by rw [hw0]; exact ownsRow_empty _ _ _
  have hsz0 := hb0.size
  have HB0 := Lib.hid hb0
  have HO0 := Lib.hid ho0
  have HW0 := Lib.hid hw0
  clear hb0 ho0 hw0
  go_enter Tryz.func66, Tryz.ntmps66
  go_wp2_with fail
  rw [← HW0.out]
  refine (HOR.out w0 (HC.out.below HB0.out)).mono ?_
  rintro e w1 ⟨a1, c1, rfl, hsp, hb1⟩
  have HB1 := Lib.hid (HB0.out.trans (hb1.mono hsz0))
  have HO1 := Lib.hid (ownsRow_far_below HO0.out hb1 (Nat.le_refl _))
  clear hsp hb1
  go_wp2
  go_loopw [7, 9] (fun s i wr => s = .slice (some ⟨w.heap.size, 0, none⟩) 0 0 ∧ i = .int .i64 0 ∧ w1 = wr) (fun _ i _ => 8 - (intOf i).toNat)
  case atStart => exact ⟨rfl, rfl, rfl⟩
  case round =>
    obtain ⟨rfl, rfl, rfl⟩ := hrel
    by_cases h0 : 0 < n
    · have i1 : (0 : Int) < (n : Int) := by omega
      have d2 : decide (0 < n) = true := decide_eq_true h0
      go_wp2_with fail
      refine (HF.out w1).mono ?_
      rintro e w' ⟨rfl, rfl⟩
      go_wp2
      go_ret
      exact ⟨_, 0, rfl, HO1.out, HB1.out⟩
    · obtain rfl : n = 0 := by omega
      go_wp2
      go_ret
      exact ⟨_, 0, rfl, HO1.out, HB1.out⟩

set_option maxRecDepth 100000 in
set_option maxHeartbeats 3200000 in
theorem implTorus_no (x y : Int) (ad : Option Addr) (c : Nat) (l : List Cl) (w : World) (h : ¬ ((1 ≤ x ∧ x ≤ 5 ∧ 1 ≤ y ∧ y ≤ 5) ∧ Shape l)) (hn : l.length ≤ 1048576) (hc : CellsAt w ad (cls l)) :
    Calls Tryz.prog 70 #[.int .i64 x, .int .i64 y, .slice ad l.length c] w fun e w' => e = .returned (.slice none 0 0) ∧ Below w.heap.size w w' := by
  have HC := Lib.hid hc
  by_cases hf : 1 ≤ x ∧ x ≤ 5 ∧ 1 ≤ y ∧ y ≤ 5
  · have hs : ¬ Shape l := fun q => h ⟨hf, q⟩
    obtain ⟨h1, h2, h3, h4⟩ := hf
    have HSH := Lib.hid ((implShape ad c l w hn hc).mono (fun e w'' (q : _ ∧ _) => (⟨by rw [q.1, decide_eq_false hs], q.2⟩ : e = .returned (.bool false) ∧ Below w.heap.size w w'')))
    clear hs h hc
    go_enter Tryz.func70, Tryz.ntmps70
    go_wp2_with (go_at_call 68; refine (isTorus_yes _ _ _ (by omega) (by omega) (by omega) (by omega)).mono ?_; rintro e w' ⟨rfl, rfl⟩)
    refine HSH.out.mono ?_
    rintro e w1 ⟨rfl, hb1⟩
    have HB1 := Lib.hid hb1
    clear hb1
    go_wp2
    go_ret
    exact ⟨rfl, HB1.out⟩
  · have HF := Lib.hid (isTorus_no x y w hf)
    clear h hc hf
    go_enter Tryz.func70, Tryz.ntmps70
    go_wp2_with fail
    refine HF.out.mono ?_
    rintro e w' ⟨rfl, rfl⟩
    go_wp2
    go_ret
    exact ⟨rfl, Below.refl _ _⟩
end Go.Proofs.YtmpcmeeoiapbdaaGreatDoor
