/- AllRI: parts laid together: SizeI, RectI. -/
import Derived.Test.YtajmdgcnnipdoaaGreatDoorCornI
import Derived.Test.YtajmdgcnnipdoaaGreatDoorExtent
import Derived.Test.YtajmdgcnnipdoaaGreatDoorAllRS

/- SizeI: the walks of the program's CornerShape and SizeOf. -/
namespace Go.Proofs.YtajmdgcnnipdoaaGreatDoor
open Go.RowKit

set_option maxRecDepth 100000 in
set_option maxHeartbeats 3200000 in
theorem implCornS (ad : Option Addr) (c : Nat) (l : List Cl) (w : World) (hn : l.length ≤ 1048576) (hc : CellsAt w ad (cls l)) :
    Calls Tryz.prog 128 #[.slice ad l.length c] w fun e w' => ∃ ad' c', e = .returned (.slice ad' (cornS l).length c') ∧ w'.ownsRow w.heap.size 91 2 (.slice ad' (cornS l).length c') (cornS l).length (cls (cornS l)) ∧ Below w.heap.size w w' := by
  have HS := Lib.hid (implShape ad c l w hn hc)
  have HC := Lib.hid hc
  clear hc
  by_cases hs : Shape l
  · have HS2 := Lib.hid (HS.out.mono (fun e w' (q : _ ∧ _) => (⟨by rw [q.1, decide_eq_true hs], q.2⟩ : e = .returned (.bool true) ∧ Below w.heap.size w w')))
    have HE := Lib.hid (cornS_yes hs)
    go_enter Tryz.func128, Tryz.ntmps128
    go_wp2_with fail
    refine HS2.out.mono ?_
    rintro e w1 ⟨rfl, hb1⟩
    have HB1 := Lib.hid hb1
    have hsz1 := hb1.size
    clear hb1
    go_wp2_with fail
    refine (implCorner ad c l w1 hs (HC.out.below HB1.out)).mono ?_
    rintro e w2 ⟨ad', c', rfl, ho, hb2⟩
    have HO := Lib.hid ho
    have HB2 := Lib.hid hb2
    clear ho hb2
    go_wp2
    go_ret
    rw [HE.out]
    exact ⟨ad', c', rfl, ownsRow_rebase HO.out hsz1, HB1.out.trans (HB2.out.mono hsz1)⟩
  · have HS2 := Lib.hid (HS.out.mono (fun e w' (q : _ ∧ _) => (⟨by rw [q.1, decide_eq_false hs], q.2⟩ : e = .returned (.bool false) ∧ Below w.heap.size w w')))
    have HE := Lib.hid (cornS_no hs)
    clear hs
    go_enter Tryz.func128, Tryz.ntmps128
    go_wp2_with fail
    refine HS2.out.mono ?_
    rintro e w1 ⟨rfl, hb1⟩
    have HB1 := Lib.hid hb1
    have hsz1 := hb1.size
    clear hb1
    go_wp2
    go_ret
    rw [HE.out]
    exact ⟨none, 0, rfl, World.ownsRow_nil _ _ _ _, HB1.out⟩

set_option maxRecDepth 100000 in
set_option maxHeartbeats 1600000 in
theorem implSize (ad : Option Addr) (c : Nat) (l : List Cl) (w : World) (hn : l.length ≤ 1048576) (hc : CellsAt w ad (cls l)) :
    Calls Tryz.prog 84 #[.slice ad l.length c] w fun e w' => e = .returned (.tuple #[.int .i64 (sizeX l), .int .i64 (sizeY l)]) ∧ Below w.heap.size w w' := by
  have H1 := Lib.hid (implCornS ad c l w hn hc)
  have HIN := Lib.hid (fun d (hd : d ∈ cornS l) => cornS_in hd)
  have hl8 := cornS_length l
  have HX := Lib.hid (show sizeX l = maxTo Cl.x (cornS l) (cornS l).length from rfl)
  have HY := Lib.hid (show sizeY l = maxTo Cl.y (cornS l) (cornS l).length from rfl)
  clear hc
  generalize cornS l = s at H1 HIN hl8 HX HY
  go_enter Tryz.func84, Tryz.ntmps84
  go_wp2_with fail
  refine H1.out.mono ?_
  rintro e w1 ⟨ad1, c1, rfl, ho, hb1⟩
  have HO := Lib.hid ho
  have HB1 := Lib.hid hb1
  have hsz1 := hb1.size
  clear ho hb1
  go_wp2_with fail
  refine (implExtent ad1 c1 s w1 (by omega) HIN.out (ownsRow_cellsAt HO.out)).mono ?_
  rintro e w2 ⟨rfl, hb2⟩
  have HB2 := Lib.hid hb2
  clear hb2
  rw [← HX.out, ← HY.out]
  go_wp2
  go_ret2
  exact ⟨rfl, HB1.out.trans (HB2.out.mono hsz1)⟩
end Go.Proofs.YtajmdgcnnipdoaaGreatDoor

/- RectI: the walk of the program's IsRectangle. -/
namespace Go.Proofs.YtajmdgcnnipdoaaGreatDoor
open Go.RowKit

set_option maxRecDepth 100000 in
set_option maxHeartbeats 3200000 in
theorem implRect (ad : Option Addr) (c : Nat) (l : List Cl) (w : World) (hn : l.length ≤ 1048576) (hc : CellsAt w ad (cls l)) :
    Calls Tryz.prog 31 #[.slice ad l.length c] w fun e w' => e = .returned (.bool (isRect l)) ∧ Below w.heap.size w w' := by
  have H1 := Lib.hid (implSize ad c l w hn hc)
  have H2 := Lib.hid (fun w' => implShape ad c l w' hn)
  have HC := Lib.hid hc
  have hpb := size_mul l
  have hr : isRect l = (decide (Shape l) && decide (sizeX l * sizeY l = (l.length : Int))) := rfl
  clear hc
  generalize sizeX l = X at H1 hpb hr
  generalize sizeY l = Y at H1 hpb hr
  obtain ⟨p, hp⟩ : ∃ p, p = X * Y := ⟨_, rfl⟩
  rw [← hp] at hpb hr
  obtain ⟨p1, p2⟩ := hpb
  have hp' : X * Y = p := hp.symm
  have s1 : IntKind.i64.wrap p = p := IntWalk.i64_in _ (by omega)
  clear hp
  by_cases hs : Shape l
  · have H3 := Lib.hid (fun w' hc' => (H2.out w' hc').mono (fun e w'' (q : _ ∧ _) => (⟨by rw [q.1, decide_eq_true hs], q.2⟩ : e = .returned (.bool true) ∧ Below w'.heap.size w' w'')))
    rw [decide_eq_true hs, Bool.true_and] at hr
    have HR := Lib.hid hr
    clear hr hs
    go_enter Tryz.func31, Tryz.ntmps31
    go_wp2_with fail
    refine H1.out.mono ?_
    rintro e w1 ⟨rfl, hb1⟩
    have HB1 := Lib.hid hb1
    have hsz1 := hb1.size
    clear hb1
    go_wp2_with fail
    refine (H3.out w1 (HC.out.below HB1.out)).mono ?_
    rintro e w2 ⟨rfl, hb2⟩
    have HB2 := Lib.hid hb2
    clear hb2
    go_wp2
    go_ret
    rw [HR.out]
    exact ⟨rfl, HB1.out.trans (HB2.out.mono hsz1)⟩
  · have H3 := Lib.hid (fun w' hc' => (H2.out w' hc').mono (fun e w'' (q : _ ∧ _) => (⟨by rw [q.1, decide_eq_false hs], q.2⟩ : e = .returned (.bool false) ∧ Below w'.heap.size w' w'')))
    rw [decide_eq_false hs, Bool.false_and] at hr
    have HR := Lib.hid hr
    clear hr hs
    go_enter Tryz.func31, Tryz.ntmps31
    go_wp2_with fail
    refine H1.out.mono ?_
    rintro e w1 ⟨rfl, hb1⟩
    have HB1 := Lib.hid hb1
    have hsz1 := hb1.size
    clear hb1
    go_wp2_with fail
    refine (H3.out w1 (HC.out.below HB1.out)).mono ?_
    rintro e w2 ⟨rfl, hb2⟩
    have HB2 := Lib.hid hb2
    clear hb2
    go_wp2
    go_ret
    rw [HR.out]
    exact ⟨rfl, HB1.out.trans (HB2.out.mono hsz1)⟩
end Go.Proofs.YtajmdgcnnipdoaaGreatDoor
