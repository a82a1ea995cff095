/- RectS: the walk of the reference's IsRectangle. -/
import Derived.Test.YtnldmigofmedkaaSizeS
import Derived.Test.YtnldmigofmedkaaRect0
namespace Go.Proofs.Ytnldmigofmedkaa
open Go.RowKit

set_option maxRecDepth 100000 in
set_option maxHeartbeats 3200000 in
theorem specRect (ad : Option Addr) (c : Nat) (l : List Cl) (w : World) (hn : l.length ≤ 1048576) (hc : CellsAt w ad (cls l)) :
    Calls Try.prog 33 #[.slice ad l.length c] w fun e w' => e = .returned (.bool (isRect l)) ∧ Below w.heap.size w w' := by
  have H1 := Lib.hid (specSize ad c l w hn hc)
  have H2 := Lib.hid (fun w' => specShape ad c l w' hn)
  have HC := Lib.hid hc
  have hpb := size_mul l
  have hr : isRect l = (decide (Shape l) && decide (sizeX l * sizeY l = (l.length : Int))) := rfl
  clear hc
  generalize sizeX l = X at H1 hpb hr
  generalize sizeY l = Y at H1 hpb hr
  obtain ⟨p, hp⟩ : ∃ p, p = X * Y := ⟨_, rfl⟩
  rw [← hp] at hpb hr
  obtain ⟨p1, p2⟩ := hpb
  have hp' : X * Y = p := hp.symm
  have s1 : IntKind.i64.wrap p = p := IntWalk.i64_in _ (by omega)
  clear hp
  by_cases hs : Shape l
  · have H3 := Lib.hid (fun w' hc' => (H2.out w' hc').mono (fun e w'' (q : _ ∧ _) => (⟨by rw [q.1, decide_eq_true hs], q.2⟩ : e = .returned (.bool true) ∧ Below w'.heap.size w' w'')))
    rw [decide_eq_true hs, Bool.true_and] at hr
    have HR := Lib.hid hr
    clear hr hs
    go_enter Try.func33, Try.ntmps33
    go_wp2_with fail
    refine H1.out.mono ?_
    rintro e w1 ⟨rfl, hb1⟩
    have HB1 := Lib.hid hb1
    have hsz1 := hb1.size
    clear hb1
    go_wp2_with fail
    refine (H3.out w1 (HC.out.below HB1.out)).mono ?_
    rintro e w2 ⟨rfl, hb2⟩
    have HB2 := Lib.hid hb2
    clear hb2
    go_wp2
    go_ret
    rw [HR.out]
    exact ⟨rfl, HB1.out.trans (HB2.out.mono hsz1)⟩
  · have H3 := Lib.hid (fun w' hc' => (H2.out w' hc').mono (fun e w'' (q : _ ∧ _) => (⟨by rw [q.1, decide_eq_false hs], q.2⟩ : e = .returned (.bool false) ∧ Below w'.heap.size w' w'')))
    rw [decide_eq_false hs, Bool.false_and] at hr
    have HR := Lib.hid hr
    clear hr hs
    go_enter Try.func33, Try.ntmps33
    go_wp2_with fail
    refine H1.out.mono ?_
    rintro e w1 ⟨rfl, hb1⟩
    have HB1 := Lib.hid hb1
    have hsz1 := hb1.size
    clear hb1
    go_wp2_with fail
    refine (H3.out w1 (HC.out.below HB1.out)).mono ?_
    rintro e w2 ⟨rfl, hb2⟩
    have HB2 := Lib.hid hb2
    clear hb2
    go_wp2
    go_ret
    rw [HR.out]
    exact ⟨rfl, HB1.out.trans (HB2.out.mono hsz1)⟩
end Go.Proofs.Ytnldmigofmedkaa
