/- AllRS: parts laid together: SizeS, Rect0, RectS. -/
import Derived.Test.YtajmdgcnnipdoaaGreatDoorAllD2
import Derived.Test.YtajmdgcnnipdoaaGreatDoorAllPut0
import Derived.BigQuiet
import Derived.IntWalk
import Derived.Test.YtajmdgcnnipdoaaGreatDoorAllHead

/- SizeS: the walks of the reference's CornerShape, SizeOf and IsRectangle. -/
namespace Go.Proofs.YtajmdgcnnipdoaaGreatDoor
open Go.RowKit

set_option maxRecDepth 100000 in
set_option maxHeartbeats 3200000 in
theorem specSize (ad : Option Addr) (c : Nat) (l : List Cl) (w : World) (hn : l.length ≤ 1048576) (hc : CellsAt w ad (cls l)) :
    Calls Tryz.prog 91 #[.slice ad l.length c] w fun e w' => e = .returned (.tuple #[.int .i64 (sizeX l), .int .i64 (sizeY l)]) ∧ Below w.heap.size w w' := by
  have H1 := Lib.hid (specCornS ad c l w hn hc)
  have HIN := Lib.hid (fun d (hd : d ∈ cornS l) => cornS_in hd)
  have hl8 := cornS_length l
  have HX := Lib.hid (show sizeX l = maxTo Cl.x (cornS l) (cornS l).length from rfl)
  have HY := Lib.hid (show sizeY l = maxTo Cl.y (cornS l) (cornS l).length from rfl)
  clear hc
  generalize cornS l = s at H1 HIN hl8 HX HY
  go_enter Tryz.func91, Tryz.ntmps91
  go_wp2_with fail
  refine H1.out.mono ?_
  rintro e w1 ⟨ad1, c1, rfl, ho, hb1⟩
  have hcell := ownsRow_cellsAt ho
  have HC1 := Lib.hid hcell
  have HB1 := Lib.hid hb1
  clear ho hb1 hcell
  go_wp2
  go_loopw [5, 6, 7] (fun x y i wr => ∃ k : Nat, k ≤ s.length ∧ i = .int .i64 k ∧ x = .int .i64 (maxTo Cl.x s k) ∧ y = .int .i64 (maxTo Cl.y s k) ∧ w1 = wr) (fun _ _ i _ => s.length - (intOf i).toNat)
  case atStart => exact ⟨0, by omega, rfl, rfl, rfl, rfl⟩
  case round =>
    obtain ⟨k, hk, rfl, rfl, rfl, rfl⟩ := hrel
    have bx := maxTo_bd (f := Cl.x) (l := s) (b := 8) (by omega) (fun d hd => by have := (HIN.out d hd).1; omega) k hk
    have by' := maxTo_bd (f := Cl.y) (l := s) (b := 8) (by omega) (fun d hd => by have := (HIN.out d hd).2; omega) k hk
    by_cases hlt : k < s.length
    · obtain ⟨g, off, rfl, hg, hcc⟩ := cl_open HC1.out (by omega)
      obtain ⟨x0, x1⟩ := hcc k hlt
      have hd := HIN.out s[k] (List.getElem_mem hlt)
      have ex := maxTo_succ Cl.x s k
      have ey := maxTo_succ Cl.y s k
      rw [getDG hlt] at ex ey
      clear hcc
      generalize s[k] = d at x0 x1 hd ex ey
      obtain ⟨dx, dy⟩ := d
      simp only at x0 x1 hd ex ey
      obtain ⟨⟨d1, d2⟩, d3, d4⟩ := hd
      have EX := Lib.hid ex
      have EY := Lib.hid ey
      have i1 : (k : Int) < (s.length : Int) := by omega
      clear ex ey
      generalize maxTo Cl.x s k = mx at bx EX ⊢
      generalize maxTo Cl.y s k = my at by' EY ⊢
      obtain ⟨b1, b2⟩ := bx
      obtain ⟨b3, b4⟩ := by'
      go_wp2
      go_roundw
      case rel => exact ⟨k + 1, by omega, by go_num, by rw [EX.out]; go_num, by rw [EY.out]; go_num, trivial⟩
      case measure => simp [intOf]; omega
    · obtain rfl : k = s.length := by omega
      rw [← HX.out, ← HY.out]
      go_wp2
      go_ret2
      exact ⟨rfl, HB1.out⟩
end Go.Proofs.YtajmdgcnnipdoaaGreatDoor

/- Rect0: when a shape is a rectangle; plain. -/
namespace Go.Proofs.YtajmdgcnnipdoaaGreatDoor
open Go.RowKit
def isRect (l : List Cl) : Bool := decide (Shape l) && decide (sizeX l * sizeY l = (l.length : Int))
theorem mul_bd8 {a b : Int} (h1 : 0 ≤ a ∧ a ≤ 8) (h2 : 0 ≤ b ∧ b ≤ 8) : 0 ≤ a * b ∧ a * b ≤ 64 := by
  constructor
  · exact Int.mul_nonneg h1.1 h2.1
  · have := Int.mul_le_mul h1.2 h2.2 h2.1 (by omega : (0 : Int) ≤ 8)
    omega
theorem size_mul (l : List Cl) : 0 ≤ sizeX l * sizeY l ∧ sizeX l * sizeY l ≤ 64 := mul_bd8 (size_bd l).1 (size_bd l).2
end Go.Proofs.YtajmdgcnnipdoaaGreatDoor

/- RectS: the walk of the reference's IsRectangle. -/
namespace Go.Proofs.YtajmdgcnnipdoaaGreatDoor
open Go.RowKit

set_option maxRecDepth 100000 in
set_option maxHeartbeats 3200000 in
theorem specRect (ad : Option Addr) (c : Nat) (l : List Cl) (w : World) (hn : l.length ≤ 1048576) (hc : CellsAt w ad (cls l)) :
    Calls Tryz.prog 38 #[.slice ad l.length c] w fun e w' => e = .returned (.bool (isRect l)) ∧ Below w.heap.size w w' := by
  have H1 := Lib.hid (specSize ad c l w hn hc)
  have H2 := Lib.hid (fun w' => specShape ad c l w' hn)
  have HC := Lib.hid hc
  have hpb := size_mul l
  have hr : isRect l = (decide (Shape l) && decide (sizeX l * sizeY l = (l.length : Int))) := rfl
  clear hc
  generalize sizeX l = X at H1 hpb hr
  generalize sizeY l = Y at H1 hpb hr
  obtain ⟨p, hp⟩ : ∃ p, p = X * Y := ⟨_, rfl⟩
  rw [← hp] at hpb hr
  obtain ⟨p1, p2⟩ := hpb
  have hp' : X * Y = p := hp.symm
  have s1 : IntKind.i64.wrap p = p := IntWalk.i64_in _ (by omega)
  clear hp
  by_cases hs : Shape l
  · have H3 := Lib.hid (fun w' hc' => (H2.out w' hc').mono (fun e w'' (q : _ ∧ _) => (⟨by rw [q.1, decide_eq_true hs], q.2⟩ : e = .returned (.bool true) ∧ Below w'.heap.size w' w'')))
    rw [decide_eq_true hs, Bool.true_and] at hr
    have HR := Lib.hid hr
    clear hr hs
    go_enter Tryz.func38, Tryz.ntmps38
    go_wp2_with fail
    refine H1.out.mono ?_
    rintro e w1 ⟨rfl, hb1⟩
    have HB1 := Lib.hid hb1
    have hsz1 := hb1.size
    clear hb1
    go_wp2_with fail
    refine (H3.out w1 (HC.out.below HB1.out)).mono ?_
    rintro e w2 ⟨rfl, hb2⟩
    have HB2 := Lib.hid hb2
    clear hb2
    go_wp2
    go_ret
    rw [HR.out]
    exact ⟨rfl, HB1.out.trans (HB2.out.mono hsz1)⟩
  · have H3 := Lib.hid (fun w' hc' => (H2.out w' hc').mono (fun e w'' (q : _ ∧ _) => (⟨by rw [q.1, decide_eq_false hs], q.2⟩ : e = .returned (.bool false) ∧ Below w'.heap.size w' w'')))
    rw [decide_eq_false hs, Bool.false_and] at hr
    have HR := Lib.hid hr
    clear hr hs
    go_enter Tryz.func38, Tryz.ntmps38
    go_wp2_with fail
    refine H1.out.mono ?_
    rintro e w1 ⟨rfl, hb1⟩
    have HB1 := Lib.hid hb1
    have hsz1 := hb1.size
    clear hb1
    go_wp2_with fail
    refine (H3.out w1 (HC.out.below HB1.out)).mono ?_
    rintro e w2 ⟨rfl, hb2⟩
    have HB2 := Lib.hid hb2
    clear hb2
    go_wp2
    go_ret
    rw [HR.out]
    exact ⟨rfl, HB1.out.trans (HB2.out.mono hsz1)⟩
end Go.Proofs.YtajmdgcnnipdoaaGreatDoor
