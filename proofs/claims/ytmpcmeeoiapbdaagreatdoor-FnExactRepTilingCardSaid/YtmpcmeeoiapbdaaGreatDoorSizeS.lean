/- SizeS: the walks of the reference's CornerShape, SizeOf and IsRectangle. -/
import Derived.Test.YtmpcmeeoiapbdaaGreatDoorCorner
import Derived.BigQuiet
import Derived.IntWalk
namespace Go.Proofs.YtmpcmeeoiapbdaaGreatDoor
open Go.RowKit

set_option maxRecDepth 100000 in
set_option maxHeartbeats 3200000 in
theorem specCornS (ad : Option Addr) (c : Nat) (l : List Cl) (w : World) (hn : l.length ≤ 1048576) (hc : CellsAt w ad (cls l)) :
    Calls Tryz.prog 82 #[.slice ad l.length c] w fun e w' => ∃ ad' c', e = .returned (.slice ad' (cornS l).length c') ∧ w'.ownsRow w.heap.size 56 2 (.slice ad' (cornS l).length c') (cornS l).length (cls (cornS l)) ∧ Below w.heap.size w w' := by
  have HS := Lib.hid (specShape ad c l w hn hc)
  have HC := Lib.hid hc
  clear hc
  by_cases hs : Shape l
  · have HS2 := Lib.hid (HS.out.mono (fun e w' (q : _ ∧ _) => (⟨by rw [q.1, decide_eq_true hs], q.2⟩ : e = .returned (.bool true) ∧ Below w.heap.size w w')))
    have HE := Lib.hid (cornS_yes hs)
    have HB := Lib.hid (shape_bd hs)
    have hl8 := (shape_len hs).2
    have hl : l.length ≤ 1000 := by omega
    clear hs hl8
    go_enter Tryz.func82, Tryz.ntmps82
    go_wp2_with fail
    refine HS2.out.mono ?_
    rintro e w1 ⟨rfl, hb1⟩
    have HB1 := Lib.hid hb1
    have hsz1 := hb1.size
    clear hb1
    go_wp2_with fail
    refine (specCorner ad c l w1 hl HB.out (HC.out.below HB1.out)).mono ?_
    rintro e w2 ⟨ad', c', rfl, ho, hb2⟩
    have HO := Lib.hid ho
    have HB2 := Lib.hid hb2
    clear ho hb2
    go_wp2
    go_ret
    rw [HE.out]
    exact ⟨ad', c', rfl, ownsRow_rebase HO.out hsz1, HB1.out.trans (HB2.out.mono hsz1)⟩
  · have HS2 := Lib.hid (HS.out.mono (fun e w' (q : _ ∧ _) => (⟨by rw [q.1, decide_eq_false hs], q.2⟩ : e = .returned (.bool false) ∧ Below w.heap.size w w')))
    have HE := Lib.hid (cornS_no hs)
    clear hs
    go_enter Tryz.func82, Tryz.ntmps82
    go_wp2_with fail
    refine HS2.out.mono ?_
    rintro e w1 ⟨rfl, hb1⟩
    have HB1 := Lib.hid hb1
    have hsz1 := hb1.size
    clear hb1
    go_wp2
    go_ret
    rw [HE.out]
    exact ⟨_, _, rfl, ownsRow_rebase (ownsRow_empty w1 _ _) hsz1, HB1.out.trans ((Below.refl _ _).alloc hsz1 _)⟩


set_option maxRecDepth 100000 in
set_option maxHeartbeats 3200000 in
theorem specSize (ad : Option Addr) (c : Nat) (l : List Cl) (w : World) (hn : l.length ≤ 1048576) (hc : CellsAt w ad (cls l)) :
    Calls Tryz.prog 81 #[.slice ad l.length c] w fun e w' => e = .returned (.tuple #[.int .i64 (sizeX l), .int .i64 (sizeY l)]) ∧ Below w.heap.size w w' := by
  have H1 := Lib.hid (specCornS ad c l w hn hc)
  have HIN := Lib.hid (fun d (hd : d ∈ cornS l) => cornS_in hd)
  have hl8 := cornS_length l
  have HX := Lib.hid (show sizeX l = maxTo Cl.x (cornS l) (cornS l).length from rfl)
  have HY := Lib.hid (show sizeY l = maxTo Cl.y (cornS l) (cornS l).length from rfl)
  clear hc
  generalize cornS l = s at H1 HIN hl8 HX HY
  go_enter Tryz.func81, Tryz.ntmps81
  go_wp2_with fail
  refine H1.out.mono ?_
  rintro e w1 ⟨ad1, c1, rfl, ho, hb1⟩
  have hcell := ownsRow_cellsAt ho
  have HC1 := Lib.hid hcell
  have HB1 := Lib.hid hb1
  clear ho hb1 hcell
  go_wp2
  go_loopw [5, 6, 7] (fun x y i wr => ∃ k : Nat, k ≤ s.length ∧ i = .int .i64 k ∧ x = .int .i64 (maxTo Cl.x s k) ∧ y = .int .i64 (maxTo Cl.y s k) ∧ w1 = wr) (fun _ _ i _ => s.length - (intOf i).toNat)
  case atStart => exact ⟨0, by omega, rfl, rfl, rfl, rfl⟩
  case round =>
    obtain ⟨k, hk, rfl, rfl, rfl, rfl⟩ := hrel
    have bx := maxTo_bd (f := Cl.x) (l := s) (b := 8) (by omega) (fun d hd => by have := (HIN.out d hd).1; omega) k hk
    have by' := maxTo_bd (f := Cl.y) (l := s) (b := 8) (by omega) (fun d hd => by have := (HIN.out d hd).2; omega) k hk
    by_cases hlt : k < s.length
    · obtain ⟨g, off, rfl, hg, hcc⟩ := cl_open HC1.out (by omega)
      obtain ⟨x0, x1⟩ := hcc k hlt
      have hd := HIN.out s[k] (List.getElem_mem hlt)
      have ex := maxTo_succ Cl.x s k
      have ey := maxTo_succ Cl.y s k
      rw [getDG hlt] at ex ey
      clear hcc
      generalize s[k] = d at x0 x1 hd ex ey
      obtain ⟨dx, dy⟩ := d
      simp only at x0 x1 hd ex ey
      obtain ⟨⟨d1, d2⟩, d3, d4⟩ := hd
      have EX := Lib.hid ex
      have EY := Lib.hid ey
      have i1 : (k : Int) < (s.length : Int) := by omega
      clear ex ey
      generalize maxTo Cl.x s k = mx at bx EX ⊢
      generalize maxTo Cl.y s k = my at by' EY ⊢
      obtain ⟨b1, b2⟩ := bx
      obtain ⟨b3, b4⟩ := by'
      go_wp2
      go_roundw
      case rel => exact ⟨k + 1, by omega, by go_num, by rw [EX.out]; go_num, by rw [EY.out]; go_num, trivial⟩
      case measure => simp [intOf]; omega
    · obtain rfl : k = s.length := by omega
      rw [← HX.out, ← HY.out]
      go_wp2
      go_ret2
      exact ⟨rfl, HB1.out⟩
end Go.Proofs.YtmpcmeeoiapbdaaGreatDoor
