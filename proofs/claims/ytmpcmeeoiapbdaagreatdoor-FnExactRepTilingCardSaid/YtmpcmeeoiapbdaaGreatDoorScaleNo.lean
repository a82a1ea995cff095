/- ScaleNo: the walks of both ScaledRegions for a list of cells that may not be drawn larger. -/
import Derived.Test.YtmpcmeeoiapbdaaGreatDoorAllSc0
import Derived.Test.YtmpcmeeoiapbdaaGreatDoorSizeI
import Derived.Test.YtmpcmeeoiapbdaaGreatDoorAllMk
namespace Go.Proofs.YtmpcmeeoiapbdaaGreatDoor
open Go.RowKit

attribute [local go_sem ↓] Go.wp_at_zero Go.wp_at_succ

set_option maxRecDepth 100000 in
set_option maxHeartbeats 3200000 in
theorem implScaled_no (ad : Option Addr) (c : Nat) (l : List Cl) (k : Int) (w : World) (hn : l.length ≤ 1048576) (hok : scOk l k = false) (hc : CellsAt w ad (cls l)) :
    Calls Tryz.prog 60 #[.slice ad l.length c, .int .i64 k] w fun e w' => e = .returned (.tuple #[.agg #[.int .i64 0, .slice none 0 0], .bool false]) ∧ Below w.heap.size w w' := by
  have HC := Lib.hid hc
  obtain ⟨hx0, hy0⟩ := size_bd l
  have HSZ := Lib.hid (fun w' hc' => implSize ad c l w' hn hc')
  have hsh0 : scOk l k = (decide (Shape l) && (decide (1 ≤ k) && decide (k ≤ 6)) && decide (sizeX l * k ≤ 6) && decide (sizeY l * k ≤ 6)) := rfl
  rw [hok] at hsh0
  clear hok hc
  have HS0 := Lib.hid (fun w' hc' => implShape ad c l w' hn hc')
  generalize sizeX l = X at HSZ hx0 hsh0
  generalize sizeY l = Y at HSZ hy0 hsh0
  generalize decide (Shape l) = bs at HS0 hsh0
  obtain ⟨w0, hw0⟩ : ∃ w0, w0 = w.alloc (.cells #[.int .i64 0, .slice none 0 0] 65) := ⟨_, rfl⟩
  have hb0 : Below w.heap.size w w0 := by rw [hw0]; exact (Below.refl _ _).alloc (Nat.le_refl _) _
  have hz0 : w0.heap.size = w.heap.size + 1 := by rw [hw0]; simp
  have hk0 : w0.heap[w.heap.size]? = some (.cells #[.int .i64 0, .slice none 0 0] 65 (0, 0)) := by rw [hw0]; exact heap_alloc_new w _
  have HK0 := Lib.hid hk0
  have HB0 := Lib.hid hb0
  have HW0 := Lib.hid hw0
  have hsz0 := hb0.size
  clear hb0 hw0 hk0
  cases bs
  · skip
    clear hsh0 hx0 hy0
    go_enter Tryz.func60, Tryz.ntmps60
    go_wp2_with fail
    rw [← HW0.out]
    refine (HSZ.out _ (HC.out.below HB0.out)).mono ?_
    rintro e w1 ⟨rfl, hb1⟩
    have HB1 := Lib.hid (HB0.out.trans (hb1.mono hsz0))
    have hsz1 := HB1.out.size
    have K1 := Lib.hid ((hb1.block w.heap.size (by omega)).trans HK0.out)
    have hq1 := hb1.size
    clear hb1
    go_wp2_with fail
    refine (HS0.out _ (HC.out.below HB1.out)).mono ?_
    rintro e w2 ⟨rfl, hb2⟩
    have HB2 := Lib.hid (HB1.out.trans (hb2.mono hsz1))
    have hsz2 := HB2.out.size
    have K2 := Lib.hid ((hb2.block w.heap.size (by omega)).trans K1.out)
    clear hb2
    have y0 : w2.cell? ⟨w.heap.size, 0, none⟩ = some (.int .i64 0) := by rw [cell_of_row w2 _ 0 _ _ _ K2.out]; rfl
    have y1 : w2.cell? ⟨w.heap.size, 1, none⟩ = some (.slice none 0 0) := by rw [cell_of_row w2 _ 1 _ _ _ K2.out]; rfl
    have f0 := frozen_of_row w2 w.heap.size 0 _ _ K2.out
    have f1 := frozen_of_row w2 w.heap.size 1 _ _ K2.out
    go_wp2_with fail
    (try simp only [Exit.inBlock, Exit.then])
    have c0 : ((w2.setCell ⟨w.heap.size, 0, none⟩ (.int .i64 0)).setCell ⟨w.heap.size, 1, none⟩ (.slice none 0 0)).cell? ⟨w.heap.size, 0, none⟩ = some (.int .i64 0) := by
      rw [World.cell?_setCell_other _ _ _ _ (by simp)]
      exact World.cell?_setCell_same _ _ _ y0
    have c1 : ((w2.setCell ⟨w.heap.size, 0, none⟩ (.int .i64 0)).setCell ⟨w.heap.size, 1, none⟩ (.slice none 0 0)).cell? ⟨w.heap.size, 1, none⟩ = some (.slice none 0 0) :=
      World.cell?_setCell_same _ _ _ ((World.cell?_setCell_other _ _ _ _ (by simp)).trans y1)
    refine bodyPost_ret (v := .tuple #[.agg #[.int .i64 0, .slice none 0 0], .bool false]) (by simp [results, Tryz.results60, go_sem, c0, c1]) rfl ⟨rfl, ?_⟩
    exact (HB2.out.setCell (Nat.le_refl _) _).setCell (Nat.le_refl _) _
  · skip
    simp only [Bool.true_and] at hsh0
    by_cases hkr : 1 ≤ k ∧ k ≤ 6
    · skip
      have hkk : (decide (1 ≤ k) && decide (k ≤ 6)) = true := by simp only [Bool.and_eq_true, decide_eq_true_eq]; exact hkr
      rw [hkk, Bool.true_and] at hsh0
      obtain ⟨X1, hX1⟩ : ∃ X1, X * k = X1 := ⟨_, rfl⟩
      obtain ⟨Y1, hY1⟩ : ∃ Y1, Y * k = Y1 := ⟨_, rfl⟩
      have bX : 0 ≤ X1 ∧ X1 ≤ 48 := by rw [← hX1]; exact ⟨Int.mul_nonneg hx0.1 (by omega), by have := Int.mul_le_mul hx0.2 hkr.2 (by omega) (by omega : (0 : Int) ≤ 8); omega⟩
      have bY : 0 ≤ Y1 ∧ Y1 ≤ 48 := by rw [← hY1]; exact ⟨Int.mul_nonneg hy0.1 (by omega), by have := Int.mul_le_mul hy0.2 hkr.2 (by omega) (by omega : (0 : Int) ≤ 8); omega⟩
      rw [hX1, hY1] at hsh0
      have sX : IntKind.i64.wrap X1 = X1 := IntWalk.i64_in _ (by omega)
      have sY : IntKind.i64.wrap Y1 = Y1 := IntWalk.i64_in _ (by omega)
      clear hx0 hy0
      by_cases hXb : X1 ≤ 6
      · skip
        have hYb : 6 < Y1 := by
          rcases Int.lt_or_le 6 Y1 with h | h
          · exact h
          · rw [decide_eq_true hXb, decide_eq_true h] at hsh0; simp at hsh0
        have d1 : decide (6 < X1) = false := decide_eq_false (by omega)
        have d2 : decide (6 < Y1) = true := decide_eq_true hYb
        clear hsh0
        go_enter Tryz.func60, Tryz.ntmps60
        go_wp2_with fail
        rw [← HW0.out]
        refine (HSZ.out _ (HC.out.below HB0.out)).mono ?_
        rintro e w1 ⟨rfl, hb1⟩
        have HB1 := Lib.hid (HB0.out.trans (hb1.mono hsz0))
        have hsz1 := HB1.out.size
        have K1 := Lib.hid ((hb1.block w.heap.size (by omega)).trans HK0.out)
        have hq1 := hb1.size
        clear hb1
        go_wp2_with fail
        refine (HS0.out _ (HC.out.below HB1.out)).mono ?_
        rintro e w2 ⟨rfl, hb2⟩
        have HB2 := Lib.hid (HB1.out.trans (hb2.mono hsz1))
        have hsz2 := HB2.out.size
        have K2 := Lib.hid ((hb2.block w.heap.size (by omega)).trans K1.out)
        clear hb2
        have y0 : w2.cell? ⟨w.heap.size, 0, none⟩ = some (.int .i64 0) := by rw [cell_of_row w2 _ 0 _ _ _ K2.out]; rfl
        have y1 : w2.cell? ⟨w.heap.size, 1, none⟩ = some (.slice none 0 0) := by rw [cell_of_row w2 _ 1 _ _ _ K2.out]; rfl
        have f0 := frozen_of_row w2 w.heap.size 0 _ _ K2.out
        have f1 := frozen_of_row w2 w.heap.size 1 _ _ K2.out
        go_wp2_with fail
        refine (isSide_any _ _).mono ?_
        rw [hkk]
        rintro e w' ⟨rfl, rfl⟩
        go_wp2_with fail
        (try simp only [Exit.inBlock, Exit.then])
        have c0 : ((w2.setCell ⟨w.heap.size, 0, none⟩ (.int .i64 0)).setCell ⟨w.heap.size, 1, none⟩ (.slice none 0 0)).cell? ⟨w.heap.size, 0, none⟩ = some (.int .i64 0) := by
          rw [World.cell?_setCell_other _ _ _ _ (by simp)]
          exact World.cell?_setCell_same _ _ _ y0
        have c1 : ((w2.setCell ⟨w.heap.size, 0, none⟩ (.int .i64 0)).setCell ⟨w.heap.size, 1, none⟩ (.slice none 0 0)).cell? ⟨w.heap.size, 1, none⟩ = some (.slice none 0 0) :=
          World.cell?_setCell_same _ _ _ ((World.cell?_setCell_other _ _ _ _ (by simp)).trans y1)
        refine bodyPost_ret (v := .tuple #[.agg #[.int .i64 0, .slice none 0 0], .bool false]) (by simp [results, Tryz.results60, go_sem, c0, c1]) rfl ⟨rfl, ?_⟩
        exact (HB2.out.setCell (Nat.le_refl _) _).setCell (Nat.le_refl _) _
      · skip
        have d1 : decide (6 < X1) = true := decide_eq_true (by omega)
        clear hsh0
        go_enter Tryz.func60, Tryz.ntmps60
        go_wp2_with fail
        rw [← HW0.out]
        refine (HSZ.out _ (HC.out.below HB0.out)).mono ?_
        rintro e w1 ⟨rfl, hb1⟩
        have HB1 := Lib.hid (HB0.out.trans (hb1.mono hsz0))
        have hsz1 := HB1.out.size
        have K1 := Lib.hid ((hb1.block w.heap.size (by omega)).trans HK0.out)
        have hq1 := hb1.size
        clear hb1
        go_wp2_with fail
        refine (HS0.out _ (HC.out.below HB1.out)).mono ?_
        rintro e w2 ⟨rfl, hb2⟩
        have HB2 := Lib.hid (HB1.out.trans (hb2.mono hsz1))
        have hsz2 := HB2.out.size
        have K2 := Lib.hid ((hb2.block w.heap.size (by omega)).trans K1.out)
        clear hb2
        have y0 : w2.cell? ⟨w.heap.size, 0, none⟩ = some (.int .i64 0) := by rw [cell_of_row w2 _ 0 _ _ _ K2.out]; rfl
        have y1 : w2.cell? ⟨w.heap.size, 1, none⟩ = some (.slice none 0 0) := by rw [cell_of_row w2 _ 1 _ _ _ K2.out]; rfl
        have f0 := frozen_of_row w2 w.heap.size 0 _ _ K2.out
        have f1 := frozen_of_row w2 w.heap.size 1 _ _ K2.out
        go_wp2_with fail
        refine (isSide_any _ _).mono ?_
        rw [hkk]
        rintro e w' ⟨rfl, rfl⟩
        go_wp2_with fail
        (try simp only [Exit.inBlock, Exit.then])
        have c0 : ((w2.setCell ⟨w.heap.size, 0, none⟩ (.int .i64 0)).setCell ⟨w.heap.size, 1, none⟩ (.slice none 0 0)).cell? ⟨w.heap.size, 0, none⟩ = some (.int .i64 0) := by
          rw [World.cell?_setCell_other _ _ _ _ (by simp)]
          exact World.cell?_setCell_same _ _ _ y0
        have c1 : ((w2.setCell ⟨w.heap.size, 0, none⟩ (.int .i64 0)).setCell ⟨w.heap.size, 1, none⟩ (.slice none 0 0)).cell? ⟨w.heap.size, 1, none⟩ = some (.slice none 0 0) :=
          World.cell?_setCell_same _ _ _ ((World.cell?_setCell_other _ _ _ _ (by simp)).trans y1)
        refine bodyPost_ret (v := .tuple #[.agg #[.int .i64 0, .slice none 0 0], .bool false]) (by simp [results, Tryz.results60, go_sem, c0, c1]) rfl ⟨rfl, ?_⟩
        exact (HB2.out.setCell (Nat.le_refl _) _).setCell (Nat.le_refl _) _
    · skip
      have hkk : (decide (1 ≤ k) && decide (k ≤ 6)) = false := by rw [Bool.and_eq_false_iff, decide_eq_false_iff_not, decide_eq_false_iff_not]; omega
      clear hsh0 hx0 hy0
      go_enter Tryz.func60, Tryz.ntmps60
      go_wp2_with fail
      rw [← HW0.out]
      refine (HSZ.out _ (HC.out.below HB0.out)).mono ?_
      rintro e w1 ⟨rfl, hb1⟩
      have HB1 := Lib.hid (HB0.out.trans (hb1.mono hsz0))
      have hsz1 := HB1.out.size
      have K1 := Lib.hid ((hb1.block w.heap.size (by omega)).trans HK0.out)
      have hq1 := hb1.size
      clear hb1
      go_wp2_with fail
      refine (HS0.out _ (HC.out.below HB1.out)).mono ?_
      rintro e w2 ⟨rfl, hb2⟩
      have HB2 := Lib.hid (HB1.out.trans (hb2.mono hsz1))
      have hsz2 := HB2.out.size
      have K2 := Lib.hid ((hb2.block w.heap.size (by omega)).trans K1.out)
      clear hb2
      have y0 : w2.cell? ⟨w.heap.size, 0, none⟩ = some (.int .i64 0) := by rw [cell_of_row w2 _ 0 _ _ _ K2.out]; rfl
      have y1 : w2.cell? ⟨w.heap.size, 1, none⟩ = some (.slice none 0 0) := by rw [cell_of_row w2 _ 1 _ _ _ K2.out]; rfl
      have f0 := frozen_of_row w2 w.heap.size 0 _ _ K2.out
      have f1 := frozen_of_row w2 w.heap.size 1 _ _ K2.out
      go_wp2_with fail
      refine (isSide_any _ _).mono ?_
      rw [hkk]
      rintro e w' ⟨rfl, rfl⟩
      go_wp2_with fail
      (try simp only [Exit.inBlock, Exit.then])
      have c0 : ((w2.setCell ⟨w.heap.size, 0, none⟩ (.int .i64 0)).setCell ⟨w.heap.size, 1, none⟩ (.slice none 0 0)).cell? ⟨w.heap.size, 0, none⟩ = some (.int .i64 0) := by
        rw [World.cell?_setCell_other _ _ _ _ (by simp)]
        exact World.cell?_setCell_same _ _ _ y0
      have c1 : ((w2.setCell ⟨w.heap.size, 0, none⟩ (.int .i64 0)).setCell ⟨w.heap.size, 1, none⟩ (.slice none 0 0)).cell? ⟨w.heap.size, 1, none⟩ = some (.slice none 0 0) :=
        World.cell?_setCell_same _ _ _ ((World.cell?_setCell_other _ _ _ _ (by simp)).trans y1)
      refine bodyPost_ret (v := .tuple #[.agg #[.int .i64 0, .slice none 0 0], .bool false]) (by simp [results, Tryz.results60, go_sem, c0, c1]) rfl ⟨rfl, ?_⟩
      exact (HB2.out.setCell (Nat.le_refl _) _).setCell (Nat.le_refl _) _

set_option maxRecDepth 100000 in
set_option maxHeartbeats 3200000 in
theorem specScaled_no (ad : Option Addr) (c : Nat) (l : List Cl) (k : Int) (w : World) (hn : l.length ≤ 1048576) (hok : scOk l k = false) (hc : CellsAt w ad (cls l)) :
    Calls Tryz.prog 58 #[.slice ad l.length c, .int .i64 k] w fun e w' => e = .returned (.tuple #[.agg #[.int .i64 0, .slice none 0 0], .bool false]) ∧ Below w.heap.size w w' := by
  have HC := Lib.hid hc
  obtain ⟨hx0, hy0⟩ := size_bd l
  have HSZ := Lib.hid (fun w' hc' => specSize ad c l w' hn hc')
  have hsh0 : scOk l k = (decide (Shape l) && (decide (1 ≤ k) && decide (k ≤ 6)) && decide (sizeX l * k ≤ 6) && decide (sizeY l * k ≤ 6)) := rfl
  rw [hok] at hsh0
  clear hok hc
  have HS0 := Lib.hid (fun w' hc' => specShape ad c l w' hn hc')
  generalize sizeX l = X at HSZ hx0 hsh0
  generalize sizeY l = Y at HSZ hy0 hsh0
  generalize decide (Shape l) = bs at HS0 hsh0
  obtain ⟨w0, hw0⟩ : ∃ w0, w0 = w.alloc (.cells #[.int .i64 0, .slice none 0 0] 65) := ⟨_, rfl⟩
  have hb0 : Below w.heap.size w w0 := by rw [hw0]; exact (Below.refl _ _).alloc (Nat.le_refl _) _
  have hz0 : w0.heap.size = w.heap.size + 1 := by rw [hw0]; simp
  have hk0 : w0.heap[w.heap.size]? = some (.cells #[.int .i64 0, .slice none 0 0] 65 (0, 0)) := by rw [hw0]; exact heap_alloc_new w _
  have HK0 := Lib.hid hk0
  have HB0 := Lib.hid hb0
  have HW0 := Lib.hid hw0
  have hsz0 := hb0.size
  clear hb0 hw0 hk0
  cases bs
  · skip
    clear hsh0 hx0 hy0
    go_enter Tryz.func58, Tryz.ntmps58
    go_wp2_with fail
    rw [← HW0.out]
    refine (HSZ.out _ (HC.out.below HB0.out)).mono ?_
    rintro e w1 ⟨rfl, hb1⟩
    have HB1 := Lib.hid (HB0.out.trans (hb1.mono hsz0))
    have hsz1 := HB1.out.size
    have K1 := Lib.hid ((hb1.block w.heap.size (by omega)).trans HK0.out)
    have hq1 := hb1.size
    clear hb1
    go_wp2_with fail
    refine (HS0.out _ (HC.out.below HB1.out)).mono ?_
    rintro e w2 ⟨rfl, hb2⟩
    have HB2 := Lib.hid (HB1.out.trans (hb2.mono hsz1))
    have hsz2 := HB2.out.size
    have K2 := Lib.hid ((hb2.block w.heap.size (by omega)).trans K1.out)
    clear hb2
    have y0 : w2.cell? ⟨w.heap.size, 0, none⟩ = some (.int .i64 0) := by rw [cell_of_row w2 _ 0 _ _ _ K2.out]; rfl
    have y1 : w2.cell? ⟨w.heap.size, 1, none⟩ = some (.slice none 0 0) := by rw [cell_of_row w2 _ 1 _ _ _ K2.out]; rfl
    have f0 := frozen_of_row w2 w.heap.size 0 _ _ K2.out
    have f1 := frozen_of_row w2 w.heap.size 1 _ _ K2.out
    go_wp2_with fail
    (try simp only [Exit.inBlock, Exit.then])
    have c0 : ((w2.setCell ⟨w.heap.size, 0, none⟩ (.int .i64 0)).setCell ⟨w.heap.size, 1, none⟩ (.slice none 0 0)).cell? ⟨w.heap.size, 0, none⟩ = some (.int .i64 0) := by
      rw [World.cell?_setCell_other _ _ _ _ (by simp)]
      exact World.cell?_setCell_same _ _ _ y0
    have c1 : ((w2.setCell ⟨w.heap.size, 0, none⟩ (.int .i64 0)).setCell ⟨w.heap.size, 1, none⟩ (.slice none 0 0)).cell? ⟨w.heap.size, 1, none⟩ = some (.slice none 0 0) :=
      World.cell?_setCell_same _ _ _ ((World.cell?_setCell_other _ _ _ _ (by simp)).trans y1)
    refine bodyPost_ret (v := .tuple #[.agg #[.int .i64 0, .slice none 0 0], .bool false]) (by simp [results, Tryz.results58, go_sem, c0, c1]) rfl ⟨rfl, ?_⟩
    exact (HB2.out.setCell (Nat.le_refl _) _).setCell (Nat.le_refl _) _
  · skip
    simp only [Bool.true_and] at hsh0
    by_cases hkr : 1 ≤ k ∧ k ≤ 6
    · skip
      have hkk : (decide (1 ≤ k) && decide (k ≤ 6)) = true := by simp only [Bool.and_eq_true, decide_eq_true_eq]; exact hkr
      rw [hkk, Bool.true_and] at hsh0
      obtain ⟨X1, hX1⟩ : ∃ X1, X * k = X1 := ⟨_, rfl⟩
      obtain ⟨Y1, hY1⟩ : ∃ Y1, Y * k = Y1 := ⟨_, rfl⟩
      have bX : 0 ≤ X1 ∧ X1 ≤ 48 := by rw [← hX1]; exact ⟨Int.mul_nonneg hx0.1 (by omega), by have := Int.mul_le_mul hx0.2 hkr.2 (by omega) (by omega : (0 : Int) ≤ 8); omega⟩
      have bY : 0 ≤ Y1 ∧ Y1 ≤ 48 := by rw [← hY1]; exact ⟨Int.mul_nonneg hy0.1 (by omega), by have := Int.mul_le_mul hy0.2 hkr.2 (by omega) (by omega : (0 : Int) ≤ 8); omega⟩
      rw [hX1, hY1] at hsh0
      have sX : IntKind.i64.wrap X1 = X1 := IntWalk.i64_in _ (by omega)
      have sY : IntKind.i64.wrap Y1 = Y1 := IntWalk.i64_in _ (by omega)
      clear hx0 hy0
      by_cases hXb : X1 ≤ 6
      · skip
        have hYb : 6 < Y1 := by
          rcases Int.lt_or_le 6 Y1 with h | h
          · exact h
          · rw [decide_eq_true hXb, decide_eq_true h] at hsh0; simp at hsh0
        have d1 : decide (6 < X1) = false := decide_eq_false (by omega)
        have d2 : decide (6 < Y1) = true := decide_eq_true hYb
        clear hsh0
        go_enter Tryz.func58, Tryz.ntmps58
        go_wp2_with fail
        rw [← HW0.out]
        refine (HSZ.out _ (HC.out.below HB0.out)).mono ?_
        rintro e w1 ⟨rfl, hb1⟩
        have HB1 := Lib.hid (HB0.out.trans (hb1.mono hsz0))
        have hsz1 := HB1.out.size
        have K1 := Lib.hid ((hb1.block w.heap.size (by omega)).trans HK0.out)
        have hq1 := hb1.size
        clear hb1
        go_wp2_with fail
        refine (HS0.out _ (HC.out.below HB1.out)).mono ?_
        rintro e w2 ⟨rfl, hb2⟩
        have HB2 := Lib.hid (HB1.out.trans (hb2.mono hsz1))
        have hsz2 := HB2.out.size
        have K2 := Lib.hid ((hb2.block w.heap.size (by omega)).trans K1.out)
        clear hb2
        have y0 : w2.cell? ⟨w.heap.size, 0, none⟩ = some (.int .i64 0) := by rw [cell_of_row w2 _ 0 _ _ _ K2.out]; rfl
        have y1 : w2.cell? ⟨w.heap.size, 1, none⟩ = some (.slice none 0 0) := by rw [cell_of_row w2 _ 1 _ _ _ K2.out]; rfl
        have f0 := frozen_of_row w2 w.heap.size 0 _ _ K2.out
        have f1 := frozen_of_row w2 w.heap.size 1 _ _ K2.out
        go_wp2_with fail
        refine (l1In_any _ _ _ _).mono ?_
        rw [hkk]
        rintro e w' ⟨rfl, rfl⟩
        go_wp2_with fail
        (try simp only [Exit.inBlock, Exit.then])
        have c0 : ((w2.setCell ⟨w.heap.size, 0, none⟩ (.int .i64 0)).setCell ⟨w.heap.size, 1, none⟩ (.slice none 0 0)).cell? ⟨w.heap.size, 0, none⟩ = some (.int .i64 0) := by
          rw [World.cell?_setCell_other _ _ _ _ (by simp)]
          exact World.cell?_setCell_same _ _ _ y0
        have c1 : ((w2.setCell ⟨w.heap.size, 0, none⟩ (.int .i64 0)).setCell ⟨w.heap.size, 1, none⟩ (.slice none 0 0)).cell? ⟨w.heap.size, 1, none⟩ = some (.slice none 0 0) :=
          World.cell?_setCell_same _ _ _ ((World.cell?_setCell_other _ _ _ _ (by simp)).trans y1)
        refine bodyPost_ret (v := .tuple #[.agg #[.int .i64 0, .slice none 0 0], .bool false]) (by simp [results, Tryz.results58, go_sem, c0, c1]) rfl ⟨rfl, ?_⟩
        exact (HB2.out.setCell (Nat.le_refl _) _).setCell (Nat.le_refl _) _
      · skip
        have d1 : decide (6 < X1) = true := decide_eq_true (by omega)
        clear hsh0
        go_enter Tryz.func58, Tryz.ntmps58
        go_wp2_with fail
        rw [← HW0.out]
        refine (HSZ.out _ (HC.out.below HB0.out)).mono ?_
        rintro e w1 ⟨rfl, hb1⟩
        have HB1 := Lib.hid (HB0.out.trans (hb1.mono hsz0))
        have hsz1 := HB1.out.size
        have K1 := Lib.hid ((hb1.block w.heap.size (by omega)).trans HK0.out)
        have hq1 := hb1.size
        clear hb1
        go_wp2_with fail
        refine (HS0.out _ (HC.out.below HB1.out)).mono ?_
        rintro e w2 ⟨rfl, hb2⟩
        have HB2 := Lib.hid (HB1.out.trans (hb2.mono hsz1))
        have hsz2 := HB2.out.size
        have K2 := Lib.hid ((hb2.block w.heap.size (by omega)).trans K1.out)
        clear hb2
        have y0 : w2.cell? ⟨w.heap.size, 0, none⟩ = some (.int .i64 0) := by rw [cell_of_row w2 _ 0 _ _ _ K2.out]; rfl
        have y1 : w2.cell? ⟨w.heap.size, 1, none⟩ = some (.slice none 0 0) := by rw [cell_of_row w2 _ 1 _ _ _ K2.out]; rfl
        have f0 := frozen_of_row w2 w.heap.size 0 _ _ K2.out
        have f1 := frozen_of_row w2 w.heap.size 1 _ _ K2.out
        go_wp2_with fail
        refine (l1In_any _ _ _ _).mono ?_
        rw [hkk]
        rintro e w' ⟨rfl, rfl⟩
        go_wp2_with fail
        (try simp only [Exit.inBlock, Exit.then])
        have c0 : ((w2.setCell ⟨w.heap.size, 0, none⟩ (.int .i64 0)).setCell ⟨w.heap.size, 1, none⟩ (.slice none 0 0)).cell? ⟨w.heap.size, 0, none⟩ = some (.int .i64 0) := by
          rw [World.cell?_setCell_other _ _ _ _ (by simp)]
          exact World.cell?_setCell_same _ _ _ y0
        have c1 : ((w2.setCell ⟨w.heap.size, 0, none⟩ (.int .i64 0)).setCell ⟨w.heap.size, 1, none⟩ (.slice none 0 0)).cell? ⟨w.heap.size, 1, none⟩ = some (.slice none 0 0) :=
          World.cell?_setCell_same _ _ _ ((World.cell?_setCell_other _ _ _ _ (by simp)).trans y1)
        refine bodyPost_ret (v := .tuple #[.agg #[.int .i64 0, .slice none 0 0], .bool false]) (by simp [results, Tryz.results58, go_sem, c0, c1]) rfl ⟨rfl, ?_⟩
        exact (HB2.out.setCell (Nat.le_refl _) _).setCell (Nat.le_refl _) _
    · skip
      have hkk : (decide (1 ≤ k) && decide (k ≤ 6)) = false := by rw [Bool.and_eq_false_iff, decide_eq_false_iff_not, decide_eq_false_iff_not]; omega
      clear hsh0 hx0 hy0
      go_enter Tryz.func58, Tryz.ntmps58
      go_wp2_with fail
      rw [← HW0.out]
      refine (HSZ.out _ (HC.out.below HB0.out)).mono ?_
      rintro e w1 ⟨rfl, hb1⟩
      have HB1 := Lib.hid (HB0.out.trans (hb1.mono hsz0))
      have hsz1 := HB1.out.size
      have K1 := Lib.hid ((hb1.block w.heap.size (by omega)).trans HK0.out)
      have hq1 := hb1.size
      clear hb1
      go_wp2_with fail
      refine (HS0.out _ (HC.out.below HB1.out)).mono ?_
      rintro e w2 ⟨rfl, hb2⟩
      have HB2 := Lib.hid (HB1.out.trans (hb2.mono hsz1))
      have hsz2 := HB2.out.size
      have K2 := Lib.hid ((hb2.block w.heap.size (by omega)).trans K1.out)
      clear hb2
      have y0 : w2.cell? ⟨w.heap.size, 0, none⟩ = some (.int .i64 0) := by rw [cell_of_row w2 _ 0 _ _ _ K2.out]; rfl
      have y1 : w2.cell? ⟨w.heap.size, 1, none⟩ = some (.slice none 0 0) := by rw [cell_of_row w2 _ 1 _ _ _ K2.out]; rfl
      have f0 := frozen_of_row w2 w.heap.size 0 _ _ K2.out
      have f1 := frozen_of_row w2 w.heap.size 1 _ _ K2.out
      go_wp2_with fail
      refine (l1In_any _ _ _ _).mono ?_
      rw [hkk]
      rintro e w' ⟨rfl, rfl⟩
      go_wp2_with fail
      (try simp only [Exit.inBlock, Exit.then])
      have c0 : ((w2.setCell ⟨w.heap.size, 0, none⟩ (.int .i64 0)).setCell ⟨w.heap.size, 1, none⟩ (.slice none 0 0)).cell? ⟨w.heap.size, 0, none⟩ = some (.int .i64 0) := by
        rw [World.cell?_setCell_other _ _ _ _ (by simp)]
        exact World.cell?_setCell_same _ _ _ y0
      have c1 : ((w2.setCell ⟨w.heap.size, 0, none⟩ (.int .i64 0)).setCell ⟨w.heap.size, 1, none⟩ (.slice none 0 0)).cell? ⟨w.heap.size, 1, none⟩ = some (.slice none 0 0) :=
        World.cell?_setCell_same _ _ _ ((World.cell?_setCell_other _ _ _ _ (by simp)).trans y1)
      refine bodyPost_ret (v := .tuple #[.agg #[.int .i64 0, .slice none 0 0], .bool false]) (by simp [results, Tryz.results58, go_sem, c0, c1]) rfl ⟨rfl, ?_⟩
      exact (HB2.out.setCell (Nat.le_refl _) _).setCell (Nat.le_refl _) _
end Go.Proofs.YtmpcmeeoiapbdaaGreatDoor
