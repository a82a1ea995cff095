/- HalfN: HalvesOf, the reference's and the program's, in every region. -/
import Derived.Test.YtcoggnoeafpgbaaHalfS
namespace Go.Proofs.Ytcoggnoeafpgbaa
open Go.RowKit

set_option maxRecDepth 100000 in
set_option maxHeartbeats 1600000 in
theorem implHalves (b : Int) (ad : Option Addr) (c : Nat) (xs : List Int) (w : World) (hn : xs.length ≤ 1048576) (hc : CellsAt w ad (ints xs)) :
    Calls Try.prog 7 #[.agg #[.int .i64 b, .slice ad xs.length c]] w (HalvAt w (halvesO b xs) (halvesL b xs)) := by
  by_cases hh : Halv b xs
  · obtain ⟨B, rfl⟩ := Int.eq_ofNat_of_zero_le (by have := hh.1.1.1; omega : 0 ≤ b)
    exact implHalves_yes B ad c xs w hh hc
  · obtain ⟨e1, e2⟩ := halves_no hh
    rw [e1, e2]
    have har := fun w h => implArea b ad c xs w hn h
    have hN : areaR b xs < 2 ∨ (2 ≤ areaR b xs ∧ 16 < areaR b xs) ∨ ((2 ≤ areaR b xs ∧ areaR b xs ≤ 16) ∧ areaR b xs % 2 = 1) := by
      unfold areaR
      by_cases hr : Reg b xs
      · rw [if_pos hr]
        have q : ¬ (2 ≤ areaTo xs xs.length ∧ areaTo xs xs.length ≤ 16 ∧ areaTo xs xs.length % 2 = 0) := fun q => hh ⟨hr, q⟩
        omega
      · rw [if_neg hr]
        omega
    have HAR := Lib.hid har
    have HC := Lib.hid hc
    clear har hc hh e1 e2
    generalize areaR b xs = N at hN HAR
    obtain ⟨wA, hwA⟩ : ∃ wA, wA = w.alloc (.cells #[.int .i64 b, .slice ad xs.length c] 28) := ⟨_, rfl⟩
    have hbA : Below w.heap.size w wA := by rw [hwA]; exact (Below.refl _ _).alloc (Nat.le_refl _) _
    have hblkA : wA.heap[w.heap.size]? = some (.cells #[.int .i64 b, .slice ad xs.length c] 28 (0, 0)) := by rw [hwA]; exact heap_alloc_new w _
    have HBA := Lib.hid hbA
    have HWA := Lib.hid hwA
    have hszA := hbA.size
    unfold HalvAt
    have x00 : wA.cell? ⟨w.heap.size, 0, none⟩ = some (.int .i64 b) := by rw [cell_of_row wA _ 0 _ _ _ hblkA]; rfl
    have x01 : wA.cell? ⟨w.heap.size, 1, none⟩ = some (.slice ad xs.length c) := by rw [cell_of_row wA _ 1 _ _ _ hblkA]; rfl
    clear hbA hblkA hwA
    rcases hN with hN | ⟨hN1, hN2⟩ | ⟨⟨hN1, hN2⟩, hN3⟩
    · go_enter Try.func7, Try.ntmps7
      go_wp2_with fail
      rw [← HWA.out]
      go_wp2_with fail
      refine (HAR.out wA (HC.out.below HBA.out)).mono ?_
      rintro e w1 ⟨rfl, hb1⟩
      have HB1 := Lib.hid (HBA.out.trans (hb1.mono hszA))
      have hsz1 := HB1.out.size
      clear hb1 x00 x01
      go_wp2
      go_ret2
      exact ⟨none, 0, rfl, World.ownsRow_nil _ _ _ _, HB1.out⟩
    · go_enter Try.func7, Try.ntmps7
      go_wp2_with fail
      rw [← HWA.out]
      go_wp2_with fail
      refine (HAR.out wA (HC.out.below HBA.out)).mono ?_
      rintro e w1 ⟨rfl, hb1⟩
      have HB1 := Lib.hid (HBA.out.trans (hb1.mono hszA))
      have hsz1 := HB1.out.size
      clear hb1 x00 x01
      go_wp2
      go_ret2
      exact ⟨none, 0, rfl, World.ownsRow_nil _ _ _ _, HB1.out⟩
    · have hmod : ((N % 2 != 0)) = true := by rw [hN3]; rfl
      go_enter Try.func7, Try.ntmps7
      go_wp2_with fail
      rw [← HWA.out]
      go_wp2_with fail
      refine (HAR.out wA (HC.out.below HBA.out)).mono ?_
      rintro e w1 ⟨rfl, hb1⟩
      have HB1 := Lib.hid (HBA.out.trans (hb1.mono hszA))
      have hsz1 := HB1.out.size
      clear hb1 x00 x01
      go_wp2
      go_ret2
      exact ⟨none, 0, rfl, World.ownsRow_nil _ _ _ _, HB1.out⟩

set_option maxRecDepth 100000 in
set_option maxHeartbeats 1600000 in
theorem specHalves (b : Int) (ad : Option Addr) (c : Nat) (xs : List Int) (w : World) (hn : xs.length ≤ 1048576) (hc : CellsAt w ad (ints xs)) :
    Calls Try.prog 5 #[.agg #[.int .i64 b, .slice ad xs.length c]] w (HalvAt w (halvesO b xs) (halvesL b xs)) := by
  by_cases hh : Halv b xs
  · obtain ⟨B, rfl⟩ := Int.eq_ofNat_of_zero_le (by have := hh.1.1.1; omega : 0 ≤ b)
    exact specHalves_yes B ad c xs w hh hc
  · obtain ⟨e1, e2⟩ := halves_no hh
    rw [e1, e2]
    have har := fun w h => specArea b ad c xs w hn h
    have hN : areaR b xs < 2 ∨ (2 ≤ areaR b xs ∧ 16 < areaR b xs) ∨ ((2 ≤ areaR b xs ∧ areaR b xs ≤ 16) ∧ areaR b xs % 2 = 1) := by
      unfold areaR
      by_cases hr : Reg b xs
      · rw [if_pos hr]
        have q : ¬ (2 ≤ areaTo xs xs.length ∧ areaTo xs xs.length ≤ 16 ∧ areaTo xs xs.length % 2 = 0) := fun q => hh ⟨hr, q⟩
        omega
      · rw [if_neg hr]
        omega
    have HAR := Lib.hid har
    have HC := Lib.hid hc
    clear har hc hh e1 e2
    generalize areaR b xs = N at hN HAR
    obtain ⟨wA, hwA⟩ : ∃ wA, wA = w.alloc (.cells #[.int .i64 b, .slice ad xs.length c] 28) := ⟨_, rfl⟩
    have hbA : Below w.heap.size w wA := by rw [hwA]; exact (Below.refl _ _).alloc (Nat.le_refl _) _
    have hblkA : wA.heap[w.heap.size]? = some (.cells #[.int .i64 b, .slice ad xs.length c] 28 (0, 0)) := by rw [hwA]; exact heap_alloc_new w _
    have HBA := Lib.hid hbA
    have HWA := Lib.hid hwA
    have hszA := hbA.size
    unfold HalvAt
    have x00 : wA.cell? ⟨w.heap.size, 0, none⟩ = some (.int .i64 b) := by rw [cell_of_row wA _ 0 _ _ _ hblkA]; rfl
    have x01 : wA.cell? ⟨w.heap.size, 1, none⟩ = some (.slice ad xs.length c) := by rw [cell_of_row wA _ 1 _ _ _ hblkA]; rfl
    clear hbA hblkA hwA
    rcases hN with hN | ⟨hN1, hN2⟩ | ⟨⟨hN1, hN2⟩, hN3⟩
    · go_enter Try.func5, Try.ntmps5
      go_wp2_with fail
      rw [← HWA.out]
      go_wp2_with fail
      refine (HAR.out wA (HC.out.below HBA.out)).mono ?_
      rintro e w1 ⟨rfl, hb1⟩
      have HB1 := Lib.hid (HBA.out.trans (hb1.mono hszA))
      have hsz1 := HB1.out.size
      clear hb1 x00 x01
      go_wp2
      go_ret2
      exact ⟨_, _, rfl, ownsRow_rebase (ownsRow_empty _ _ _) hsz1, HB1.out.alloc hsz1 _⟩
    · go_enter Try.func5, Try.ntmps5
      go_wp2_with fail
      rw [← HWA.out]
      go_wp2_with fail
      refine (HAR.out wA (HC.out.below HBA.out)).mono ?_
      rintro e w1 ⟨rfl, hb1⟩
      have HB1 := Lib.hid (HBA.out.trans (hb1.mono hszA))
      have hsz1 := HB1.out.size
      clear hb1 x00 x01
      go_wp2
      go_ret2
      exact ⟨_, _, rfl, ownsRow_rebase (ownsRow_empty _ _ _) hsz1, HB1.out.alloc hsz1 _⟩
    · have hmod : ((N % 2 == 1)) = true := by rw [hN3]; rfl
      go_enter Try.func5, Try.ntmps5
      go_wp2_with fail
      rw [← HWA.out]
      go_wp2_with fail
      refine (HAR.out wA (HC.out.below HBA.out)).mono ?_
      rintro e w1 ⟨rfl, hb1⟩
      have HB1 := Lib.hid (HBA.out.trans (hb1.mono hszA))
      have hsz1 := HB1.out.size
      clear hb1 x00 x01
      go_wp2
      go_ret2
      exact ⟨_, _, rfl, ownsRow_rebase (ownsRow_empty _ _ _) hsz1, HB1.out.alloc hsz1 _⟩
end Go.Proofs.Ytcoggnoeafpgbaa
