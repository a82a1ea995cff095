/- LawHalves: the program's HalvesOf returns what the reference's returns, for every region; no condition. -/
import Derived.Test.YtcoggnoeafpgbaaAllHead
import Derived.Test.YtcoggnoeafpgbaaAllFrame
import Derived.Test.YtcoggnoeafpgbaaAllMarkI
import Derived.Test.YtcoggnoeafpgbaaHalfN
import Derived.Deep.RegionHeld3
namespace Go.Proofs.Ytcoggnoeafpgbaa.lawHalves
open Go.ChangeShapes Go.WideShapes Go.ChangeAt Go.RowKit

theorem halves_len (b : Int) (xs : List Int) : (halvesL b xs).length ≤ 36 := by
  unfold halvesL
  split <;> simp
theorem both (b : Int) (_wb : (Lit.int .i64 b).wf = true) (xs : List Int) (_hw : ∀ x ∈ xs, (Lit.int .i64 x).wf = true) (hn : xs.length ≤ 1048576) :
    ∃ (r0 : List Int) (r1 : Bool), r0.length ≤ 36 ∧
      (∀ w ad cap, xs.length ≤ cap → CellsAt w ad (ints xs) → Calls Try.prog 5 #[.agg #[.int .i64 b, .slice ad xs.length cap]] w fun e w' => ∃ ad' cap', e = .returned (.tuple #[.slice ad' r0.length cap', .bool r1]) ∧ w'.ownsRow w.heap.size 3 1 (.slice ad' r0.length cap') r0.length (ints r0) ∧ Below w.heap.size w w') ∧
      ∀ w ad cap, xs.length ≤ cap → CellsAt w ad (ints xs) → Calls Try.prog 7 #[.agg #[.int .i64 b, .slice ad xs.length cap]] w fun e w' => ∃ ad' cap', e = .returned (.tuple #[.slice ad' r0.length cap', .bool r1]) ∧ w'.ownsRow w.heap.size 3 1 (.slice ad' r0.length cap') r0.length (ints r0) ∧ Below w.heap.size w w' :=
  ⟨halvesL b xs, (halvesO b xs).isSome, halves_len b xs, fun w ad c _ q => specHalves b ad c xs w hn q, fun w ad c _ q => implHalves b ad c xs w hn q⟩

set_option maxRecDepth 100000 in
set_option maxHeartbeats 4000000 in
theorem walk (w : World) (a0 : Int) (w0_ : (Lit.int .i64 a0).wf = true) (ad0 : Option Addr) (cap0 : Nat) (xs0 : List Int) (hm0 : xs0.length ≤ maxLen) (hc0 : CellsAt w ad0 (ints xs0)) (hw0 : ∀ x ∈ xs0, (Lit.int .i64 x).wf = true) :
    Calls Try.prog 3 #[.agg #[.int .i64 a0, .slice ad0 xs0.length cap0]] w fun e w' => e = .returned (.bool true) ∧ Below w.heap.size w w' := by
  unfold maxLen at hm0
  have H0 := Lib.hid hc0
  clear hc0
  by_cases hn0_ : xs0.length ≤ 1048576
  · skip
    have hn0 : xs0.length ≤ 1048576 := by omega
    obtain ⟨r0, r1, HL, hs, hi⟩ := both a0 w0_ xs0 hw0 hn0
    have HS := Lib.hid hs
    have HI := Lib.hid hi
    clear hs hi hw0
    have nn1 : (r1 != r1) = false := by simp
    go_enter Try.func3, Try.ntmps3
    go_wp2_with fail
    have q0 : Below w.heap.size w (w.alloc (.cells #[.int .i64 a0, .slice ad0 xs0.length cap0] 24)) := (Below.refl _ _).alloc (Nat.le_refl _) _
    have z0 : (w.alloc (.cells #[.int .i64 a0, .slice ad0 xs0.length cap0] 24)).heap.size = w.heap.size + 1 := by simp
    have hbx : (w.alloc (.cells #[.int .i64 a0, .slice ad0 xs0.length cap0] 24)).heap[w.heap.size]? = some (.cells #[.int .i64 a0, .slice ad0 xs0.length cap0] 24 (0, 0)) := heap_alloc_new w _
    generalize w.alloc (.cells #[.int .i64 a0, .slice ad0 xs0.length cap0] 24) = w0 at q0 z0 hbx ⊢
    have A0_0 := Lib.hid hbx
    clear hbx
    refine (szRegion_any _ _ _ _ _ _ hm0 (by omega) (by omega)).mono ?_
    rw [if_neg (by omega)]
    rintro e w1 ⟨rfl, hb1⟩
    have z1 := hb1.size
    have q1 : Below w.heap.size w w1 := q0.trans (hb1.mono q0.size)
    have A_1 := Lib.hid ((hb1.block w.heap.size (lt_of_block A0_0.out)).trans A0_0.out)
    clear A0_0
    have fA0 : w1.cell? ⟨w.heap.size, 0, none⟩ = some (.int .i64 a0) := by rw [cell_of_row w1 _ 0 _ _ _ A_1.out]; rfl
    have fA1 : w1.cell? ⟨w.heap.size, 1, none⟩ = some (.slice ad0 xs0.length cap0) := by rw [cell_of_row w1 _ 1 _ _ _ A_1.out]; rfl
    go_wp2_with fail
    clear fA0 fA1
    refine (toRegion_any _ _ _ xs0 _ hn0 (H0.out.below q1)).mono ?_
    rintro e w2 ⟨a2_, c2_, rfl, ho2, hb2⟩
    have z2 := hb2.size
    have q2 : Below w.heap.size w w2 := q1.trans (hb2.mono q1.size)
    have A_2 := Lib.hid ((hb2.block w.heap.size (lt_of_block A_1.out)).trans A_1.out)
    clear A_1
    have S0 := Lib.hid (Owned.of ho2)
    clear ho2
    have fA0 : w2.cell? ⟨w.heap.size, 0, none⟩ = some (.int .i64 a0) := by rw [cell_of_row w2 _ 0 _ _ _ A_2.out]; rfl
    have fA1 : w2.cell? ⟨w.heap.size, 1, none⟩ = some (.slice ad0 xs0.length cap0) := by rw [cell_of_row w2 _ 1 _ _ _ A_2.out]; rfl
    go_wp2_with fail
    clear fA0 fA1
    refine (HS.out _ _ _ S0.out.le_cap S0.out.cells).mono ?_
    rintro e w3 ⟨b3_0, d3_0, rfl, ho3_0, hb3⟩
    have z3 := hb3.size
    have q3 : Below w.heap.size w w3 := q2.trans (hb3.mono q2.size)
    have S0_3 := Lib.hid (S0.out.below hb3 (by omega))
    clear S0
    have A_3 := Lib.hid ((hb3.block w.heap.size (lt_of_block A_2.out)).trans A_2.out)
    clear A_2
    have R0 := Lib.hid (Owned.of ho3_0)
    clear ho3_0
    clear S0_3
    have fA0 : w3.cell? ⟨w.heap.size, 0, none⟩ = some (.int .i64 a0) := by rw [cell_of_row w3 _ 0 _ _ _ A_3.out]; rfl
    have fA1 : w3.cell? ⟨w.heap.size, 1, none⟩ = some (.slice ad0 xs0.length cap0) := by rw [cell_of_row w3 _ 1 _ _ _ A_3.out]; rfl
    go_wp2_with fail
    clear fA0 fA1
    refine (toRegion_any _ _ _ xs0 _ hn0 (H0.out.below q3)).mono ?_
    rintro e w4 ⟨a4_, c4_, rfl, ho4, hb4⟩
    have z4 := hb4.size
    have q4 : Below w.heap.size w w4 := q3.trans (hb4.mono q3.size)
    have R0_4 := Lib.hid (R0.out.below hb4 (by omega))
    clear R0
    have A_4 := Lib.hid ((hb4.block w.heap.size (lt_of_block A_3.out)).trans A_3.out)
    clear A_3
    have X0 := Lib.hid (Owned.of ho4)
    clear ho4
    have fA0 : w4.cell? ⟨w.heap.size, 0, none⟩ = some (.int .i64 a0) := by rw [cell_of_row w4 _ 0 _ _ _ A_4.out]; rfl
    have fA1 : w4.cell? ⟨w.heap.size, 1, none⟩ = some (.slice ad0 xs0.length cap0) := by rw [cell_of_row w4 _ 1 _ _ _ A_4.out]; rfl
    go_wp2_with fail
    clear fA0 fA1
    have hb5 : Below w4.heap.size w4 (w4.alloc (.cells #[.int .i64 a0, .slice a4_ xs0.length c4_] 28)) := (Below.refl _ _).alloc (Nat.le_refl _) _
    have zb5 : (w4.alloc (.cells #[.int .i64 a0, .slice a4_ xs0.length c4_] 28)).heap.size = w4.heap.size + 1 := by simp
    have hbx : (w4.alloc (.cells #[.int .i64 a0, .slice a4_ xs0.length c4_] 28)).heap[w4.heap.size]? = some (.cells #[.int .i64 a0, .slice a4_ xs0.length c4_] 28 (0, 0)) := heap_alloc_new w4 _
    generalize w4.alloc (.cells #[.int .i64 a0, .slice a4_ xs0.length c4_] 28) = w5 at hb5 zb5 hbx ⊢
    have z5 := hb5.size
    have q5 : Below w.heap.size w w5 := q4.trans (hb5.mono q4.size)
    have R0_5 := Lib.hid (R0_4.out.below hb5 (by omega))
    clear R0_4
    have X0_5 := Lib.hid (X0.out.below hb5 (by omega))
    clear X0
    have A_5 := Lib.hid ((hb5.block w.heap.size (lt_of_block A_4.out)).trans A_4.out)
    clear A_4
    have X0b_5 := Lib.hid hbx
    clear hbx
    refine (HI.out _ _ _ X0_5.out.le_cap X0_5.out.cells).mono ?_
    rintro e w6 ⟨b6_0, d6_0, rfl, ho6_0, hb6⟩
    have z6 := hb6.size
    have q6 : Below w.heap.size w w6 := q5.trans (hb6.mono q5.size)
    have R0_6 := Lib.hid (R0_5.out.below hb6 (by omega))
    clear R0_5
    have X0_6 := Lib.hid (X0_5.out.below hb6 (by omega))
    clear X0_5
    have A_6 := Lib.hid ((hb6.block w.heap.size (lt_of_block A_5.out)).trans A_5.out)
    clear A_5
    have X0b_6 := Lib.hid ((hb6.block w4.heap.size (lt_of_block X0b_5.out)).trans X0b_5.out)
    clear X0b_5
    have G0 := Lib.hid (Owned.of ho6_0)
    clear ho6_0
    have fA0 : w6.cell? ⟨w.heap.size, 0, none⟩ = some (.int .i64 a0) := by rw [cell_of_row w6 _ 0 _ _ _ A_6.out]; rfl
    have fA1 : w6.cell? ⟨w.heap.size, 1, none⟩ = some (.slice ad0 xs0.length cap0) := by rw [cell_of_row w6 _ 1 _ _ _ A_6.out]; rfl
    have fX0b0 : w6.cell? ⟨w4.heap.size, 0, none⟩ = some (.int .i64 a0) := by rw [cell_of_row w6 _ 0 _ _ _ X0b_6.out]; rfl
    have fX0b1 : w6.cell? ⟨w4.heap.size, 1, none⟩ = some (.slice a4_ xs0.length c4_) := by rw [cell_of_row w6 _ 1 _ _ _ X0b_6.out]; rfl
    go_wp2_with fail
    clear fA0 fA1
    clear fX0b0 fX0b1
    refine (eqIntS_same _ _ _ _ r0 _ (by omega) G0.out.cells R0_6.out.cells).mono ?_
    rintro e w7 ⟨rfl, hb7⟩
    have z7 := hb7.size
    have q7 : Below w.heap.size w w7 := q6.trans (hb7.mono q6.size)
    have R0_7 := Lib.hid (R0_6.out.below hb7 (by omega))
    clear R0_6
    have X0_7 := Lib.hid (X0_6.out.below hb7 (by omega))
    clear X0_6
    have G0_7 := Lib.hid (G0.out.below hb7 (by omega))
    clear G0
    have A_7 := Lib.hid ((hb7.block w.heap.size (lt_of_block A_6.out)).trans A_6.out)
    clear A_6
    have X0b_7 := Lib.hid ((hb7.block w4.heap.size (lt_of_block X0b_6.out)).trans X0b_6.out)
    clear X0b_6
    have fA0 : w7.cell? ⟨w.heap.size, 0, none⟩ = some (.int .i64 a0) := by rw [cell_of_row w7 _ 0 _ _ _ A_7.out]; rfl
    have fA1 : w7.cell? ⟨w.heap.size, 1, none⟩ = some (.slice ad0 xs0.length cap0) := by rw [cell_of_row w7 _ 1 _ _ _ A_7.out]; rfl
    have fX0b0 : w7.cell? ⟨w4.heap.size, 0, none⟩ = some (.int .i64 a0) := by rw [cell_of_row w7 _ 0 _ _ _ X0b_7.out]; rfl
    have fX0b1 : w7.cell? ⟨w4.heap.size, 1, none⟩ = some (.slice a4_ xs0.length c4_) := by rw [cell_of_row w7 _ 1 _ _ _ X0b_7.out]; rfl
    go_wp2_with fail
    have hq8 : CellsAt (w7.drew) ad0 (ints xs0) := (show CellsAt w7 ad0 (ints xs0) from H0.out.below q7)
    have HQ8 := Lib.hid hq8
    clear hq8
    have hqx8 := Lib.hid X0_7.out
    go_region_held3 (fun w' => w'.cell? ⟨w.heap.size, 0, none⟩ = some (.int .i64 a0) ∧ w'.cell? ⟨w.heap.size, 1, none⟩ = some (.slice ad0 xs0.length cap0) ∧ w'.cell? ⟨w4.heap.size, 0, none⟩ = some (.int .i64 a0) ∧ w'.cell? ⟨w4.heap.size, 1, none⟩ = some (.slice a4_ xs0.length c4_))
      (first | go_keep | exact ⟨(hb8.cell (p := ⟨w.heap.size, 0, none⟩) (by have := lt_of_block A_7.out; simp; omega)).trans fA0, (hb8.cell (p := ⟨w.heap.size, 1, none⟩) (by have := lt_of_block A_7.out; simp; omega)).trans fA1, (hb8.cell (p := ⟨w4.heap.size, 0, none⟩) (by have := lt_of_block X0b_7.out; simp; omega)).trans fX0b0, (hb8.cell (p := ⟨w4.heap.size, 1, none⟩) (by have := lt_of_block X0b_7.out; simp; omega)).trans fX0b1⟩ | exact ⟨((Below.trans (Below.mono hb8 (Nat.le_refl _)) (hb9.mono hb8.size)).cell (p := ⟨w.heap.size, 0, none⟩) (by have := lt_of_block A_7.out; simp; omega)).trans fA0, ((Below.trans (Below.mono hb8 (Nat.le_refl _)) (hb9.mono hb8.size)).cell (p := ⟨w.heap.size, 1, none⟩) (by have := lt_of_block A_7.out; simp; omega)).trans fA1, ((Below.trans (Below.mono hb8 (Nat.le_refl _)) (hb9.mono hb8.size)).cell (p := ⟨w4.heap.size, 0, none⟩) (by have := lt_of_block X0b_7.out; simp; omega)).trans fX0b0, ((Below.trans (Below.mono hb8 (Nat.le_refl _)) (hb9.mono hb8.size)).cell (p := ⟨w4.heap.size, 1, none⟩) (by have := lt_of_block X0b_7.out; simp; omega)).trans fX0b1⟩)
      (first | (go_at_call 6; refine (toRegion_any _ _ _ xs0 _ hn0 HQ8.out).mono ?_; rintro e w8 ⟨a8_, c8_, rfl, ho8, hb8⟩) | (go_at_call 9; refine (eqRegion_same _ _ _ _ _ xs0 _ hn0 (CellsAt.below (w := w7.drew) (Owned.cells (w := w7) X0_7.out) hb8) (ownsRow_cellsAt ho8)).mono ?_; rintro e w9 ⟨rfl, hb9⟩))
    clear HQ8
    clear fA0 fA1
    clear fX0b0 fX0b1
    have hb8_ : Below w7.heap.size w7 w8 := (Below.refl _ _).drew.trans (hb8.mono (Nat.le_refl _))
    clear hb8
    have hb8 := hb8_
    have z8 := hb8.size
    have q8 : Below w.heap.size w w8 := q7.trans (hb8.mono q7.size)
    have R0_8 := Lib.hid (R0_7.out.below hb8 (by omega))
    clear R0_7
    have X0_8 := Lib.hid (X0_7.out.below hb8 (by omega))
    clear X0_7
    have G0_8 := Lib.hid (G0_7.out.below hb8 (by omega))
    clear G0_7
    have A_8 := Lib.hid ((hb8.block w.heap.size (lt_of_block A_7.out)).trans A_7.out)
    clear A_7
    have X0b_8 := Lib.hid ((hb8.block w4.heap.size (lt_of_block X0b_7.out)).trans X0b_7.out)
    clear X0b_7
    have z9 := hb9.size
    have q9 : Below w.heap.size w w9 := q8.trans (hb9.mono q8.size)
    have R0_9 := Lib.hid (R0_8.out.below hb9 (by omega))
    clear R0_8
    have X0_9 := Lib.hid (X0_8.out.below hb9 (by omega))
    clear X0_8
    have G0_9 := Lib.hid (G0_8.out.below hb9 (by omega))
    clear G0_8
    have A_9 := Lib.hid ((hb9.block w.heap.size (lt_of_block A_8.out)).trans A_8.out)
    clear A_8
    have X0b_9 := Lib.hid ((hb9.block w4.heap.size (lt_of_block X0b_8.out)).trans X0b_8.out)
    clear X0b_8
    have fA0 : w9.cell? ⟨w.heap.size, 0, none⟩ = some (.int .i64 a0) := by rw [cell_of_row w9 _ 0 _ _ _ A_9.out]; rfl
    have fA1 : w9.cell? ⟨w.heap.size, 1, none⟩ = some (.slice ad0 xs0.length cap0) := by rw [cell_of_row w9 _ 1 _ _ _ A_9.out]; rfl
    have fX0b0 : w9.cell? ⟨w4.heap.size, 0, none⟩ = some (.int .i64 a0) := by rw [cell_of_row w9 _ 0 _ _ _ X0b_9.out]; rfl
    have fX0b1 : w9.cell? ⟨w4.heap.size, 1, none⟩ = some (.slice a4_ xs0.length c4_) := by rw [cell_of_row w9 _ 1 _ _ _ X0b_9.out]; rfl
    go_wp2_with fail
    clear fA0 fA1
    clear fX0b0 fX0b1
    refine (markRegion_all (k := 1) _ _ _ _ _ xs0 _ hn0 (by omega) X0_9.out).mono ?_
    rintro e w10 ⟨rfl, _, ht10⟩
    have z10 := ht10.size
    have zq10 := q9.size
    have q10 : Below w.heap.size w w10 := q9.trans (ht10.below (by omega) (by omega))
    have R0_10 := Lib.hid (R0_9.out.touched ht10 (by omega))
    clear R0_9
    have G0_10 := Lib.hid (G0_9.out.touched ht10 (by omega))
    clear G0_9
    have A_10 := Lib.hid ((ht10.block w.heap.size (lt_of_block A_9.out) (by omega)).trans A_9.out)
    clear A_9
    have X0b_10 := Lib.hid ((ht10.block w4.heap.size (lt_of_block X0b_9.out) (by omega)).trans X0b_9.out)
    clear X0b_9
    have fA0 : w10.cell? ⟨w.heap.size, 0, none⟩ = some (.int .i64 a0) := by rw [cell_of_row w10 _ 0 _ _ _ A_10.out]; rfl
    have fA1 : w10.cell? ⟨w.heap.size, 1, none⟩ = some (.slice ad0 xs0.length cap0) := by rw [cell_of_row w10 _ 1 _ _ _ A_10.out]; rfl
    have fX0b0 : w10.cell? ⟨w4.heap.size, 0, none⟩ = some (.int .i64 a0) := by rw [cell_of_row w10 _ 0 _ _ _ X0b_10.out]; rfl
    have fX0b1 : w10.cell? ⟨w4.heap.size, 1, none⟩ = some (.slice a4_ xs0.length c4_) := by rw [cell_of_row w10 _ 1 _ _ _ X0b_10.out]; rfl
    go_wp2_with fail
    clear fA0 fA1
    clear fX0b0 fX0b1
    refine (eqIntS_same _ _ _ _ r0 _ (by omega) G0_10.out.cells R0_10.out.cells).mono ?_
    rintro e w11 ⟨rfl, hb11⟩
    have z11 := hb11.size
    have q11 : Below w.heap.size w w11 := q10.trans (hb11.mono q10.size)
    have R0_11 := Lib.hid (R0_10.out.below hb11 (by omega))
    clear R0_10
    have G0_11 := Lib.hid (G0_10.out.below hb11 (by omega))
    clear G0_10
    have A_11 := Lib.hid ((hb11.block w.heap.size (lt_of_block A_10.out)).trans A_10.out)
    clear A_10
    have X0b_11 := Lib.hid ((hb11.block w4.heap.size (lt_of_block X0b_10.out)).trans X0b_10.out)
    clear X0b_10
    have fA0 : w11.cell? ⟨w.heap.size, 0, none⟩ = some (.int .i64 a0) := by rw [cell_of_row w11 _ 0 _ _ _ A_11.out]; rfl
    have fA1 : w11.cell? ⟨w.heap.size, 1, none⟩ = some (.slice ad0 xs0.length cap0) := by rw [cell_of_row w11 _ 1 _ _ _ A_11.out]; rfl
    have fX0b0 : w11.cell? ⟨w4.heap.size, 0, none⟩ = some (.int .i64 a0) := by rw [cell_of_row w11 _ 0 _ _ _ X0b_11.out]; rfl
    have fX0b1 : w11.cell? ⟨w4.heap.size, 1, none⟩ = some (.slice a4_ xs0.length c4_) := by rw [cell_of_row w11 _ 1 _ _ _ X0b_11.out]; rfl
    go_wp2_with fail
    clear fA0 fA1
    clear fX0b0 fX0b1
    refine (markIntS_all (k := 1) _ _ _ _ r0 _ (by omega) (by omega) G0_11.out).mono ?_
    rintro e w12 ⟨rfl, g12, ht12⟩
    have z12 := ht12.size
    have zq12 := q11.size
    have q12 : Below w.heap.size w w12 := q11.trans (ht12.below (by omega) (by omega))
    have R0_12 := Lib.hid (R0_11.out.touched ht12 (by omega))
    clear R0_11
    have A_12 := Lib.hid ((ht12.block w.heap.size (lt_of_block A_11.out) (by omega)).trans A_11.out)
    clear A_11
    have X0b_12 := Lib.hid ((ht12.block w4.heap.size (lt_of_block X0b_11.out) (by omega)).trans X0b_11.out)
    clear X0b_11
    have M0 := Lib.hid g12
    clear g12
    have fA0 : w12.cell? ⟨w.heap.size, 0, none⟩ = some (.int .i64 a0) := by rw [cell_of_row w12 _ 0 _ _ _ A_12.out]; rfl
    have fA1 : w12.cell? ⟨w.heap.size, 1, none⟩ = some (.slice ad0 xs0.length cap0) := by rw [cell_of_row w12 _ 1 _ _ _ A_12.out]; rfl
    have fX0b0 : w12.cell? ⟨w4.heap.size, 0, none⟩ = some (.int .i64 a0) := by rw [cell_of_row w12 _ 0 _ _ _ X0b_12.out]; rfl
    have fX0b1 : w12.cell? ⟨w4.heap.size, 1, none⟩ = some (.slice a4_ xs0.length c4_) := by rw [cell_of_row w12 _ 1 _ _ _ X0b_12.out]; rfl
    go_wp2_with fail
    clear fA0 fA1
    clear fX0b0 fX0b1
    refine (heldIntS_b (k := 1) _ _ r0.length _ (by omega) (by omega) M0.out.cells).mono ?_
    rintro e w13 ⟨rfl, hb13⟩
    have z13 := hb13.size
    have q13 : Below w.heap.size w w13 := q12.trans (hb13.mono q12.size)
    have R0_13 := Lib.hid (R0_12.out.below hb13 (by omega))
    clear R0_12
    have M0_13 := Lib.hid (M0.out.below hb13 (by omega))
    clear M0
    have A_13 := Lib.hid ((hb13.block w.heap.size (lt_of_block A_12.out)).trans A_12.out)
    clear A_12
    have X0b_13 := Lib.hid ((hb13.block w4.heap.size (lt_of_block X0b_12.out)).trans X0b_12.out)
    clear X0b_12
    have fA0 : w13.cell? ⟨w.heap.size, 0, none⟩ = some (.int .i64 a0) := by rw [cell_of_row w13 _ 0 _ _ _ A_13.out]; rfl
    have fA1 : w13.cell? ⟨w.heap.size, 1, none⟩ = some (.slice ad0 xs0.length cap0) := by rw [cell_of_row w13 _ 1 _ _ _ A_13.out]; rfl
    have fX0b0 : w13.cell? ⟨w4.heap.size, 0, none⟩ = some (.int .i64 a0) := by rw [cell_of_row w13 _ 0 _ _ _ X0b_13.out]; rfl
    have fX0b1 : w13.cell? ⟨w4.heap.size, 1, none⟩ = some (.slice a4_ xs0.length c4_) := by rw [cell_of_row w13 _ 1 _ _ _ X0b_13.out]; rfl
    go_wp2_with fail
    clear fA0 fA1
    clear fX0b0 fX0b1
    refine (toRegion_any _ _ _ xs0 _ hn0 (H0.out.below q13)).mono ?_
    rintro e w14 ⟨a14_, c14_, rfl, ho14, hb14⟩
    have z14 := hb14.size
    have q14 : Below w.heap.size w w14 := q13.trans (hb14.mono q13.size)
    have R0_14 := Lib.hid (R0_13.out.below hb14 (by omega))
    clear R0_13
    have M0_14 := Lib.hid (M0_13.out.below hb14 (by omega))
    clear M0_13
    have A_14 := Lib.hid ((hb14.block w.heap.size (lt_of_block A_13.out)).trans A_13.out)
    clear A_13
    have X0b_14 := Lib.hid ((hb14.block w4.heap.size (lt_of_block X0b_13.out)).trans X0b_13.out)
    clear X0b_13
    have T0 := Lib.hid (Owned.of ho14)
    clear ho14
    have fA0 : w14.cell? ⟨w.heap.size, 0, none⟩ = some (.int .i64 a0) := by rw [cell_of_row w14 _ 0 _ _ _ A_14.out]; rfl
    have fA1 : w14.cell? ⟨w.heap.size, 1, none⟩ = some (.slice ad0 xs0.length cap0) := by rw [cell_of_row w14 _ 1 _ _ _ A_14.out]; rfl
    have fX0b0 : w14.cell? ⟨w4.heap.size, 0, none⟩ = some (.int .i64 a0) := by rw [cell_of_row w14 _ 0 _ _ _ X0b_14.out]; rfl
    have fX0b1 : w14.cell? ⟨w4.heap.size, 1, none⟩ = some (.slice a4_ xs0.length c4_) := by rw [cell_of_row w14 _ 1 _ _ _ X0b_14.out]; rfl
    go_wp2_with fail
    clear fA0 fA1
    clear fX0b0 fX0b1
    refine (HI.out _ _ _ T0.out.le_cap T0.out.cells).mono ?_
    rintro e w15 ⟨b15_0, d15_0, rfl, ho15_0, hb15⟩
    have z15 := hb15.size
    have q15 : Below w.heap.size w w15 := q14.trans (hb15.mono q14.size)
    have R0_15 := Lib.hid (R0_14.out.below hb15 (by omega))
    clear R0_14
    have M0_15 := Lib.hid (M0_14.out.below hb15 (by omega))
    clear M0_14
    have T0_15 := Lib.hid (T0.out.below hb15 (by omega))
    clear T0
    have A_15 := Lib.hid ((hb15.block w.heap.size (lt_of_block A_14.out)).trans A_14.out)
    clear A_14
    have X0b_15 := Lib.hid ((hb15.block w4.heap.size (lt_of_block X0b_14.out)).trans X0b_14.out)
    clear X0b_14
    have N0 := Lib.hid (Owned.of ho15_0)
    clear ho15_0
    clear T0_15
    have fA0 : w15.cell? ⟨w.heap.size, 0, none⟩ = some (.int .i64 a0) := by rw [cell_of_row w15 _ 0 _ _ _ A_15.out]; rfl
    have fA1 : w15.cell? ⟨w.heap.size, 1, none⟩ = some (.slice ad0 xs0.length cap0) := by rw [cell_of_row w15 _ 1 _ _ _ A_15.out]; rfl
    have fX0b0 : w15.cell? ⟨w4.heap.size, 0, none⟩ = some (.int .i64 a0) := by rw [cell_of_row w15 _ 0 _ _ _ X0b_15.out]; rfl
    have fX0b1 : w15.cell? ⟨w4.heap.size, 1, none⟩ = some (.slice a4_ xs0.length c4_) := by rw [cell_of_row w15 _ 1 _ _ _ X0b_15.out]; rfl
    go_wp2_with fail
    clear fA0 fA1
    clear fX0b0 fX0b1
    refine (eqIntS_same _ _ _ _ r0 _ (by omega) N0.out.cells R0_15.out.cells).mono ?_
    rintro e w16 ⟨rfl, hb16⟩
    have z16 := hb16.size
    have q16 : Below w.heap.size w w16 := q15.trans (hb16.mono q15.size)
    have R0_16 := Lib.hid (R0_15.out.below hb16 (by omega))
    clear R0_15
    have M0_16 := Lib.hid (M0_15.out.below hb16 (by omega))
    clear M0_15
    have N0_16 := Lib.hid (N0.out.below hb16 (by omega))
    clear N0
    have A_16 := Lib.hid ((hb16.block w.heap.size (lt_of_block A_15.out)).trans A_15.out)
    clear A_15
    have X0b_16 := Lib.hid ((hb16.block w4.heap.size (lt_of_block X0b_15.out)).trans X0b_15.out)
    clear X0b_15
    have fA0 : w16.cell? ⟨w.heap.size, 0, none⟩ = some (.int .i64 a0) := by rw [cell_of_row w16 _ 0 _ _ _ A_16.out]; rfl
    have fA1 : w16.cell? ⟨w.heap.size, 1, none⟩ = some (.slice ad0 xs0.length cap0) := by rw [cell_of_row w16 _ 1 _ _ _ A_16.out]; rfl
    have fX0b0 : w16.cell? ⟨w4.heap.size, 0, none⟩ = some (.int .i64 a0) := by rw [cell_of_row w16 _ 0 _ _ _ X0b_16.out]; rfl
    have fX0b1 : w16.cell? ⟨w4.heap.size, 1, none⟩ = some (.slice a4_ xs0.length c4_) := by rw [cell_of_row w16 _ 1 _ _ _ X0b_16.out]; rfl
    go_wp2_with fail
    clear fA0 fA1
    clear fX0b0 fX0b1
    refine (heldIntS_b (k := 1) _ _ r0.length _ (by omega) (by omega) M0_16.out.cells).mono ?_
    rintro e w17 ⟨rfl, hb17⟩
    have z17 := hb17.size
    have q17 : Below w.heap.size w w17 := q16.trans (hb17.mono q16.size)
    have R0_17 := Lib.hid (R0_16.out.below hb17 (by omega))
    clear R0_16
    have M0_17 := Lib.hid (M0_16.out.below hb17 (by omega))
    clear M0_16
    have N0_17 := Lib.hid (N0_16.out.below hb17 (by omega))
    clear N0_16
    have A_17 := Lib.hid ((hb17.block w.heap.size (lt_of_block A_16.out)).trans A_16.out)
    clear A_16
    have X0b_17 := Lib.hid ((hb17.block w4.heap.size (lt_of_block X0b_16.out)).trans X0b_16.out)
    clear X0b_16
    have fA0 : w17.cell? ⟨w.heap.size, 0, none⟩ = some (.int .i64 a0) := by rw [cell_of_row w17 _ 0 _ _ _ A_17.out]; rfl
    have fA1 : w17.cell? ⟨w.heap.size, 1, none⟩ = some (.slice ad0 xs0.length cap0) := by rw [cell_of_row w17 _ 1 _ _ _ A_17.out]; rfl
    have fX0b0 : w17.cell? ⟨w4.heap.size, 0, none⟩ = some (.int .i64 a0) := by rw [cell_of_row w17 _ 0 _ _ _ X0b_17.out]; rfl
    have fX0b1 : w17.cell? ⟨w4.heap.size, 1, none⟩ = some (.slice a4_ xs0.length c4_) := by rw [cell_of_row w17 _ 1 _ _ _ X0b_17.out]; rfl
    go_wp2_with fail
    clear fA0 fA1
    clear fX0b0 fX0b1
    go_ret
    exact ⟨rfl, q17⟩
  · skip
    go_enter Try.func3, Try.ntmps3
    go_wp2_with fail
    have q0 : Below w.heap.size w (w.alloc (.cells #[.int .i64 a0, .slice ad0 xs0.length cap0] 24)) := (Below.refl _ _).alloc (Nat.le_refl _) _
    have z0 : (w.alloc (.cells #[.int .i64 a0, .slice ad0 xs0.length cap0] 24)).heap.size = w.heap.size + 1 := by simp
    have hbx : (w.alloc (.cells #[.int .i64 a0, .slice ad0 xs0.length cap0] 24)).heap[w.heap.size]? = some (.cells #[.int .i64 a0, .slice ad0 xs0.length cap0] 24 (0, 0)) := heap_alloc_new w _
    generalize w.alloc (.cells #[.int .i64 a0, .slice ad0 xs0.length cap0] 24) = w0 at q0 z0 hbx ⊢
    have A0_0 := Lib.hid hbx
    clear hbx
    refine (szRegion_any _ _ _ _ _ _ hm0 (by omega) (by omega)).mono ?_
    rw [if_pos (by omega)]
    rintro e w1 ⟨rfl, hb1⟩
    have z1 := hb1.size
    have q1 : Below w.heap.size w w1 := q0.trans (hb1.mono q0.size)
    have A_1 := Lib.hid ((hb1.block w.heap.size (lt_of_block A0_0.out)).trans A0_0.out)
    clear A0_0
    have fA0 : w1.cell? ⟨w.heap.size, 0, none⟩ = some (.int .i64 a0) := by rw [cell_of_row w1 _ 0 _ _ _ A_1.out]; rfl
    have fA1 : w1.cell? ⟨w.heap.size, 1, none⟩ = some (.slice ad0 xs0.length cap0) := by rw [cell_of_row w1 _ 1 _ _ _ A_1.out]; rfl
    go_wp2_with fail
    clear fA0 fA1
    go_ret
    exact ⟨rfl, q1⟩

set_option maxRecDepth 100000 in
theorem lifted (os : Os) (started : os.Started) (H : Type) (enc : TypeId × Value → H) :
    ReturnsInHanded {} Try.checked os 3 .any (Rows.fnExactHalvesOfSpec.pre6 enc Try.prog Try.f3 Rows.fnExactHalvesOfRow.domain false) (Rows.fnExactHalvesOfSpec.post enc Try.prog Try.f3 false true false false) := by
  refine returnsInHanded_of_change (C := Try.checked) Try.own started (by kernel_rfl) Try.func3
    (ChangeSpec.witness6 (enc := enc) (C := Try.checked) false ⟨#[], #[.agg #[.int .i64 0, .slice none 0 0]], []⟩ 8 (by kernel_rfl) (by kernel_rfl) (by kernel_rfl) (by kernel_rfl)) ?_
  intro W base args ds gs before hval0 hW hcnd _
  have hval : ∀ (j : Nat) t v, Try.f3.params[j]? = some t → args[j]? = some v → Value.okWide Try.prog W .any base t v := hval0
  have hW' := hW
  obtain ⟨p, q, hA0, hV, rfl, hfz, hnd⟩ := hW
  have hA : DataW.TrodAll enc Try.prog W 0 (fun _ => true) true Try.f3.params.toList args.toList ds p := hA0
  rw [Try.params3] at hA hval
  obtain ⟨v0, vs0, d0, ds0, p0, q0, hargs, rfl, rfl, h0, r0⟩ := trodAll_cons hA
  obtain ⟨rfl, rfl, rfl⟩ := trodAll_nil r0
  obtain rfl : args = #[v0] := by cases args; simp_all
  obtain ⟨rfl, rfl⟩ := trodVars_none hV
  obtain ⟨a0, ad0, cap0, xs0, rfl, w0, hm0, hc0, hw0⟩ := openRegion (hval 0 24 v0 rfl rfl) h0
  clear hA0 hval0
  refine (walk W a0 w0 ad0 cap0 xs0 hm0 hc0 hw0).mono fun e W' ⟨he, hb⟩ => ?_
  subst he
  exact ⟨_, rfl, law_post rfl hW' hb (by rw [Try.params3]; exact readable_all (by kernel_rfl)) (by kernel_rfl) (by kernel_rfl) rfl⟩

theorem proved : Rows.FnExactHalvesOfSaid :=
  OpenClaim.holds_of_wide 3 Try.f3 rfl rfl rfl rfl rfl rfl rfl ⟨rfl, rfl, rfl, rfl, rfl⟩ rfl rfl rfl rfl rfl (by kernel_rfl) Try.func3 (by kernel_rfl)
    (of_decide_eq_true (by kernel_rfl)) (by unfold Func.isWrapper; first | (rw [if_pos (by decide +kernel)]; kernel_rfl) | (rw [if_neg (by decide +kernel)]; exact ⟨rfl, rfl⟩))
    (fun os started H enc _ => lifted os started H enc)
end Go.Proofs.Ytcoggnoeafpgbaa.lawHalves
