/- LawCrossings: the program's CrossingsOf returns what the reference's returns, for every region and every list of masks, in memory of its own; no condition. -/
import Derived.Test.YtnldmigofmedkaaFrameReg
import Derived.Test.YtnldmigofmedkaaMarkReg
import Derived.Test.YtnldmigofmedkaaFaults
import Derived.Deep.RegionHeld3
namespace Go.Proofs.Ytnldmigofmedkaa.lawCrossings
open Go.ChangeShapes Go.WideShapes Go.ChangeAt Go.RowKit

theorem both (b : Int) (_wb : (Lit.int .i64 b).wf = true) (xs : List Int) (_hw : ∀ x ∈ xs, (Lit.int .i64 x).wf = true) (hn : xs.length ≤ 1048576) (ls : List Int) (hwl : ∀ x ∈ ls, (Lit.int .i64 x).wf = true) (hnl : ls.length ≤ 1048576) :
    ∃ r0 r1 : List Int, (r0.length ≤ 5 ∧ r1.length ≤ 5) ∧
      (∀ w ad cap al cl, xs.length ≤ cap → ls.length ≤ cl → CellsAt w ad (ints xs) → CellsAt w al (ints ls) → Calls Try.prog 24 #[.agg #[.int .i64 b, .slice ad xs.length cap], .slice al ls.length cl] w fun e w' => TwoRows w e w' r0 r1) ∧
      ∀ w ad cap al cl, xs.length ≤ cap → ls.length ≤ cl → CellsAt w ad (ints xs) → CellsAt w al (ints ls) → Calls Try.prog 27 #[.agg #[.int .i64 b, .slice ad xs.length cap], .slice al ls.length cl] w fun e w' => TwoRows w e w' r0 r1 :=
  ⟨acrossL b xs ls, downL b xs ls, ⟨acrossL_le _ _ _, downL_le _ _ _⟩, fun w ad cap al cl _ _ h1 h2 => specCrossings b ad al cap cl xs ls w hn hnl hwl h1 h2, fun w ad cap al cl _ _ h1 h2 => implCrossingsOf b ad al cap cl xs ls w hn hnl hwl h1 h2⟩

set_option maxRecDepth 100000 in
set_option maxHeartbeats 4000000 in
theorem walk (w : World) (a0 : Int) (w0_ : (Lit.int .i64 a0).wf = true) (ad0 : Option Addr) (cap0 : Nat) (xs0 : List Int) (hm0 : xs0.length ≤ maxLen) (hc0 : CellsAt w ad0 (ints xs0)) (hw0 : ∀ x ∈ xs0, (Lit.int .i64 x).wf = true) (ad1 : Option Addr) (cap1 : Nat) (xs1 : List Int) (hm1 : xs1.length ≤ maxLen) (hc1 : CellsAt w ad1 (ints xs1)) (hw1 : ∀ x ∈ xs1, (Lit.int .i64 x).wf = true) :
    Calls Try.prog 5 #[.agg #[.int .i64 a0, .slice ad0 xs0.length cap0], .slice ad1 xs1.length cap1] w fun e w' => e = .returned (.bool true) ∧ Below w.heap.size w w' := by
  unfold maxLen at hm0
  unfold maxLen at hm1
  have H0 := Lib.hid hc0
  clear hc0
  have H1 := Lib.hid hc1
  clear hc1
  by_cases hn1 : xs1.length ≤ 1048576
  · skip
    by_cases hn0_ : xs0.length ≤ 1048576
    · skip
      have hn0 : xs0.length ≤ 1048576 := by omega
      obtain ⟨r0, r1, HL, hs, hi⟩ := both a0 w0_ xs0 hw0 hn0 xs1 hw1 hn1
      have HS := Lib.hid hs
      have HI := Lib.hid hi
      clear hs hi hw0 hw1
      go_enter Try.func5, Try.ntmps5
      go_wp2_with fail
      have q0 : Below w.heap.size w (w.alloc (.cells #[.int .i64 a0, .slice ad0 xs0.length cap0] 40)) := (Below.refl _ _).alloc (Nat.le_refl _) _
      have z0 : (w.alloc (.cells #[.int .i64 a0, .slice ad0 xs0.length cap0] 40)).heap.size = w.heap.size + 1 := by simp
      have hbx : (w.alloc (.cells #[.int .i64 a0, .slice ad0 xs0.length cap0] 40)).heap[w.heap.size]? = some (.cells #[.int .i64 a0, .slice ad0 xs0.length cap0] 40 (0, 0)) := heap_alloc_new w _
      generalize w.alloc (.cells #[.int .i64 a0, .slice ad0 xs0.length cap0] 40) = w0 at q0 z0 hbx ⊢
      have A0_0 := Lib.hid hbx
      clear hbx
      refine (szRegion_any _ _ _ _ _ _ hm0 (by omega) (by omega)).mono ?_
      rw [if_neg (by omega)]
      rintro e w1 ⟨rfl, hb1⟩
      have z1 := hb1.size
      have q1 : Below w.heap.size w w1 := q0.trans (hb1.mono q0.size)
      have A_1 := Lib.hid ((hb1.block w.heap.size (lt_of_block A0_0.out)).trans A0_0.out)
      clear A0_0
      have fA0 : w1.cell? ⟨w.heap.size, 0, none⟩ = some (.int .i64 a0) := by rw [cell_of_row w1 _ 0 _ _ _ A_1.out]; rfl
      have fA1 : w1.cell? ⟨w.heap.size, 1, none⟩ = some (.slice ad0 xs0.length cap0) := by rw [cell_of_row w1 _ 1 _ _ _ A_1.out]; rfl
      go_wp2_with fail
      clear fA0 fA1
      refine (toRegion_any _ _ _ xs0 _ hn0 (H0.out.below q1)).mono ?_
      rintro e w2 ⟨a2_, c2_, rfl, ho2, hb2⟩
      have z2 := hb2.size
      have q2 : Below w.heap.size w w2 := q1.trans (hb2.mono q1.size)
      have A_2 := Lib.hid ((hb2.block w.heap.size (lt_of_block A_1.out)).trans A_1.out)
      clear A_1
      have S0 := Lib.hid (Owned.of ho2)
      clear ho2
      have fA0 : w2.cell? ⟨w.heap.size, 0, none⟩ = some (.int .i64 a0) := by rw [cell_of_row w2 _ 0 _ _ _ A_2.out]; rfl
      have fA1 : w2.cell? ⟨w.heap.size, 1, none⟩ = some (.slice ad0 xs0.length cap0) := by rw [cell_of_row w2 _ 1 _ _ _ A_2.out]; rfl
      go_wp2_with fail
      clear fA0 fA1
      refine (toIntS_any _ _ xs1 _ hn1 (H1.out.below q2)).mono ?_
      rintro e w3 ⟨a3_, c3_, rfl, ho3, hb3⟩
      have z3 := hb3.size
      have q3 : Below w.heap.size w w3 := q2.trans (hb3.mono q2.size)
      have S0_3 := Lib.hid (S0.out.below hb3 (by omega))
      clear S0
      have A_3 := Lib.hid ((hb3.block w.heap.size (lt_of_block A_2.out)).trans A_2.out)
      clear A_2
      have S1 := Lib.hid (Owned.of ho3)
      clear ho3
      have fA0 : w3.cell? ⟨w.heap.size, 0, none⟩ = some (.int .i64 a0) := by rw [cell_of_row w3 _ 0 _ _ _ A_3.out]; rfl
      have fA1 : w3.cell? ⟨w.heap.size, 1, none⟩ = some (.slice ad0 xs0.length cap0) := by rw [cell_of_row w3 _ 1 _ _ _ A_3.out]; rfl
      go_wp2_with fail
      clear fA0 fA1
      refine (HS.out _ _ _ _ _ S0_3.out.le_cap S1.out.le_cap S0_3.out.cells S1.out.cells).mono ?_
      rintro e w4 ⟨b4_0, d4_0, b4_1, d4_1, lo4_0, hi4_0, lo4_1, hi4_1, rfl, ho4_0, ho4_1, sp4_0, sp4_1, sp4_2, sp4_3, sp4_4, sp4_5, sp4_6, hb4⟩
      have z4 := hb4.size
      have q4 : Below w.heap.size w w4 := q3.trans (hb4.mono q3.size)
      have S0_4 := Lib.hid (S0_3.out.below hb4 (by omega))
      clear S0_3
      have S1_4 := Lib.hid (S1.out.below hb4 (by omega))
      clear S1
      have A_4 := Lib.hid ((hb4.block w.heap.size (lt_of_block A_3.out)).trans A_3.out)
      clear A_3
      have R0 := Lib.hid (id ho4_0)
      clear ho4_0
      have R1 := Lib.hid (id ho4_1)
      clear ho4_1
      clear S0_4
      clear S1_4
      have fA0 : w4.cell? ⟨w.heap.size, 0, none⟩ = some (.int .i64 a0) := by rw [cell_of_row w4 _ 0 _ _ _ A_4.out]; rfl
      have fA1 : w4.cell? ⟨w.heap.size, 1, none⟩ = some (.slice ad0 xs0.length cap0) := by rw [cell_of_row w4 _ 1 _ _ _ A_4.out]; rfl
      go_wp2_with fail
      clear fA0 fA1
      refine (toRegion_any _ _ _ xs0 _ hn0 (H0.out.below q4)).mono ?_
      rintro e w5 ⟨a5_, c5_, rfl, ho5, hb5⟩
      have z5 := hb5.size
      have q5 : Below w.heap.size w w5 := q4.trans (hb5.mono q4.size)
      have R0_5 := Lib.hid (R0.out.below hb5 (by omega))
      clear R0
      have R1_5 := Lib.hid (R1.out.below hb5 (by omega))
      clear R1
      have A_5 := Lib.hid ((hb5.block w.heap.size (lt_of_block A_4.out)).trans A_4.out)
      clear A_4
      have X0 := Lib.hid (Owned.of ho5)
      clear ho5
      have fA0 : w5.cell? ⟨w.heap.size, 0, none⟩ = some (.int .i64 a0) := by rw [cell_of_row w5 _ 0 _ _ _ A_5.out]; rfl
      have fA1 : w5.cell? ⟨w.heap.size, 1, none⟩ = some (.slice ad0 xs0.length cap0) := by rw [cell_of_row w5 _ 1 _ _ _ A_5.out]; rfl
      go_wp2_with fail
      clear fA0 fA1
      have hb6 : Below w5.heap.size w5 (w5.alloc (.cells #[.int .i64 a0, .slice a5_ xs0.length c5_] 44)) := (Below.refl _ _).alloc (Nat.le_refl _) _
      have zb6 : (w5.alloc (.cells #[.int .i64 a0, .slice a5_ xs0.length c5_] 44)).heap.size = w5.heap.size + 1 := by simp
      have hbx : (w5.alloc (.cells #[.int .i64 a0, .slice a5_ xs0.length c5_] 44)).heap[w5.heap.size]? = some (.cells #[.int .i64 a0, .slice a5_ xs0.length c5_] 44 (0, 0)) := heap_alloc_new w5 _
      generalize w5.alloc (.cells #[.int .i64 a0, .slice a5_ xs0.length c5_] 44) = w6 at hb6 zb6 hbx ⊢
      have z6 := hb6.size
      have q6 : Below w.heap.size w w6 := q5.trans (hb6.mono q5.size)
      have R0_6 := Lib.hid (R0_5.out.below hb6 (by omega))
      clear R0_5
      have R1_6 := Lib.hid (R1_5.out.below hb6 (by omega))
      clear R1_5
      have X0_6 := Lib.hid (X0.out.below hb6 (by omega))
      clear X0
      have A_6 := Lib.hid ((hb6.block w.heap.size (lt_of_block A_5.out)).trans A_5.out)
      clear A_5
      have X0b_6 := Lib.hid hbx
      clear hbx
      refine (toIntS_any _ _ xs1 _ hn1 (H1.out.below q6)).mono ?_
      rintro e w7 ⟨a7_, c7_, rfl, ho7, hb7⟩
      have z7 := hb7.size
      have q7 : Below w.heap.size w w7 := q6.trans (hb7.mono q6.size)
      have R0_7 := Lib.hid (R0_6.out.below hb7 (by omega))
      clear R0_6
      have R1_7 := Lib.hid (R1_6.out.below hb7 (by omega))
      clear R1_6
      have X0_7 := Lib.hid (X0_6.out.below hb7 (by omega))
      clear X0_6
      have A_7 := Lib.hid ((hb7.block w.heap.size (lt_of_block A_6.out)).trans A_6.out)
      clear A_6
      have X0b_7 := Lib.hid ((hb7.block w5.heap.size (lt_of_block X0b_6.out)).trans X0b_6.out)
      clear X0b_6
      have X1 := Lib.hid (Owned.of ho7)
      clear ho7
      have fA0 : w7.cell? ⟨w.heap.size, 0, none⟩ = some (.int .i64 a0) := by rw [cell_of_row w7 _ 0 _ _ _ A_7.out]; rfl
      have fA1 : w7.cell? ⟨w.heap.size, 1, none⟩ = some (.slice ad0 xs0.length cap0) := by rw [cell_of_row w7 _ 1 _ _ _ A_7.out]; rfl
      have fX0b0 : w7.cell? ⟨w5.heap.size, 0, none⟩ = some (.int .i64 a0) := by rw [cell_of_row w7 _ 0 _ _ _ X0b_7.out]; rfl
      have fX0b1 : w7.cell? ⟨w5.heap.size, 1, none⟩ = some (.slice a5_ xs0.length c5_) := by rw [cell_of_row w7 _ 1 _ _ _ X0b_7.out]; rfl
      go_wp2_with fail
      clear fA0 fA1
      clear fX0b0 fX0b1
      refine (HI.out _ _ _ _ _ X0_7.out.le_cap X1.out.le_cap X0_7.out.cells X1.out.cells).mono ?_
      rintro e w8 ⟨b8_0, d8_0, b8_1, d8_1, lo8_0, hi8_0, lo8_1, hi8_1, rfl, ho8_0, ho8_1, sp8_0, sp8_1, sp8_2, sp8_3, sp8_4, sp8_5, sp8_6, hb8⟩
      have z8 := hb8.size
      have q8 : Below w.heap.size w w8 := q7.trans (hb8.mono q7.size)
      have R0_8 := Lib.hid (R0_7.out.below hb8 (by omega))
      clear R0_7
      have R1_8 := Lib.hid (R1_7.out.below hb8 (by omega))
      clear R1_7
      have X0_8 := Lib.hid (X0_7.out.below hb8 (by omega))
      clear X0_7
      have X1_8 := Lib.hid (X1.out.below hb8 (by omega))
      clear X1
      have A_8 := Lib.hid ((hb8.block w.heap.size (lt_of_block A_7.out)).trans A_7.out)
      clear A_7
      have X0b_8 := Lib.hid ((hb8.block w5.heap.size (lt_of_block X0b_7.out)).trans X0b_7.out)
      clear X0b_7
      have G0 := Lib.hid (id ho8_0)
      clear ho8_0
      have G1 := Lib.hid (id ho8_1)
      clear ho8_1
      have fA0 : w8.cell? ⟨w.heap.size, 0, none⟩ = some (.int .i64 a0) := by rw [cell_of_row w8 _ 0 _ _ _ A_8.out]; rfl
      have fA1 : w8.cell? ⟨w.heap.size, 1, none⟩ = some (.slice ad0 xs0.length cap0) := by rw [cell_of_row w8 _ 1 _ _ _ A_8.out]; rfl
      have fX0b0 : w8.cell? ⟨w5.heap.size, 0, none⟩ = some (.int .i64 a0) := by rw [cell_of_row w8 _ 0 _ _ _ X0b_8.out]; rfl
      have fX0b1 : w8.cell? ⟨w5.heap.size, 1, none⟩ = some (.slice a5_ xs0.length c5_) := by rw [cell_of_row w8 _ 1 _ _ _ X0b_8.out]; rfl
      go_wp2_with fail
      clear fA0 fA1
      clear fX0b0 fX0b1
      refine (eqIntS_same _ _ _ _ r0 _ (by omega) G0.out.cells R0_8.out.cells).mono ?_
      rintro e w9 ⟨rfl, hb9⟩
      have z9 := hb9.size
      have q9 : Below w.heap.size w w9 := q8.trans (hb9.mono q8.size)
      have R0_9 := Lib.hid (R0_8.out.below hb9 (by omega))
      clear R0_8
      have R1_9 := Lib.hid (R1_8.out.below hb9 (by omega))
      clear R1_8
      have X0_9 := Lib.hid (X0_8.out.below hb9 (by omega))
      clear X0_8
      have X1_9 := Lib.hid (X1_8.out.below hb9 (by omega))
      clear X1_8
      have G0_9 := Lib.hid (G0.out.below hb9 (by omega))
      clear G0
      have G1_9 := Lib.hid (G1.out.below hb9 (by omega))
      clear G1
      have A_9 := Lib.hid ((hb9.block w.heap.size (lt_of_block A_8.out)).trans A_8.out)
      clear A_8
      have X0b_9 := Lib.hid ((hb9.block w5.heap.size (lt_of_block X0b_8.out)).trans X0b_8.out)
      clear X0b_8
      have fA0 : w9.cell? ⟨w.heap.size, 0, none⟩ = some (.int .i64 a0) := by rw [cell_of_row w9 _ 0 _ _ _ A_9.out]; rfl
      have fA1 : w9.cell? ⟨w.heap.size, 1, none⟩ = some (.slice ad0 xs0.length cap0) := by rw [cell_of_row w9 _ 1 _ _ _ A_9.out]; rfl
      have fX0b0 : w9.cell? ⟨w5.heap.size, 0, none⟩ = some (.int .i64 a0) := by rw [cell_of_row w9 _ 0 _ _ _ X0b_9.out]; rfl
      have fX0b1 : w9.cell? ⟨w5.heap.size, 1, none⟩ = some (.slice a5_ xs0.length c5_) := by rw [cell_of_row w9 _ 1 _ _ _ X0b_9.out]; rfl
      go_wp2_with fail
      clear fA0 fA1
      clear fX0b0 fX0b1
      refine (eqIntS_same _ _ _ _ r1 _ (by omega) G1_9.out.cells R1_9.out.cells).mono ?_
      rintro e w10 ⟨rfl, hb10⟩
      have z10 := hb10.size
      have q10 : Below w.heap.size w w10 := q9.trans (hb10.mono q9.size)
      have R0_10 := Lib.hid (R0_9.out.below hb10 (by omega))
      clear R0_9
      have R1_10 := Lib.hid (R1_9.out.below hb10 (by omega))
      clear R1_9
      have X0_10 := Lib.hid (X0_9.out.below hb10 (by omega))
      clear X0_9
      have X1_10 := Lib.hid (X1_9.out.below hb10 (by omega))
      clear X1_9
      have G0_10 := Lib.hid (G0_9.out.below hb10 (by omega))
      clear G0_9
      have G1_10 := Lib.hid (G1_9.out.below hb10 (by omega))
      clear G1_9
      have A_10 := Lib.hid ((hb10.block w.heap.size (lt_of_block A_9.out)).trans A_9.out)
      clear A_9
      have X0b_10 := Lib.hid ((hb10.block w5.heap.size (lt_of_block X0b_9.out)).trans X0b_9.out)
      clear X0b_9
      have fA0 : w10.cell? ⟨w.heap.size, 0, none⟩ = some (.int .i64 a0) := by rw [cell_of_row w10 _ 0 _ _ _ A_10.out]; rfl
      have fA1 : w10.cell? ⟨w.heap.size, 1, none⟩ = some (.slice ad0 xs0.length cap0) := by rw [cell_of_row w10 _ 1 _ _ _ A_10.out]; rfl
      have fX0b0 : w10.cell? ⟨w5.heap.size, 0, none⟩ = some (.int .i64 a0) := by rw [cell_of_row w10 _ 0 _ _ _ X0b_10.out]; rfl
      have fX0b1 : w10.cell? ⟨w5.heap.size, 1, none⟩ = some (.slice a5_ xs0.length c5_) := by rw [cell_of_row w10 _ 1 _ _ _ X0b_10.out]; rfl
      go_wp2_with fail
      have hq11 : CellsAt (w10.drew) ad0 (ints xs0) := (show CellsAt w10 ad0 (ints xs0) from H0.out.below q10)
      have HQ11 := Lib.hid hq11
      clear hq11
      have hqx11 := Lib.hid X0_10.out
      go_region_held3 (fun w' => w'.cell? ⟨w.heap.size, 0, none⟩ = some (.int .i64 a0) ∧ w'.cell? ⟨w.heap.size, 1, none⟩ = some (.slice ad0 xs0.length cap0) ∧ w'.cell? ⟨w5.heap.size, 0, none⟩ = some (.int .i64 a0) ∧ w'.cell? ⟨w5.heap.size, 1, none⟩ = some (.slice a5_ xs0.length c5_))
        (first | go_keep | exact ⟨(hb11.cell (p := ⟨w.heap.size, 0, none⟩) (by have := lt_of_block A_10.out; simp; omega)).trans fA0, (hb11.cell (p := ⟨w.heap.size, 1, none⟩) (by have := lt_of_block A_10.out; simp; omega)).trans fA1, (hb11.cell (p := ⟨w5.heap.size, 0, none⟩) (by have := lt_of_block X0b_10.out; simp; omega)).trans fX0b0, (hb11.cell (p := ⟨w5.heap.size, 1, none⟩) (by have := lt_of_block X0b_10.out; simp; omega)).trans fX0b1⟩ | exact ⟨((Below.trans (Below.mono hb11 (Nat.le_refl _)) (hb12.mono hb11.size)).cell (p := ⟨w.heap.size, 0, none⟩) (by have := lt_of_block A_10.out; simp; omega)).trans fA0, ((Below.trans (Below.mono hb11 (Nat.le_refl _)) (hb12.mono hb11.size)).cell (p := ⟨w.heap.size, 1, none⟩) (by have := lt_of_block A_10.out; simp; omega)).trans fA1, ((Below.trans (Below.mono hb11 (Nat.le_refl _)) (hb12.mono hb11.size)).cell (p := ⟨w5.heap.size, 0, none⟩) (by have := lt_of_block X0b_10.out; simp; omega)).trans fX0b0, ((Below.trans (Below.mono hb11 (Nat.le_refl _)) (hb12.mono hb11.size)).cell (p := ⟨w5.heap.size, 1, none⟩) (by have := lt_of_block X0b_10.out; simp; omega)).trans fX0b1⟩)
        (first | (go_at_call 25; refine (toRegion_any _ _ _ xs0 _ hn0 HQ11.out).mono ?_; rintro e w11 ⟨a11_, c11_, rfl, ho11, hb11⟩) | (go_at_call 28; refine (eqRegion_same _ _ _ _ _ xs0 _ hn0 (CellsAt.below (w := w10.drew) (Owned.cells (w := w10) X0_10.out) hb11) (ownsRow_cellsAt ho11)).mono ?_; rintro e w12 ⟨rfl, hb12⟩))
      clear HQ11
      clear fA0 fA1
      clear fX0b0 fX0b1
      have hb11_ : Below w10.heap.size w10 w11 := (Below.refl _ _).drew.trans (hb11.mono (Nat.le_refl _))
      clear hb11
      have hb11 := hb11_
      have z11 := hb11.size
      have q11 : Below w.heap.size w w11 := q10.trans (hb11.mono q10.size)
      have R0_11 := Lib.hid (R0_10.out.below hb11 (by omega))
      clear R0_10
      have R1_11 := Lib.hid (R1_10.out.below hb11 (by omega))
      clear R1_10
      have X0_11 := Lib.hid (X0_10.out.below hb11 (by omega))
      clear X0_10
      have X1_11 := Lib.hid (X1_10.out.below hb11 (by omega))
      clear X1_10
      have G0_11 := Lib.hid (G0_10.out.below hb11 (by omega))
      clear G0_10
      have G1_11 := Lib.hid (G1_10.out.below hb11 (by omega))
      clear G1_10
      have A_11 := Lib.hid ((hb11.block w.heap.size (lt_of_block A_10.out)).trans A_10.out)
      clear A_10
      have X0b_11 := Lib.hid ((hb11.block w5.heap.size (lt_of_block X0b_10.out)).trans X0b_10.out)
      clear X0b_10
      have z12 := hb12.size
      have q12 : Below w.heap.size w w12 := q11.trans (hb12.mono q11.size)
      have R0_12 := Lib.hid (R0_11.out.below hb12 (by omega))
      clear R0_11
      have R1_12 := Lib.hid (R1_11.out.below hb12 (by omega))
      clear R1_11
      have X0_12 := Lib.hid (X0_11.out.below hb12 (by omega))
      clear X0_11
      have X1_12 := Lib.hid (X1_11.out.below hb12 (by omega))
      clear X1_11
      have G0_12 := Lib.hid (G0_11.out.below hb12 (by omega))
      clear G0_11
      have G1_12 := Lib.hid (G1_11.out.below hb12 (by omega))
      clear G1_11
      have A_12 := Lib.hid ((hb12.block w.heap.size (lt_of_block A_11.out)).trans A_11.out)
      clear A_11
      have X0b_12 := Lib.hid ((hb12.block w5.heap.size (lt_of_block X0b_11.out)).trans X0b_11.out)
      clear X0b_11
      have fA0 : w12.cell? ⟨w.heap.size, 0, none⟩ = some (.int .i64 a0) := by rw [cell_of_row w12 _ 0 _ _ _ A_12.out]; rfl
      have fA1 : w12.cell? ⟨w.heap.size, 1, none⟩ = some (.slice ad0 xs0.length cap0) := by rw [cell_of_row w12 _ 1 _ _ _ A_12.out]; rfl
      have fX0b0 : w12.cell? ⟨w5.heap.size, 0, none⟩ = some (.int .i64 a0) := by rw [cell_of_row w12 _ 0 _ _ _ X0b_12.out]; rfl
      have fX0b1 : w12.cell? ⟨w5.heap.size, 1, none⟩ = some (.slice a5_ xs0.length c5_) := by rw [cell_of_row w12 _ 1 _ _ _ X0b_12.out]; rfl
      go_wp2_with fail
      clear fA0 fA1
      clear fX0b0 fX0b1
      refine (toIntS_any _ _ xs1 _ hn1 (H1.out.below q12)).mono ?_
      rintro e w13 ⟨a13_, c13_, rfl, ho13, hb13⟩
      have z13 := hb13.size
      have q13 : Below w.heap.size w w13 := q12.trans (hb13.mono q12.size)
      have R0_13 := Lib.hid (R0_12.out.below hb13 (by omega))
      clear R0_12
      have R1_13 := Lib.hid (R1_12.out.below hb13 (by omega))
      clear R1_12
      have X0_13 := Lib.hid (X0_12.out.below hb13 (by omega))
      clear X0_12
      have X1_13 := Lib.hid (X1_12.out.below hb13 (by omega))
      clear X1_12
      have G0_13 := Lib.hid (G0_12.out.below hb13 (by omega))
      clear G0_12
      have G1_13 := Lib.hid (G1_12.out.below hb13 (by omega))
      clear G1_12
      have A_13 := Lib.hid ((hb13.block w.heap.size (lt_of_block A_12.out)).trans A_12.out)
      clear A_12
      have X0b_13 := Lib.hid ((hb13.block w5.heap.size (lt_of_block X0b_12.out)).trans X0b_12.out)
      clear X0b_12
      have Y1 := Lib.hid (Owned.of ho13)
      clear ho13
      have fA0 : w13.cell? ⟨w.heap.size, 0, none⟩ = some (.int .i64 a0) := by rw [cell_of_row w13 _ 0 _ _ _ A_13.out]; rfl
      have fA1 : w13.cell? ⟨w.heap.size, 1, none⟩ = some (.slice ad0 xs0.length cap0) := by rw [cell_of_row w13 _ 1 _ _ _ A_13.out]; rfl
      have fX0b0 : w13.cell? ⟨w5.heap.size, 0, none⟩ = some (.int .i64 a0) := by rw [cell_of_row w13 _ 0 _ _ _ X0b_13.out]; rfl
      have fX0b1 : w13.cell? ⟨w5.heap.size, 1, none⟩ = some (.slice a5_ xs0.length c5_) := by rw [cell_of_row w13 _ 1 _ _ _ X0b_13.out]; rfl
      go_wp2_with fail
      clear fA0 fA1
      clear fX0b0 fX0b1
      refine (eqIntS_same _ _ _ _ xs1 _ hn1 X1_13.out.cells Y1.out.cells).mono ?_
      rintro e w14 ⟨rfl, hb14⟩
      have z14 := hb14.size
      have q14 : Below w.heap.size w w14 := q13.trans (hb14.mono q13.size)
      have R0_14 := Lib.hid (R0_13.out.below hb14 (by omega))
      clear R0_13
      have R1_14 := Lib.hid (R1_13.out.below hb14 (by omega))
      clear R1_13
      have X0_14 := Lib.hid (X0_13.out.below hb14 (by omega))
      clear X0_13
      have X1_14 := Lib.hid (X1_13.out.below hb14 (by omega))
      clear X1_13
      have G0_14 := Lib.hid (G0_13.out.below hb14 (by omega))
      clear G0_13
      have G1_14 := Lib.hid (G1_13.out.below hb14 (by omega))
      clear G1_13
      have Y1_14 := Lib.hid (Y1.out.below hb14 (by omega))
      clear Y1
      have A_14 := Lib.hid ((hb14.block w.heap.size (lt_of_block A_13.out)).trans A_13.out)
      clear A_13
      have X0b_14 := Lib.hid ((hb14.block w5.heap.size (lt_of_block X0b_13.out)).trans X0b_13.out)
      clear X0b_13
      clear Y1_14
      have fA0 : w14.cell? ⟨w.heap.size, 0, none⟩ = some (.int .i64 a0) := by rw [cell_of_row w14 _ 0 _ _ _ A_14.out]; rfl
      have fA1 : w14.cell? ⟨w.heap.size, 1, none⟩ = some (.slice ad0 xs0.length cap0) := by rw [cell_of_row w14 _ 1 _ _ _ A_14.out]; rfl
      have fX0b0 : w14.cell? ⟨w5.heap.size, 0, none⟩ = some (.int .i64 a0) := by rw [cell_of_row w14 _ 0 _ _ _ X0b_14.out]; rfl
      have fX0b1 : w14.cell? ⟨w5.heap.size, 1, none⟩ = some (.slice a5_ xs0.length c5_) := by rw [cell_of_row w14 _ 1 _ _ _ X0b_14.out]; rfl
      go_wp2_with fail
      clear fA0 fA1
      clear fX0b0 fX0b1
      refine (markRegion_all (k := 1) _ _ _ _ _ xs0 _ hn0 (by omega) X0_14.out).mono ?_
      rintro e w15 ⟨rfl, _, ht15⟩
      have z15 := ht15.size
      have zq15 := q14.size
      have q15 : Below w.heap.size w w15 := q14.trans (ht15.below (by omega) (by omega))
      have R0_15 := Lib.hid (R0_14.out.touched ht15 (by omega))
      clear R0_14
      have R1_15 := Lib.hid (R1_14.out.touched ht15 (by omega))
      clear R1_14
      have X1_15 := Lib.hid (X1_14.out.touched ht15 (by omega))
      clear X1_14
      have G0_15 := Lib.hid (G0_14.out.touched ht15 (by omega))
      clear G0_14
      have G1_15 := Lib.hid (G1_14.out.touched ht15 (by omega))
      clear G1_14
      have A_15 := Lib.hid ((ht15.block w.heap.size (lt_of_block A_14.out) (by omega)).trans A_14.out)
      clear A_14
      have X0b_15 := Lib.hid ((ht15.block w5.heap.size (lt_of_block X0b_14.out) (by omega)).trans X0b_14.out)
      clear X0b_14
      have fA0 : w15.cell? ⟨w.heap.size, 0, none⟩ = some (.int .i64 a0) := by rw [cell_of_row w15 _ 0 _ _ _ A_15.out]; rfl
      have fA1 : w15.cell? ⟨w.heap.size, 1, none⟩ = some (.slice ad0 xs0.length cap0) := by rw [cell_of_row w15 _ 1 _ _ _ A_15.out]; rfl
      have fX0b0 : w15.cell? ⟨w5.heap.size, 0, none⟩ = some (.int .i64 a0) := by rw [cell_of_row w15 _ 0 _ _ _ X0b_15.out]; rfl
      have fX0b1 : w15.cell? ⟨w5.heap.size, 1, none⟩ = some (.slice a5_ xs0.length c5_) := by rw [cell_of_row w15 _ 1 _ _ _ X0b_15.out]; rfl
      go_wp2_with fail
      clear fA0 fA1
      clear fX0b0 fX0b1
      refine (markIntS_far (k := 1 + xs0.length) _ _ _ _ xs1 _ hn1 (by omega) X1_15.out).mono ?_
      rintro e w16 ⟨rfl, _, ht16⟩
      have z16 := ht16.size
      have zq16 := q15.size
      have q16 : Below w.heap.size w w16 := q15.trans (ht16.below (by omega) (by omega))
      have R0_16 := Lib.hid (R0_15.out.touched ht16 (by omega))
      clear R0_15
      have R1_16 := Lib.hid (R1_15.out.touched ht16 (by omega))
      clear R1_15
      have G0_16 := Lib.hid (G0_15.out.touched ht16 (by omega))
      clear G0_15
      have G1_16 := Lib.hid (G1_15.out.touched ht16 (by omega))
      clear G1_15
      have A_16 := Lib.hid ((ht16.block w.heap.size (lt_of_block A_15.out) (by omega)).trans A_15.out)
      clear A_15
      have X0b_16 := Lib.hid ((ht16.block w5.heap.size (lt_of_block X0b_15.out) (by omega)).trans X0b_15.out)
      clear X0b_15
      have fA0 : w16.cell? ⟨w.heap.size, 0, none⟩ = some (.int .i64 a0) := by rw [cell_of_row w16 _ 0 _ _ _ A_16.out]; rfl
      have fA1 : w16.cell? ⟨w.heap.size, 1, none⟩ = some (.slice ad0 xs0.length cap0) := by rw [cell_of_row w16 _ 1 _ _ _ A_16.out]; rfl
      have fX0b0 : w16.cell? ⟨w5.heap.size, 0, none⟩ = some (.int .i64 a0) := by rw [cell_of_row w16 _ 0 _ _ _ X0b_16.out]; rfl
      have fX0b1 : w16.cell? ⟨w5.heap.size, 1, none⟩ = some (.slice a5_ xs0.length c5_) := by rw [cell_of_row w16 _ 1 _ _ _ X0b_16.out]; rfl
      go_wp2_with fail
      clear fA0 fA1
      clear fX0b0 fX0b1
      refine (eqIntS_same _ _ _ _ r0 _ (by omega) G0_16.out.cells R0_16.out.cells).mono ?_
      rintro e w17 ⟨rfl, hb17⟩
      have z17 := hb17.size
      have q17 : Below w.heap.size w w17 := q16.trans (hb17.mono q16.size)
      have R0_17 := Lib.hid (R0_16.out.below hb17 (by omega))
      clear R0_16
      have R1_17 := Lib.hid (R1_16.out.below hb17 (by omega))
      clear R1_16
      have G0_17 := Lib.hid (G0_16.out.below hb17 (by omega))
      clear G0_16
      have G1_17 := Lib.hid (G1_16.out.below hb17 (by omega))
      clear G1_16
      have A_17 := Lib.hid ((hb17.block w.heap.size (lt_of_block A_16.out)).trans A_16.out)
      clear A_16
      have X0b_17 := Lib.hid ((hb17.block w5.heap.size (lt_of_block X0b_16.out)).trans X0b_16.out)
      clear X0b_16
      have fA0 : w17.cell? ⟨w.heap.size, 0, none⟩ = some (.int .i64 a0) := by rw [cell_of_row w17 _ 0 _ _ _ A_17.out]; rfl
      have fA1 : w17.cell? ⟨w.heap.size, 1, none⟩ = some (.slice ad0 xs0.length cap0) := by rw [cell_of_row w17 _ 1 _ _ _ A_17.out]; rfl
      have fX0b0 : w17.cell? ⟨w5.heap.size, 0, none⟩ = some (.int .i64 a0) := by rw [cell_of_row w17 _ 0 _ _ _ X0b_17.out]; rfl
      have fX0b1 : w17.cell? ⟨w5.heap.size, 1, none⟩ = some (.slice a5_ xs0.length c5_) := by rw [cell_of_row w17 _ 1 _ _ _ X0b_17.out]; rfl
      go_wp2_with fail
      clear fA0 fA1
      clear fX0b0 fX0b1
      refine (eqIntS_same _ _ _ _ r1 _ (by omega) G1_17.out.cells R1_17.out.cells).mono ?_
      rintro e w18 ⟨rfl, hb18⟩
      have z18 := hb18.size
      have q18 : Below w.heap.size w w18 := q17.trans (hb18.mono q17.size)
      have R0_18 := Lib.hid (R0_17.out.below hb18 (by omega))
      clear R0_17
      have R1_18 := Lib.hid (R1_17.out.below hb18 (by omega))
      clear R1_17
      have G0_18 := Lib.hid (G0_17.out.below hb18 (by omega))
      clear G0_17
      have G1_18 := Lib.hid (G1_17.out.below hb18 (by omega))
      clear G1_17
      have A_18 := Lib.hid ((hb18.block w.heap.size (lt_of_block A_17.out)).trans A_17.out)
      clear A_17
      have X0b_18 := Lib.hid ((hb18.block w5.heap.size (lt_of_block X0b_17.out)).trans X0b_17.out)
      clear X0b_17
      have fA0 : w18.cell? ⟨w.heap.size, 0, none⟩ = some (.int .i64 a0) := by rw [cell_of_row w18 _ 0 _ _ _ A_18.out]; rfl
      have fA1 : w18.cell? ⟨w.heap.size, 1, none⟩ = some (.slice ad0 xs0.length cap0) := by rw [cell_of_row w18 _ 1 _ _ _ A_18.out]; rfl
      have fX0b0 : w18.cell? ⟨w5.heap.size, 0, none⟩ = some (.int .i64 a0) := by rw [cell_of_row w18 _ 0 _ _ _ X0b_18.out]; rfl
      have fX0b1 : w18.cell? ⟨w5.heap.size, 1, none⟩ = some (.slice a5_ xs0.length c5_) := by rw [cell_of_row w18 _ 1 _ _ _ X0b_18.out]; rfl
      go_wp2_with fail
      clear fA0 fA1
      clear fX0b0 fX0b1
      refine (markIntS_all (k := 1) _ _ _ _ r0 _ (by omega) (by omega) G0_18.out).mono ?_
      rintro e w19 ⟨rfl, g19, ht19⟩
      have z19 := ht19.size
      have zq19 := q18.size
      have q19 : Below w.heap.size w w19 := q18.trans (ht19.below (by omega) (by omega))
      have R0_19 := Lib.hid (R0_18.out.touched ht19 (by omega))
      clear R0_18
      have R1_19 := Lib.hid (R1_18.out.touched ht19 (by omega))
      clear R1_18
      have G1_19 := Lib.hid (G1_18.out.touched ht19 (by omega))
      clear G1_18
      have A_19 := Lib.hid ((ht19.block w.heap.size (lt_of_block A_18.out) (by omega)).trans A_18.out)
      clear A_18
      have X0b_19 := Lib.hid ((ht19.block w5.heap.size (lt_of_block X0b_18.out) (by omega)).trans X0b_18.out)
      clear X0b_18
      have M0 := Lib.hid g19
      clear g19
      have fA0 : w19.cell? ⟨w.heap.size, 0, none⟩ = some (.int .i64 a0) := by rw [cell_of_row w19 _ 0 _ _ _ A_19.out]; rfl
      have fA1 : w19.cell? ⟨w.heap.size, 1, none⟩ = some (.slice ad0 xs0.length cap0) := by rw [cell_of_row w19 _ 1 _ _ _ A_19.out]; rfl
      have fX0b0 : w19.cell? ⟨w5.heap.size, 0, none⟩ = some (.int .i64 a0) := by rw [cell_of_row w19 _ 0 _ _ _ X0b_19.out]; rfl
      have fX0b1 : w19.cell? ⟨w5.heap.size, 1, none⟩ = some (.slice a5_ xs0.length c5_) := by rw [cell_of_row w19 _ 1 _ _ _ X0b_19.out]; rfl
      go_wp2_with fail
      clear fA0 fA1
      clear fX0b0 fX0b1
      refine (markIntS_all (k := 1 + r0.length) _ _ _ _ r1 _ (by omega) (by omega) G1_19.out).mono ?_
      rintro e w20 ⟨rfl, g20, ht20⟩
      have z20 := ht20.size
      have zq20 := q19.size
      have q20 : Below w.heap.size w w20 := q19.trans (ht20.below (by omega) (by omega))
      have R0_20 := Lib.hid (R0_19.out.touched ht20 (by omega))
      clear R0_19
      have R1_20 := Lib.hid (R1_19.out.touched ht20 (by omega))
      clear R1_19
      have M0_20 := Lib.hid (M0.out.touched ht20 (by omega))
      clear M0
      have A_20 := Lib.hid ((ht20.block w.heap.size (lt_of_block A_19.out) (by omega)).trans A_19.out)
      clear A_19
      have X0b_20 := Lib.hid ((ht20.block w5.heap.size (lt_of_block X0b_19.out) (by omega)).trans X0b_19.out)
      clear X0b_19
      have M1 := Lib.hid g20
      clear g20
      have fA0 : w20.cell? ⟨w.heap.size, 0, none⟩ = some (.int .i64 a0) := by rw [cell_of_row w20 _ 0 _ _ _ A_20.out]; rfl
      have fA1 : w20.cell? ⟨w.heap.size, 1, none⟩ = some (.slice ad0 xs0.length cap0) := by rw [cell_of_row w20 _ 1 _ _ _ A_20.out]; rfl
      have fX0b0 : w20.cell? ⟨w5.heap.size, 0, none⟩ = some (.int .i64 a0) := by rw [cell_of_row w20 _ 0 _ _ _ X0b_20.out]; rfl
      have fX0b1 : w20.cell? ⟨w5.heap.size, 1, none⟩ = some (.slice a5_ xs0.length c5_) := by rw [cell_of_row w20 _ 1 _ _ _ X0b_20.out]; rfl
      go_wp2_with fail
      clear fA0 fA1
      clear fX0b0 fX0b1
      refine (heldIntS_b (k := 1) _ _ r0.length _ (by omega) (by omega) M0_20.out.cells).mono ?_
      rintro e w21 ⟨rfl, hb21⟩
      have z21 := hb21.size
      have q21 : Below w.heap.size w w21 := q20.trans (hb21.mono q20.size)
      have R0_21 := Lib.hid (R0_20.out.below hb21 (by omega))
      clear R0_20
      have R1_21 := Lib.hid (R1_20.out.below hb21 (by omega))
      clear R1_20
      have M0_21 := Lib.hid (M0_20.out.below hb21 (by omega))
      clear M0_20
      have M1_21 := Lib.hid (M1.out.below hb21 (by omega))
      clear M1
      have A_21 := Lib.hid ((hb21.block w.heap.size (lt_of_block A_20.out)).trans A_20.out)
      clear A_20
      have X0b_21 := Lib.hid ((hb21.block w5.heap.size (lt_of_block X0b_20.out)).trans X0b_20.out)
      clear X0b_20
      have fA0 : w21.cell? ⟨w.heap.size, 0, none⟩ = some (.int .i64 a0) := by rw [cell_of_row w21 _ 0 _ _ _ A_21.out]; rfl
      have fA1 : w21.cell? ⟨w.heap.size, 1, none⟩ = some (.slice ad0 xs0.length cap0) := by rw [cell_of_row w21 _ 1 _ _ _ A_21.out]; rfl
      have fX0b0 : w21.cell? ⟨w5.heap.size, 0, none⟩ = some (.int .i64 a0) := by rw [cell_of_row w21 _ 0 _ _ _ X0b_21.out]; rfl
      have fX0b1 : w21.cell? ⟨w5.heap.size, 1, none⟩ = some (.slice a5_ xs0.length c5_) := by rw [cell_of_row w21 _ 1 _ _ _ X0b_21.out]; rfl
      go_wp2_with fail
      clear fA0 fA1
      clear fX0b0 fX0b1
      refine (heldIntS_b (k := 1 + r0.length) _ _ r1.length _ (by omega) (by omega) M1_21.out.cells).mono ?_
      rintro e w22 ⟨rfl, hb22⟩
      have z22 := hb22.size
      have q22 : Below w.heap.size w w22 := q21.trans (hb22.mono q21.size)
      have R0_22 := Lib.hid (R0_21.out.below hb22 (by omega))
      clear R0_21
      have R1_22 := Lib.hid (R1_21.out.below hb22 (by omega))
      clear R1_21
      have M0_22 := Lib.hid (M0_21.out.below hb22 (by omega))
      clear M0_21
      have M1_22 := Lib.hid (M1_21.out.below hb22 (by omega))
      clear M1_21
      have A_22 := Lib.hid ((hb22.block w.heap.size (lt_of_block A_21.out)).trans A_21.out)
      clear A_21
      have X0b_22 := Lib.hid ((hb22.block w5.heap.size (lt_of_block X0b_21.out)).trans X0b_21.out)
      clear X0b_21
      have fA0 : w22.cell? ⟨w.heap.size, 0, none⟩ = some (.int .i64 a0) := by rw [cell_of_row w22 _ 0 _ _ _ A_22.out]; rfl
      have fA1 : w22.cell? ⟨w.heap.size, 1, none⟩ = some (.slice ad0 xs0.length cap0) := by rw [cell_of_row w22 _ 1 _ _ _ A_22.out]; rfl
      have fX0b0 : w22.cell? ⟨w5.heap.size, 0, none⟩ = some (.int .i64 a0) := by rw [cell_of_row w22 _ 0 _ _ _ X0b_22.out]; rfl
      have fX0b1 : w22.cell? ⟨w5.heap.size, 1, none⟩ = some (.slice a5_ xs0.length c5_) := by rw [cell_of_row w22 _ 1 _ _ _ X0b_22.out]; rfl
      go_wp2_with fail
      clear fA0 fA1
      clear fX0b0 fX0b1
      refine (toRegion_any _ _ _ xs0 _ hn0 (H0.out.below q22)).mono ?_
      rintro e w23 ⟨a23_, c23_, rfl, ho23, hb23⟩
      have z23 := hb23.size
      have q23 : Below w.heap.size w w23 := q22.trans (hb23.mono q22.size)
      have R0_23 := Lib.hid (R0_22.out.below hb23 (by omega))
      clear R0_22
      have R1_23 := Lib.hid (R1_22.out.below hb23 (by omega))
      clear R1_22
      have M0_23 := Lib.hid (M0_22.out.below hb23 (by omega))
      clear M0_22
      have M1_23 := Lib.hid (M1_22.out.below hb23 (by omega))
      clear M1_22
      have A_23 := Lib.hid ((hb23.block w.heap.size (lt_of_block A_22.out)).trans A_22.out)
      clear A_22
      have X0b_23 := Lib.hid ((hb23.block w5.heap.size (lt_of_block X0b_22.out)).trans X0b_22.out)
      clear X0b_22
      have T0 := Lib.hid (Owned.of ho23)
      clear ho23
      have fA0 : w23.cell? ⟨w.heap.size, 0, none⟩ = some (.int .i64 a0) := by rw [cell_of_row w23 _ 0 _ _ _ A_23.out]; rfl
      have fA1 : w23.cell? ⟨w.heap.size, 1, none⟩ = some (.slice ad0 xs0.length cap0) := by rw [cell_of_row w23 _ 1 _ _ _ A_23.out]; rfl
      have fX0b0 : w23.cell? ⟨w5.heap.size, 0, none⟩ = some (.int .i64 a0) := by rw [cell_of_row w23 _ 0 _ _ _ X0b_23.out]; rfl
      have fX0b1 : w23.cell? ⟨w5.heap.size, 1, none⟩ = some (.slice a5_ xs0.length c5_) := by rw [cell_of_row w23 _ 1 _ _ _ X0b_23.out]; rfl
      go_wp2_with fail
      clear fA0 fA1
      clear fX0b0 fX0b1
      refine (toIntS_any _ _ xs1 _ hn1 (H1.out.below q23)).mono ?_
      rintro e w24 ⟨a24_, c24_, rfl, ho24, hb24⟩
      have z24 := hb24.size
      have q24 : Below w.heap.size w w24 := q23.trans (hb24.mono q23.size)
      have R0_24 := Lib.hid (R0_23.out.below hb24 (by omega))
      clear R0_23
      have R1_24 := Lib.hid (R1_23.out.below hb24 (by omega))
      clear R1_23
      have M0_24 := Lib.hid (M0_23.out.below hb24 (by omega))
      clear M0_23
      have M1_24 := Lib.hid (M1_23.out.below hb24 (by omega))
      clear M1_23
      have T0_24 := Lib.hid (T0.out.below hb24 (by omega))
      clear T0
      have A_24 := Lib.hid ((hb24.block w.heap.size (lt_of_block A_23.out)).trans A_23.out)
      clear A_23
      have X0b_24 := Lib.hid ((hb24.block w5.heap.size (lt_of_block X0b_23.out)).trans X0b_23.out)
      clear X0b_23
      have T1 := Lib.hid (Owned.of ho24)
      clear ho24
      have fA0 : w24.cell? ⟨w.heap.size, 0, none⟩ = some (.int .i64 a0) := by rw [cell_of_row w24 _ 0 _ _ _ A_24.out]; rfl
      have fA1 : w24.cell? ⟨w.heap.size, 1, none⟩ = some (.slice ad0 xs0.length cap0) := by rw [cell_of_row w24 _ 1 _ _ _ A_24.out]; rfl
      have fX0b0 : w24.cell? ⟨w5.heap.size, 0, none⟩ = some (.int .i64 a0) := by rw [cell_of_row w24 _ 0 _ _ _ X0b_24.out]; rfl
      have fX0b1 : w24.cell? ⟨w5.heap.size, 1, none⟩ = some (.slice a5_ xs0.length c5_) := by rw [cell_of_row w24 _ 1 _ _ _ X0b_24.out]; rfl
      go_wp2_with fail
      clear fA0 fA1
      clear fX0b0 fX0b1
      refine (HI.out _ _ _ _ _ T0_24.out.le_cap T1.out.le_cap T0_24.out.cells T1.out.cells).mono ?_
      rintro e w25 ⟨b25_0, d25_0, b25_1, d25_1, lo25_0, hi25_0, lo25_1, hi25_1, rfl, ho25_0, ho25_1, sp25_0, sp25_1, sp25_2, sp25_3, sp25_4, sp25_5, sp25_6, hb25⟩
      have z25 := hb25.size
      have q25 : Below w.heap.size w w25 := q24.trans (hb25.mono q24.size)
      have R0_25 := Lib.hid (R0_24.out.below hb25 (by omega))
      clear R0_24
      have R1_25 := Lib.hid (R1_24.out.below hb25 (by omega))
      clear R1_24
      have M0_25 := Lib.hid (M0_24.out.below hb25 (by omega))
      clear M0_24
      have M1_25 := Lib.hid (M1_24.out.below hb25 (by omega))
      clear M1_24
      have T0_25 := Lib.hid (T0_24.out.below hb25 (by omega))
      clear T0_24
      have T1_25 := Lib.hid (T1.out.below hb25 (by omega))
      clear T1
      have A_25 := Lib.hid ((hb25.block w.heap.size (lt_of_block A_24.out)).trans A_24.out)
      clear A_24
      have X0b_25 := Lib.hid ((hb25.block w5.heap.size (lt_of_block X0b_24.out)).trans X0b_24.out)
      clear X0b_24
      have N0 := Lib.hid (id ho25_0)
      clear ho25_0
      have N1 := Lib.hid (id ho25_1)
      clear ho25_1
      clear T0_25
      clear T1_25
      have fA0 : w25.cell? ⟨w.heap.size, 0, none⟩ = some (.int .i64 a0) := by rw [cell_of_row w25 _ 0 _ _ _ A_25.out]; rfl
      have fA1 : w25.cell? ⟨w.heap.size, 1, none⟩ = some (.slice ad0 xs0.length cap0) := by rw [cell_of_row w25 _ 1 _ _ _ A_25.out]; rfl
      have fX0b0 : w25.cell? ⟨w5.heap.size, 0, none⟩ = some (.int .i64 a0) := by rw [cell_of_row w25 _ 0 _ _ _ X0b_25.out]; rfl
      have fX0b1 : w25.cell? ⟨w5.heap.size, 1, none⟩ = some (.slice a5_ xs0.length c5_) := by rw [cell_of_row w25 _ 1 _ _ _ X0b_25.out]; rfl
      go_wp2_with fail
      clear fA0 fA1
      clear fX0b0 fX0b1
      refine (eqIntS_same _ _ _ _ r0 _ (by omega) N0.out.cells R0_25.out.cells).mono ?_
      rintro e w26 ⟨rfl, hb26⟩
      have z26 := hb26.size
      have q26 : Below w.heap.size w w26 := q25.trans (hb26.mono q25.size)
      have R0_26 := Lib.hid (R0_25.out.below hb26 (by omega))
      clear R0_25
      have R1_26 := Lib.hid (R1_25.out.below hb26 (by omega))
      clear R1_25
      have M0_26 := Lib.hid (M0_25.out.below hb26 (by omega))
      clear M0_25
      have M1_26 := Lib.hid (M1_25.out.below hb26 (by omega))
      clear M1_25
      have N0_26 := Lib.hid (N0.out.below hb26 (by omega))
      clear N0
      have N1_26 := Lib.hid (N1.out.below hb26 (by omega))
      clear N1
      have A_26 := Lib.hid ((hb26.block w.heap.size (lt_of_block A_25.out)).trans A_25.out)
      clear A_25
      have X0b_26 := Lib.hid ((hb26.block w5.heap.size (lt_of_block X0b_25.out)).trans X0b_25.out)
      clear X0b_25
      have fA0 : w26.cell? ⟨w.heap.size, 0, none⟩ = some (.int .i64 a0) := by rw [cell_of_row w26 _ 0 _ _ _ A_26.out]; rfl
      have fA1 : w26.cell? ⟨w.heap.size, 1, none⟩ = some (.slice ad0 xs0.length cap0) := by rw [cell_of_row w26 _ 1 _ _ _ A_26.out]; rfl
      have fX0b0 : w26.cell? ⟨w5.heap.size, 0, none⟩ = some (.int .i64 a0) := by rw [cell_of_row w26 _ 0 _ _ _ X0b_26.out]; rfl
      have fX0b1 : w26.cell? ⟨w5.heap.size, 1, none⟩ = some (.slice a5_ xs0.length c5_) := by rw [cell_of_row w26 _ 1 _ _ _ X0b_26.out]; rfl
      go_wp2_with fail
      clear fA0 fA1
      clear fX0b0 fX0b1
      refine (eqIntS_same _ _ _ _ r1 _ (by omega) N1_26.out.cells R1_26.out.cells).mono ?_
      rintro e w27 ⟨rfl, hb27⟩
      have z27 := hb27.size
      have q27 : Below w.heap.size w w27 := q26.trans (hb27.mono q26.size)
      have R0_27 := Lib.hid (R0_26.out.below hb27 (by omega))
      clear R0_26
      have R1_27 := Lib.hid (R1_26.out.below hb27 (by omega))
      clear R1_26
      have M0_27 := Lib.hid (M0_26.out.below hb27 (by omega))
      clear M0_26
      have M1_27 := Lib.hid (M1_26.out.below hb27 (by omega))
      clear M1_26
      have N0_27 := Lib.hid (N0_26.out.below hb27 (by omega))
      clear N0_26
      have N1_27 := Lib.hid (N1_26.out.below hb27 (by omega))
      clear N1_26
      have A_27 := Lib.hid ((hb27.block w.heap.size (lt_of_block A_26.out)).trans A_26.out)
      clear A_26
      have X0b_27 := Lib.hid ((hb27.block w5.heap.size (lt_of_block X0b_26.out)).trans X0b_26.out)
      clear X0b_26
      have fA0 : w27.cell? ⟨w.heap.size, 0, none⟩ = some (.int .i64 a0) := by rw [cell_of_row w27 _ 0 _ _ _ A_27.out]; rfl
      have fA1 : w27.cell? ⟨w.heap.size, 1, none⟩ = some (.slice ad0 xs0.length cap0) := by rw [cell_of_row w27 _ 1 _ _ _ A_27.out]; rfl
      have fX0b0 : w27.cell? ⟨w5.heap.size, 0, none⟩ = some (.int .i64 a0) := by rw [cell_of_row w27 _ 0 _ _ _ X0b_27.out]; rfl
      have fX0b1 : w27.cell? ⟨w5.heap.size, 1, none⟩ = some (.slice a5_ xs0.length c5_) := by rw [cell_of_row w27 _ 1 _ _ _ X0b_27.out]; rfl
      go_wp2_with fail
      clear fA0 fA1
      clear fX0b0 fX0b1
      refine (heldIntS_b (k := 1) _ _ r0.length _ (by omega) (by omega) M0_27.out.cells).mono ?_
      rintro e w28 ⟨rfl, hb28⟩
      have z28 := hb28.size
      have q28 : Below w.heap.size w w28 := q27.trans (hb28.mono q27.size)
      have R0_28 := Lib.hid (R0_27.out.below hb28 (by omega))
      clear R0_27
      have R1_28 := Lib.hid (R1_27.out.below hb28 (by omega))
      clear R1_27
      have M0_28 := Lib.hid (M0_27.out.below hb28 (by omega))
      clear M0_27
      have M1_28 := Lib.hid (M1_27.out.below hb28 (by omega))
      clear M1_27
      have N0_28 := Lib.hid (N0_27.out.below hb28 (by omega))
      clear N0_27
      have N1_28 := Lib.hid (N1_27.out.below hb28 (by omega))
      clear N1_27
      have A_28 := Lib.hid ((hb28.block w.heap.size (lt_of_block A_27.out)).trans A_27.out)
      clear A_27
      have X0b_28 := Lib.hid ((hb28.block w5.heap.size (lt_of_block X0b_27.out)).trans X0b_27.out)
      clear X0b_27
      have fA0 : w28.cell? ⟨w.heap.size, 0, none⟩ = some (.int .i64 a0) := by rw [cell_of_row w28 _ 0 _ _ _ A_28.out]; rfl
      have fA1 : w28.cell? ⟨w.heap.size, 1, none⟩ = some (.slice ad0 xs0.length cap0) := by rw [cell_of_row w28 _ 1 _ _ _ A_28.out]; rfl
      have fX0b0 : w28.cell? ⟨w5.heap.size, 0, none⟩ = some (.int .i64 a0) := by rw [cell_of_row w28 _ 0 _ _ _ X0b_28.out]; rfl
      have fX0b1 : w28.cell? ⟨w5.heap.size, 1, none⟩ = some (.slice a5_ xs0.length c5_) := by rw [cell_of_row w28 _ 1 _ _ _ X0b_28.out]; rfl
      go_wp2_with fail
      clear fA0 fA1
      clear fX0b0 fX0b1
      refine (heldIntS_b (k := 1 + r0.length) _ _ r1.length _ (by omega) (by omega) M1_28.out.cells).mono ?_
      rintro e w29 ⟨rfl, hb29⟩
      have z29 := hb29.size
      have q29 : Below w.heap.size w w29 := q28.trans (hb29.mono q28.size)
      have R0_29 := Lib.hid (R0_28.out.below hb29 (by omega))
      clear R0_28
      have R1_29 := Lib.hid (R1_28.out.below hb29 (by omega))
      clear R1_28
      have M0_29 := Lib.hid (M0_28.out.below hb29 (by omega))
      clear M0_28
      have M1_29 := Lib.hid (M1_28.out.below hb29 (by omega))
      clear M1_28
      have N0_29 := Lib.hid (N0_28.out.below hb29 (by omega))
      clear N0_28
      have N1_29 := Lib.hid (N1_28.out.below hb29 (by omega))
      clear N1_28
      have A_29 := Lib.hid ((hb29.block w.heap.size (lt_of_block A_28.out)).trans A_28.out)
      clear A_28
      have X0b_29 := Lib.hid ((hb29.block w5.heap.size (lt_of_block X0b_28.out)).trans X0b_28.out)
      clear X0b_28
      have fA0 : w29.cell? ⟨w.heap.size, 0, none⟩ = some (.int .i64 a0) := by rw [cell_of_row w29 _ 0 _ _ _ A_29.out]; rfl
      have fA1 : w29.cell? ⟨w.heap.size, 1, none⟩ = some (.slice ad0 xs0.length cap0) := by rw [cell_of_row w29 _ 1 _ _ _ A_29.out]; rfl
      have fX0b0 : w29.cell? ⟨w5.heap.size, 0, none⟩ = some (.int .i64 a0) := by rw [cell_of_row w29 _ 0 _ _ _ X0b_29.out]; rfl
      have fX0b1 : w29.cell? ⟨w5.heap.size, 1, none⟩ = some (.slice a5_ xs0.length c5_) := by rw [cell_of_row w29 _ 1 _ _ _ X0b_29.out]; rfl
      go_wp2_with fail
      clear fA0 fA1
      clear fX0b0 fX0b1
      go_ret
      exact ⟨rfl, q29⟩
    · skip
      go_enter Try.func5, Try.ntmps5
      go_wp2_with fail
      have q0 : Below w.heap.size w (w.alloc (.cells #[.int .i64 a0, .slice ad0 xs0.length cap0] 40)) := (Below.refl _ _).alloc (Nat.le_refl _) _
      have z0 : (w.alloc (.cells #[.int .i64 a0, .slice ad0 xs0.length cap0] 40)).heap.size = w.heap.size + 1 := by simp
      have hbx : (w.alloc (.cells #[.int .i64 a0, .slice ad0 xs0.length cap0] 40)).heap[w.heap.size]? = some (.cells #[.int .i64 a0, .slice ad0 xs0.length cap0] 40 (0, 0)) := heap_alloc_new w _
      generalize w.alloc (.cells #[.int .i64 a0, .slice ad0 xs0.length cap0] 40) = w0 at q0 z0 hbx ⊢
      have A0_0 := Lib.hid hbx
      clear hbx
      refine (szRegion_any _ _ _ _ _ _ hm0 (by omega) (by omega)).mono ?_
      rw [if_pos (by omega)]
      rintro e w1 ⟨rfl, hb1⟩
      have z1 := hb1.size
      have q1 : Below w.heap.size w w1 := q0.trans (hb1.mono q0.size)
      have A_1 := Lib.hid ((hb1.block w.heap.size (lt_of_block A0_0.out)).trans A0_0.out)
      clear A0_0
      have fA0 : w1.cell? ⟨w.heap.size, 0, none⟩ = some (.int .i64 a0) := by rw [cell_of_row w1 _ 0 _ _ _ A_1.out]; rfl
      have fA1 : w1.cell? ⟨w.heap.size, 1, none⟩ = some (.slice ad0 xs0.length cap0) := by rw [cell_of_row w1 _ 1 _ _ _ A_1.out]; rfl
      go_wp2_with fail
      clear fA0 fA1
      go_ret
      exact ⟨rfl, q1⟩
  · skip
    go_enter Try.func5, Try.ntmps5
    go_wp2_with fail
    have q0 : Below w.heap.size w (w.alloc (.cells #[.int .i64 a0, .slice ad0 xs0.length cap0] 40)) := (Below.refl _ _).alloc (Nat.le_refl _) _
    have z0 : (w.alloc (.cells #[.int .i64 a0, .slice ad0 xs0.length cap0] 40)).heap.size = w.heap.size + 1 := by simp
    have hbx : (w.alloc (.cells #[.int .i64 a0, .slice ad0 xs0.length cap0] 40)).heap[w.heap.size]? = some (.cells #[.int .i64 a0, .slice ad0 xs0.length cap0] 40 (0, 0)) := heap_alloc_new w _
    generalize w.alloc (.cells #[.int .i64 a0, .slice ad0 xs0.length cap0] 40) = w0 at q0 z0 hbx ⊢
    have A0_0 := Lib.hid hbx
    clear hbx
    have fA0 : w0.cell? ⟨w.heap.size, 0, none⟩ = some (.int .i64 a0) := by rw [cell_of_row w0 _ 0 _ _ _ A0_0.out]; rfl
    have fA1 : w0.cell? ⟨w.heap.size, 1, none⟩ = some (.slice ad0 xs0.length cap0) := by rw [cell_of_row w0 _ 1 _ _ _ A0_0.out]; rfl
    go_wp2_with fail
    clear fA0 fA1
    go_ret
    exact ⟨rfl, q0⟩

set_option maxRecDepth 100000 in
theorem lifted (os : Os) (started : os.Started) (H : Type) (enc : TypeId × Value → H) :
    ReturnsInHanded {} Try.checked os 5 .any (Rows.fnExactCrossingsOfSpec.pre6 enc Try.prog Try.f5 Rows.fnExactCrossingsOfRow.domain false) (Rows.fnExactCrossingsOfSpec.post enc Try.prog Try.f5 false true false false) := by
  refine returnsInHanded_of_change (C := Try.checked) Try.own started (by kernel_rfl) Try.func5
    (ChangeSpec.witness6 (enc := enc) (C := Try.checked) false ⟨#[], #[.agg #[.int .i64 0, .slice none 0 0], .slice none 0 0], []⟩ 8 (by kernel_rfl) (by kernel_rfl) (by kernel_rfl) (by kernel_rfl)) ?_
  intro W base args ds gs before hval0 hW hcnd _
  have hval : ∀ (j : Nat) t v, Try.f5.params[j]? = some t → args[j]? = some v → Value.okWide Try.prog W .any base t v := hval0
  have hW' := hW
  obtain ⟨p, q, hA0, hV, rfl, hfz, hnd⟩ := hW
  have hA : DataW.TrodAll enc Try.prog W 0 (fun _ => true) true Try.f5.params.toList args.toList ds p := hA0
  rw [Try.params5] at hA hval
  obtain ⟨v0, vs0, d0, ds0, p0, q0, hargs, rfl, rfl, h0, r0⟩ := trodAll_cons hA
  obtain ⟨v1, vs1, d1, ds1, p1, q1, rfl, rfl, rfl, h1, r1⟩ := trodAll_cons r0
  obtain ⟨rfl, rfl, rfl⟩ := trodAll_nil r1
  obtain rfl : args = #[v0, v1] := by cases args; simp_all
  obtain ⟨rfl, rfl⟩ := trodVars_none hV
  obtain ⟨a0, ad0, cap0, xs0, rfl, w0, hm0, hc0, hw0⟩ := openRegion (hval 0 40 v0 rfl rfl) h0
  obtain ⟨ad1, cap1, xs1, rfl, hm1, hc1, hw1⟩ := openInts (hval 1 34 v1 rfl rfl) h1
  clear hA0 hval0
  refine (walk W a0 w0 ad0 cap0 xs0 hm0 hc0 hw0 ad1 cap1 xs1 hm1 hc1 hw1).mono fun e W' ⟨he, hb⟩ => ?_
  subst he
  exact ⟨_, rfl, law_post rfl hW' hb (by rw [Try.params5]; exact readable_all (by kernel_rfl)) (by kernel_rfl) (by kernel_rfl) rfl⟩

theorem proved : Rows.FnExactCrossingsOfSaid :=
  OpenClaim.holds_of_wide 5 Try.f5 rfl rfl rfl rfl rfl rfl rfl ⟨rfl, rfl, rfl, rfl, rfl⟩ rfl rfl rfl rfl rfl (by kernel_rfl) Try.func5 (by kernel_rfl)
    (of_decide_eq_true (by kernel_rfl)) (by unfold Func.isWrapper; first | (rw [if_pos (by decide +kernel)]; kernel_rfl) | (rw [if_neg (by decide +kernel)]; exact ⟨rfl, rfl⟩))
    (fun os started H enc _ => lifted os started H enc)
end Go.Proofs.Ytnldmigofmedkaa.lawCrossings
