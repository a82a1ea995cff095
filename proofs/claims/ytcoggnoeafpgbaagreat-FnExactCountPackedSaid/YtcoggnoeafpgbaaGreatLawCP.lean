/- LawCP: the program's CountPacked returns what the reference's returns, for every region and all pieces; no condition. -/
import Derived.Test.YtcoggnoeafpgbaaGreatAllHead
import Derived.Test.YtcoggnoeafpgbaaGreatFrameShp
import Derived.Test.YtcoggnoeafpgbaaGreatShpsLaw
import Derived.Test.YtcoggnoeafpgbaaGreatPackJ
import Derived.Deep.RegionHeld3
namespace Go.Proofs.YtcoggnoeafpgbaaGreat.lawCP
open Go.ChangeShapes Go.WideShapes Go.ChangeAt Go.RowKit

theorem both (b : Int) (_wb : (Lit.int .i64 b).wf = true) (xs : List Int) (_hw : ∀ x ∈ xs, (Lit.int .i64 x).wf = true) (hn : xs.length ≤ 1048576) (ps : List (List Cl)) (hnp : ps.length ≤ 1048576) (hl : ∀ p ∈ ps, p.length ≤ 1048576) :
    ∃ (r0 : Int), True ∧
      (∀ w ad cap al cl, xs.length ≤ cap → ps.length ≤ cl → CellsAt w ad (ints xs) → ShpsAt w al ps → Calls Tryz.prog 8 #[.agg #[.int .i64 b, .slice ad xs.length cap], .slice al ps.length cl] w fun e w' => e = .returned (.int .i64 r0) ∧ Below w.heap.size w w') ∧
      ∀ w ad cap al cl, xs.length ≤ cap → ps.length ≤ cl → CellsAt w ad (ints xs) → ShpsAt w al ps → Calls Tryz.prog 11 #[.agg #[.int .i64 b, .slice ad xs.length cap], .slice al ps.length cl] w fun e w' => e = .returned (.int .i64 r0) ∧ Below w.heap.size w w' :=
  ⟨_, trivial, fun w ad cap al cl _ _ h1 h2 => specCP b ad cap xs al cl ps w hn hnp hl h1 h2, fun w ad cap al cl _ _ h1 h2 => implCP b ad cap xs al cl ps w hn hnp hl h1 h2⟩

set_option maxRecDepth 100000 in
set_option maxHeartbeats 4000000 in
theorem walk (w : World) (a0 : Int) (w0_ : (Lit.int .i64 a0).wf = true) (ad0 : Option Addr) (cap0 : Nat) (xs0 : List Int) (hm0 : xs0.length ≤ maxLen) (hc0 : CellsAt w ad0 (ints xs0)) (hw0 : ∀ x ∈ xs0, (Lit.int .i64 x).wf = true) (ad1 : Option Addr) (cap1 : Nat) (xs1 : List (List Cl)) (hm1 : xs1.length ≤ maxLen) (hc1 : ShpsAt w ad1 xs1) (hw1 : ∀ q ∈ xs1, q.length ≤ maxLen) :
    Calls Tryz.prog 3 #[.agg #[.int .i64 a0, .slice ad0 xs0.length cap0], .slice ad1 xs1.length cap1] w fun e w' => e = .returned (.bool true) ∧ Below w.heap.size w w' := by
  unfold maxLen at hm0
  unfold maxLen at hm1
  unfold maxLen at hw1
  have H0 := Lib.hid hc0
  clear hc0
  have H1 := Lib.hid hc1
  clear hc1
  by_cases hn0_ : xs0.length ≤ 1048576
  · skip
    by_cases hn1_ : xs0.length + tot xs1 ≤ 1048576
    · skip
      have hn0 : xs0.length ≤ 1048576 := by omega
      have hl1 : ∀ q ∈ xs1, q.length ≤ 1048576 := fun q hq => by have := tot_mem hq; omega
      have hn1 : xs1.length ≤ 1048576 := by have := tot_len xs1; omega
      obtain ⟨r0, HL, hs, hi⟩ := both a0 w0_ xs0 hw0 hn0 xs1 hn1 hl1
      have HS := Lib.hid hs
      have HI := Lib.hid hi
      clear hs hi hw0
      have nn0 : (r0 != r0) = false := by simp
      go_enter Tryz.func3, Tryz.ntmps3
      go_wp2_with fail
      have q0 : Below w.heap.size w (w.alloc (.cells #[.int .i64 a0, .slice ad0 xs0.length cap0] 24)) := (Below.refl _ _).alloc (Nat.le_refl _) _
      have z0 : (w.alloc (.cells #[.int .i64 a0, .slice ad0 xs0.length cap0] 24)).heap.size = w.heap.size + 1 := by simp
      have hbx : (w.alloc (.cells #[.int .i64 a0, .slice ad0 xs0.length cap0] 24)).heap[w.heap.size]? = some (.cells #[.int .i64 a0, .slice ad0 xs0.length cap0] 24 (0, 0)) := heap_alloc_new w _
      generalize w.alloc (.cells #[.int .i64 a0, .slice ad0 xs0.length cap0] 24) = w0 at q0 z0 hbx ⊢
      have A0_0 := Lib.hid hbx
      clear hbx
      refine (szRegion_any _ _ _ _ _ _ hm0 (by omega) (by omega)).mono ?_
      rw [if_neg (by omega)]
      rintro e w1 ⟨rfl, hb1⟩
      have z1 := hb1.size
      have q1 : Below w.heap.size w w1 := q0.trans (hb1.mono q0.size)
      have A_1 := Lib.hid ((hb1.block w.heap.size (lt_of_block A0_0.out)).trans A0_0.out)
      clear A0_0
      have fA0 : w1.cell? ⟨w.heap.size, 0, none⟩ = some (.int .i64 a0) := by rw [cell_of_row w1 _ 0 _ _ _ A_1.out]; rfl
      have fA1 : w1.cell? ⟨w.heap.size, 1, none⟩ = some (.slice ad0 xs0.length cap0) := by rw [cell_of_row w1 _ 1 _ _ _ A_1.out]; rfl
      go_wp2_with fail
      clear fA0 fA1
      refine (szCellSS_any _ _ _ _ _ hm1 hw1 (by omega) (by omega) (H1.out.below q1)).mono ?_
      rw [if_neg (by omega)]
      rintro e w' ⟨rfl, rfl⟩
      have fA0 : w1.cell? ⟨w.heap.size, 0, none⟩ = some (.int .i64 a0) := by rw [cell_of_row w1 _ 0 _ _ _ A_1.out]; rfl
      have fA1 : w1.cell? ⟨w.heap.size, 1, none⟩ = some (.slice ad0 xs0.length cap0) := by rw [cell_of_row w1 _ 1 _ _ _ A_1.out]; rfl
      go_wp2_with fail
      clear fA0 fA1
      refine (toRegion_any _ _ _ xs0 _ hn0 (H0.out.below q1)).mono ?_
      rintro e w2 ⟨a2_, c2_, rfl, ho2, hb2⟩
      have z2 := hb2.size
      have q2 : Below w.heap.size w w2 := q1.trans (hb2.mono q1.size)
      have A_2 := Lib.hid ((hb2.block w.heap.size (lt_of_block A_1.out)).trans A_1.out)
      clear A_1
      have S0 := Lib.hid (Owned.of ho2)
      clear ho2
      have fA0 : w2.cell? ⟨w.heap.size, 0, none⟩ = some (.int .i64 a0) := by rw [cell_of_row w2 _ 0 _ _ _ A_2.out]; rfl
      have fA1 : w2.cell? ⟨w.heap.size, 1, none⟩ = some (.slice ad0 xs0.length cap0) := by rw [cell_of_row w2 _ 1 _ _ _ A_2.out]; rfl
      go_wp2_with fail
      clear fA0 fA1
      refine (toCellSS_any _ _ xs1 _ hn1 hl1 (H1.out.below q2)).mono ?_
      rintro e w3 ⟨a3_, c3_, rfl, ho3, hb3⟩
      have z3 := hb3.size
      have q3 : Below w.heap.size w w3 := q2.trans (hb3.mono q2.size)
      have S0_3 := Lib.hid (S0.out.below hb3 (by omega))
      clear S0
      have A_3 := Lib.hid ((hb3.block w.heap.size (lt_of_block A_2.out)).trans A_2.out)
      clear A_2
      have S1 := Lib.hid (OwnP.of ho3)
      clear ho3
      have fA0 : w3.cell? ⟨w.heap.size, 0, none⟩ = some (.int .i64 a0) := by rw [cell_of_row w3 _ 0 _ _ _ A_3.out]; rfl
      have fA1 : w3.cell? ⟨w.heap.size, 1, none⟩ = some (.slice ad0 xs0.length cap0) := by rw [cell_of_row w3 _ 1 _ _ _ A_3.out]; rfl
      go_wp2_with fail
      clear fA0 fA1
      refine (HS.out _ _ _ _ _ S0_3.out.le_cap S1.out.le_cap S0_3.out.cells S1.out.cells).mono ?_
      rintro e w4 ⟨rfl, hb4⟩
      have z4 := hb4.size
      have q4 : Below w.heap.size w w4 := q3.trans (hb4.mono q3.size)
      have S0_4 := Lib.hid (S0_3.out.below hb4 (by omega))
      clear S0_3
      have S1_4 := Lib.hid (S1.out.below hb4 (by omega))
      clear S1
      have A_4 := Lib.hid ((hb4.block w.heap.size (lt_of_block A_3.out)).trans A_3.out)
      clear A_3
      clear S0_4
      clear S1_4
      have fA0 : w4.cell? ⟨w.heap.size, 0, none⟩ = some (.int .i64 a0) := by rw [cell_of_row w4 _ 0 _ _ _ A_4.out]; rfl
      have fA1 : w4.cell? ⟨w.heap.size, 1, none⟩ = some (.slice ad0 xs0.length cap0) := by rw [cell_of_row w4 _ 1 _ _ _ A_4.out]; rfl
      go_wp2_with fail
      clear fA0 fA1
      refine (toRegion_any _ _ _ xs0 _ hn0 (H0.out.below q4)).mono ?_
      rintro e w5 ⟨a5_, c5_, rfl, ho5, hb5⟩
      have z5 := hb5.size
      have q5 : Below w.heap.size w w5 := q4.trans (hb5.mono q4.size)
      have A_5 := Lib.hid ((hb5.block w.heap.size (lt_of_block A_4.out)).trans A_4.out)
      clear A_4
      have X0 := Lib.hid (Owned.of ho5)
      clear ho5
      have fA0 : w5.cell? ⟨w.heap.size, 0, none⟩ = some (.int .i64 a0) := by rw [cell_of_row w5 _ 0 _ _ _ A_5.out]; rfl
      have fA1 : w5.cell? ⟨w.heap.size, 1, none⟩ = some (.slice ad0 xs0.length cap0) := by rw [cell_of_row w5 _ 1 _ _ _ A_5.out]; rfl
      go_wp2_with fail
      clear fA0 fA1
      have hb6 : Below w5.heap.size w5 (w5.alloc (.cells #[.int .i64 a0, .slice a5_ xs0.length c5_] 29)) := (Below.refl _ _).alloc (Nat.le_refl _) _
      have zb6 : (w5.alloc (.cells #[.int .i64 a0, .slice a5_ xs0.length c5_] 29)).heap.size = w5.heap.size + 1 := by simp
      have hbx : (w5.alloc (.cells #[.int .i64 a0, .slice a5_ xs0.length c5_] 29)).heap[w5.heap.size]? = some (.cells #[.int .i64 a0, .slice a5_ xs0.length c5_] 29 (0, 0)) := heap_alloc_new w5 _
      generalize w5.alloc (.cells #[.int .i64 a0, .slice a5_ xs0.length c5_] 29) = w6 at hb6 zb6 hbx ⊢
      have z6 := hb6.size
      have q6 : Below w.heap.size w w6 := q5.trans (hb6.mono q5.size)
      have X0_6 := Lib.hid (X0.out.below hb6 (by omega))
      clear X0
      have A_6 := Lib.hid ((hb6.block w.heap.size (lt_of_block A_5.out)).trans A_5.out)
      clear A_5
      have X0b_6 := Lib.hid hbx
      clear hbx
      refine (toCellSS_any _ _ xs1 _ hn1 hl1 (H1.out.below q6)).mono ?_
      rintro e w7 ⟨a7_, c7_, rfl, ho7, hb7⟩
      have z7 := hb7.size
      have q7 : Below w.heap.size w w7 := q6.trans (hb7.mono q6.size)
      have X0_7 := Lib.hid (X0_6.out.below hb7 (by omega))
      clear X0_6
      have A_7 := Lib.hid ((hb7.block w.heap.size (lt_of_block A_6.out)).trans A_6.out)
      clear A_6
      have X0b_7 := Lib.hid ((hb7.block w5.heap.size (lt_of_block X0b_6.out)).trans X0b_6.out)
      clear X0b_6
      have X1 := Lib.hid (OwnP.of ho7)
      clear ho7
      have fA0 : w7.cell? ⟨w.heap.size, 0, none⟩ = some (.int .i64 a0) := by rw [cell_of_row w7 _ 0 _ _ _ A_7.out]; rfl
      have fA1 : w7.cell? ⟨w.heap.size, 1, none⟩ = some (.slice ad0 xs0.length cap0) := by rw [cell_of_row w7 _ 1 _ _ _ A_7.out]; rfl
      have fX0b0 : w7.cell? ⟨w5.heap.size, 0, none⟩ = some (.int .i64 a0) := by rw [cell_of_row w7 _ 0 _ _ _ X0b_7.out]; rfl
      have fX0b1 : w7.cell? ⟨w5.heap.size, 1, none⟩ = some (.slice a5_ xs0.length c5_) := by rw [cell_of_row w7 _ 1 _ _ _ X0b_7.out]; rfl
      go_wp2_with fail
      clear fA0 fA1
      clear fX0b0 fX0b1
      refine (HI.out _ _ _ _ _ X0_7.out.le_cap X1.out.le_cap X0_7.out.cells X1.out.cells).mono ?_
      rintro e w8 ⟨rfl, hb8⟩
      have z8 := hb8.size
      have q8 : Below w.heap.size w w8 := q7.trans (hb8.mono q7.size)
      have X0_8 := Lib.hid (X0_7.out.below hb8 (by omega))
      clear X0_7
      have X1_8 := Lib.hid (X1.out.below hb8 (by omega))
      clear X1
      have A_8 := Lib.hid ((hb8.block w.heap.size (lt_of_block A_7.out)).trans A_7.out)
      clear A_7
      have X0b_8 := Lib.hid ((hb8.block w5.heap.size (lt_of_block X0b_7.out)).trans X0b_7.out)
      clear X0b_7
      have fA0 : w8.cell? ⟨w.heap.size, 0, none⟩ = some (.int .i64 a0) := by rw [cell_of_row w8 _ 0 _ _ _ A_8.out]; rfl
      have fA1 : w8.cell? ⟨w.heap.size, 1, none⟩ = some (.slice ad0 xs0.length cap0) := by rw [cell_of_row w8 _ 1 _ _ _ A_8.out]; rfl
      have fX0b0 : w8.cell? ⟨w5.heap.size, 0, none⟩ = some (.int .i64 a0) := by rw [cell_of_row w8 _ 0 _ _ _ X0b_8.out]; rfl
      have fX0b1 : w8.cell? ⟨w5.heap.size, 1, none⟩ = some (.slice a5_ xs0.length c5_) := by rw [cell_of_row w8 _ 1 _ _ _ X0b_8.out]; rfl
      go_wp2_with fail
      have hq9 : CellsAt (w8.drew) ad0 (ints xs0) := (show CellsAt w8 ad0 (ints xs0) from H0.out.below q8)
      have HQ9 := Lib.hid hq9
      clear hq9
      have hqx9 := Lib.hid X0_8.out
      go_region_held3 (fun w' => w'.cell? ⟨w.heap.size, 0, none⟩ = some (.int .i64 a0) ∧ w'.cell? ⟨w.heap.size, 1, none⟩ = some (.slice ad0 xs0.length cap0) ∧ w'.cell? ⟨w5.heap.size, 0, none⟩ = some (.int .i64 a0) ∧ w'.cell? ⟨w5.heap.size, 1, none⟩ = some (.slice a5_ xs0.length c5_))
        (first | go_keep | exact ⟨(hb9.cell (p := ⟨w.heap.size, 0, none⟩) (by have := lt_of_block A_8.out; simp; omega)).trans fA0, (hb9.cell (p := ⟨w.heap.size, 1, none⟩) (by have := lt_of_block A_8.out; simp; omega)).trans fA1, (hb9.cell (p := ⟨w5.heap.size, 0, none⟩) (by have := lt_of_block X0b_8.out; simp; omega)).trans fX0b0, (hb9.cell (p := ⟨w5.heap.size, 1, none⟩) (by have := lt_of_block X0b_8.out; simp; omega)).trans fX0b1⟩ | exact ⟨((Below.trans (Below.mono hb9 (Nat.le_refl _)) (hb10.mono hb9.size)).cell (p := ⟨w.heap.size, 0, none⟩) (by have := lt_of_block A_8.out; simp; omega)).trans fA0, ((Below.trans (Below.mono hb9 (Nat.le_refl _)) (hb10.mono hb9.size)).cell (p := ⟨w.heap.size, 1, none⟩) (by have := lt_of_block A_8.out; simp; omega)).trans fA1, ((Below.trans (Below.mono hb9 (Nat.le_refl _)) (hb10.mono hb9.size)).cell (p := ⟨w5.heap.size, 0, none⟩) (by have := lt_of_block X0b_8.out; simp; omega)).trans fX0b0, ((Below.trans (Below.mono hb9 (Nat.le_refl _)) (hb10.mono hb9.size)).cell (p := ⟨w5.heap.size, 1, none⟩) (by have := lt_of_block X0b_8.out; simp; omega)).trans fX0b1⟩)
        (first | (go_at_call 9; refine (toRegion_any _ _ _ xs0 _ hn0 HQ9.out).mono ?_; rintro e w9 ⟨a9_, c9_, rfl, ho9, hb9⟩) | (go_at_call 12; refine (eqRegion_same _ _ _ _ _ xs0 _ hn0 (CellsAt.below (w := w8.drew) (Owned.cells (w := w8) X0_8.out) hb9) (ownsRow_cellsAt ho9)).mono ?_; rintro e w10 ⟨rfl, hb10⟩))
      clear HQ9
      clear fA0 fA1
      clear fX0b0 fX0b1
      have hb9_ : Below w8.heap.size w8 w9 := (Below.refl _ _).drew.trans (hb9.mono (Nat.le_refl _))
      clear hb9
      have hb9 := hb9_
      have z9 := hb9.size
      have q9 : Below w.heap.size w w9 := q8.trans (hb9.mono q8.size)
      have X0_9 := Lib.hid (X0_8.out.below hb9 (by omega))
      clear X0_8
      have X1_9 := Lib.hid (X1_8.out.below hb9 (by omega))
      clear X1_8
      have A_9 := Lib.hid ((hb9.block w.heap.size (lt_of_block A_8.out)).trans A_8.out)
      clear A_8
      have X0b_9 := Lib.hid ((hb9.block w5.heap.size (lt_of_block X0b_8.out)).trans X0b_8.out)
      clear X0b_8
      have z10 := hb10.size
      have q10 : Below w.heap.size w w10 := q9.trans (hb10.mono q9.size)
      have X0_10 := Lib.hid (X0_9.out.below hb10 (by omega))
      clear X0_9
      have X1_10 := Lib.hid (X1_9.out.below hb10 (by omega))
      clear X1_9
      have A_10 := Lib.hid ((hb10.block w.heap.size (lt_of_block A_9.out)).trans A_9.out)
      clear A_9
      have X0b_10 := Lib.hid ((hb10.block w5.heap.size (lt_of_block X0b_9.out)).trans X0b_9.out)
      clear X0b_9
      have fA0 : w10.cell? ⟨w.heap.size, 0, none⟩ = some (.int .i64 a0) := by rw [cell_of_row w10 _ 0 _ _ _ A_10.out]; rfl
      have fA1 : w10.cell? ⟨w.heap.size, 1, none⟩ = some (.slice ad0 xs0.length cap0) := by rw [cell_of_row w10 _ 1 _ _ _ A_10.out]; rfl
      have fX0b0 : w10.cell? ⟨w5.heap.size, 0, none⟩ = some (.int .i64 a0) := by rw [cell_of_row w10 _ 0 _ _ _ X0b_10.out]; rfl
      have fX0b1 : w10.cell? ⟨w5.heap.size, 1, none⟩ = some (.slice a5_ xs0.length c5_) := by rw [cell_of_row w10 _ 1 _ _ _ X0b_10.out]; rfl
      go_wp2_with fail
      clear fA0 fA1
      clear fX0b0 fX0b1
      refine (toCellSS_any _ _ xs1 _ hn1 hl1 (H1.out.below q10)).mono ?_
      rintro e w11 ⟨a11_, c11_, rfl, ho11, hb11⟩
      have z11 := hb11.size
      have q11 : Below w.heap.size w w11 := q10.trans (hb11.mono q10.size)
      have X0_11 := Lib.hid (X0_10.out.below hb11 (by omega))
      clear X0_10
      have X1_11 := Lib.hid (X1_10.out.below hb11 (by omega))
      clear X1_10
      have A_11 := Lib.hid ((hb11.block w.heap.size (lt_of_block A_10.out)).trans A_10.out)
      clear A_10
      have X0b_11 := Lib.hid ((hb11.block w5.heap.size (lt_of_block X0b_10.out)).trans X0b_10.out)
      clear X0b_10
      have Y1 := Lib.hid (OwnP.of ho11)
      clear ho11
      have fA0 : w11.cell? ⟨w.heap.size, 0, none⟩ = some (.int .i64 a0) := by rw [cell_of_row w11 _ 0 _ _ _ A_11.out]; rfl
      have fA1 : w11.cell? ⟨w.heap.size, 1, none⟩ = some (.slice ad0 xs0.length cap0) := by rw [cell_of_row w11 _ 1 _ _ _ A_11.out]; rfl
      have fX0b0 : w11.cell? ⟨w5.heap.size, 0, none⟩ = some (.int .i64 a0) := by rw [cell_of_row w11 _ 0 _ _ _ X0b_11.out]; rfl
      have fX0b1 : w11.cell? ⟨w5.heap.size, 1, none⟩ = some (.slice a5_ xs0.length c5_) := by rw [cell_of_row w11 _ 1 _ _ _ X0b_11.out]; rfl
      go_wp2_with fail
      clear fA0 fA1
      clear fX0b0 fX0b1
      refine (eqCellSS_same _ _ _ _ xs1 _ hn1 hl1 X1_11.out.cells Y1.out.cells).mono ?_
      rintro e w12 ⟨rfl, hb12⟩
      have z12 := hb12.size
      have q12 : Below w.heap.size w w12 := q11.trans (hb12.mono q11.size)
      have X0_12 := Lib.hid (X0_11.out.below hb12 (by omega))
      clear X0_11
      have X1_12 := Lib.hid (X1_11.out.below hb12 (by omega))
      clear X1_11
      have Y1_12 := Lib.hid (Y1.out.below hb12 (by omega))
      clear Y1
      have A_12 := Lib.hid ((hb12.block w.heap.size (lt_of_block A_11.out)).trans A_11.out)
      clear A_11
      have X0b_12 := Lib.hid ((hb12.block w5.heap.size (lt_of_block X0b_11.out)).trans X0b_11.out)
      clear X0b_11
      clear Y1_12
      have fA0 : w12.cell? ⟨w.heap.size, 0, none⟩ = some (.int .i64 a0) := by rw [cell_of_row w12 _ 0 _ _ _ A_12.out]; rfl
      have fA1 : w12.cell? ⟨w.heap.size, 1, none⟩ = some (.slice ad0 xs0.length cap0) := by rw [cell_of_row w12 _ 1 _ _ _ A_12.out]; rfl
      have fX0b0 : w12.cell? ⟨w5.heap.size, 0, none⟩ = some (.int .i64 a0) := by rw [cell_of_row w12 _ 0 _ _ _ X0b_12.out]; rfl
      have fX0b1 : w12.cell? ⟨w5.heap.size, 1, none⟩ = some (.slice a5_ xs0.length c5_) := by rw [cell_of_row w12 _ 1 _ _ _ X0b_12.out]; rfl
      go_wp2_with fail
      clear fA0 fA1
      clear fX0b0 fX0b1
      go_ret
      exact ⟨rfl, q12⟩
    · skip
      go_enter Tryz.func3, Tryz.ntmps3
      go_wp2_with fail
      have q0 : Below w.heap.size w (w.alloc (.cells #[.int .i64 a0, .slice ad0 xs0.length cap0] 24)) := (Below.refl _ _).alloc (Nat.le_refl _) _
      have z0 : (w.alloc (.cells #[.int .i64 a0, .slice ad0 xs0.length cap0] 24)).heap.size = w.heap.size + 1 := by simp
      have hbx : (w.alloc (.cells #[.int .i64 a0, .slice ad0 xs0.length cap0] 24)).heap[w.heap.size]? = some (.cells #[.int .i64 a0, .slice ad0 xs0.length cap0] 24 (0, 0)) := heap_alloc_new w _
      generalize w.alloc (.cells #[.int .i64 a0, .slice ad0 xs0.length cap0] 24) = w0 at q0 z0 hbx ⊢
      have A0_0 := Lib.hid hbx
      clear hbx
      refine (szRegion_any _ _ _ _ _ _ hm0 (by omega) (by omega)).mono ?_
      rw [if_neg (by omega)]
      rintro e w1 ⟨rfl, hb1⟩
      have z1 := hb1.size
      have q1 : Below w.heap.size w w1 := q0.trans (hb1.mono q0.size)
      have A_1 := Lib.hid ((hb1.block w.heap.size (lt_of_block A0_0.out)).trans A0_0.out)
      clear A0_0
      have fA0 : w1.cell? ⟨w.heap.size, 0, none⟩ = some (.int .i64 a0) := by rw [cell_of_row w1 _ 0 _ _ _ A_1.out]; rfl
      have fA1 : w1.cell? ⟨w.heap.size, 1, none⟩ = some (.slice ad0 xs0.length cap0) := by rw [cell_of_row w1 _ 1 _ _ _ A_1.out]; rfl
      go_wp2_with fail
      clear fA0 fA1
      refine (szCellSS_any _ _ _ _ _ hm1 hw1 (by omega) (by omega) (H1.out.below q1)).mono ?_
      rw [if_pos (by omega)]
      rintro e w' ⟨rfl, rfl⟩
      have fA0 : w1.cell? ⟨w.heap.size, 0, none⟩ = some (.int .i64 a0) := by rw [cell_of_row w1 _ 0 _ _ _ A_1.out]; rfl
      have fA1 : w1.cell? ⟨w.heap.size, 1, none⟩ = some (.slice ad0 xs0.length cap0) := by rw [cell_of_row w1 _ 1 _ _ _ A_1.out]; rfl
      go_wp2_with fail
      clear fA0 fA1
      go_ret
      exact ⟨rfl, q1⟩
  · skip
    go_enter Tryz.func3, Tryz.ntmps3
    go_wp2_with fail
    have q0 : Below w.heap.size w (w.alloc (.cells #[.int .i64 a0, .slice ad0 xs0.length cap0] 24)) := (Below.refl _ _).alloc (Nat.le_refl _) _
    have z0 : (w.alloc (.cells #[.int .i64 a0, .slice ad0 xs0.length cap0] 24)).heap.size = w.heap.size + 1 := by simp
    have hbx : (w.alloc (.cells #[.int .i64 a0, .slice ad0 xs0.length cap0] 24)).heap[w.heap.size]? = some (.cells #[.int .i64 a0, .slice ad0 xs0.length cap0] 24 (0, 0)) := heap_alloc_new w _
    generalize w.alloc (.cells #[.int .i64 a0, .slice ad0 xs0.length cap0] 24) = w0 at q0 z0 hbx ⊢
    have A0_0 := Lib.hid hbx
    clear hbx
    refine (szRegion_any _ _ _ _ _ _ hm0 (by omega) (by omega)).mono ?_
    rw [if_pos (by omega)]
    rintro e w1 ⟨rfl, hb1⟩
    have z1 := hb1.size
    have q1 : Below w.heap.size w w1 := q0.trans (hb1.mono q0.size)
    have A_1 := Lib.hid ((hb1.block w.heap.size (lt_of_block A0_0.out)).trans A0_0.out)
    clear A0_0
    have fA0 : w1.cell? ⟨w.heap.size, 0, none⟩ = some (.int .i64 a0) := by rw [cell_of_row w1 _ 0 _ _ _ A_1.out]; rfl
    have fA1 : w1.cell? ⟨w.heap.size, 1, none⟩ = some (.slice ad0 xs0.length cap0) := by rw [cell_of_row w1 _ 1 _ _ _ A_1.out]; rfl
    go_wp2_with fail
    clear fA0 fA1
    go_ret
    exact ⟨rfl, q1⟩

set_option maxRecDepth 100000 in
theorem lifted (os : Os) (started : os.Started) (H : Type) (enc : TypeId × Value → H) :
    ReturnsInHanded {} Tryz.checked os 3 .any (Rows.fnExactCountPackedSpec.pre6 enc Tryz.prog Tryz.f3 Rows.fnExactCountPackedRow.domain false) (Rows.fnExactCountPackedSpec.post enc Tryz.prog Tryz.f3 false true false false) := by
  refine returnsInHanded_of_change (C := Tryz.checked) Tryz.own started (by kernel_rfl) Tryz.func3
    (ChangeSpec.witness6 (enc := enc) (C := Tryz.checked) false ⟨#[], #[.agg #[.int .i64 0, .slice none 0 0], .slice none 0 0], []⟩ 8 (by kernel_rfl) (by kernel_rfl) (by kernel_rfl) (by kernel_rfl)) ?_
  intro W base args ds gs before hval0 hW hcnd _
  have hval : ∀ (j : Nat) t v, Tryz.f3.params[j]? = some t → args[j]? = some v → Value.okWide Tryz.prog W .any base t v := hval0
  have hW' := hW
  obtain ⟨p, q, hA0, hV, rfl, hfz, hnd⟩ := hW
  have hA : DataW.TrodAll enc Tryz.prog W 0 (fun _ => true) true Tryz.f3.params.toList args.toList ds p := hA0
  rw [Tryz.params3] at hA hval
  obtain ⟨v0, vs0, d0, ds0, p0, q0, hargs, rfl, rfl, h0, r0⟩ := trodAll_cons hA
  obtain ⟨v1, vs1, d1, ds1, p1, q1, rfl, rfl, rfl, h1, r1⟩ := trodAll_cons r0
  obtain ⟨rfl, rfl, rfl⟩ := trodAll_nil r1
  obtain rfl : args = #[v0, v1] := by cases args; simp_all
  obtain ⟨rfl, rfl⟩ := trodVars_none hV
  obtain ⟨a0, ad0, cap0, xs0, rfl, w0, hm0, hc0, hw0⟩ := openRegion (hval 0 24 v0 rfl rfl) h0
  obtain ⟨ad1, cap1, xs1, rfl, hm1, hc1, hw1⟩ := openShps (hval 1 25 v1 rfl rfl) h1
  clear hA0 hval0
  refine (walk W a0 w0 ad0 cap0 xs0 hm0 hc0 hw0 ad1 cap1 xs1 hm1 hc1 hw1).mono fun e W' ⟨he, hb⟩ => ?_
  subst he
  exact ⟨_, rfl, law_post rfl hW' hb (by rw [Tryz.params3]; exact readable_all (by kernel_rfl)) (by kernel_rfl) (by kernel_rfl) rfl⟩

theorem proved : Rows.FnExactCountPackedSaid :=
  OpenClaim.holds_of_wide 3 Tryz.f3 rfl rfl rfl rfl rfl rfl rfl ⟨rfl, rfl, rfl, rfl, rfl⟩ rfl rfl rfl rfl rfl (by kernel_rfl) Tryz.func3 (by kernel_rfl)
    (of_decide_eq_true (by kernel_rfl)) (by unfold Func.isWrapper; first | (rw [if_pos (by decide +kernel)]; kernel_rfl) | (rw [if_neg (by decide +kernel)]; exact ⟨rfl, rfl⟩))
    (fun os started H enc _ => lifted os started H enc)
end Go.Proofs.YtcoggnoeafpgbaaGreat.lawCP
