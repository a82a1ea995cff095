/- LawLP: the program's LargestPacking returns what the reference's returns, for every region and all pieces; no condition. -/
import Derived.Test.YtcoggnoeafpgbaaGreatAllHead
import Derived.Test.YtcoggnoeafpgbaaGreatAllFrame
import Derived.Test.YtcoggnoeafpgbaaGreatFrameShp
import Derived.Test.YtcoggnoeafpgbaaGreatShpsLaw
import Derived.Test.YtcoggnoeafpgbaaGreatAllMarkI
import Derived.Test.YtcoggnoeafpgbaaGreatAllMarkP
import Derived.Test.YtcoggnoeafpgbaaGreatPackJ
import Derived.Deep.RegionHeld3
namespace Go.Proofs.YtcoggnoeafpgbaaGreat.lawLP
open Go.ChangeShapes Go.WideShapes Go.ChangeAt Go.RowKit

theorem both (b : Int) (_wb : (Lit.int .i64 b).wf = true) (xs : List Int) (_hw : ∀ x ∈ xs, (Lit.int .i64 x).wf = true) (hn : xs.length ≤ 1048576) (ps : List (List Cl)) (hnp : ps.length ≤ 1048576) (hl : ∀ p ∈ ps, p.length ≤ 1048576) :
    ∃ (r0 : List Int) (r1 : Bool), r0.length ≤ 1500 ∧
      (∀ w ad cap al cl, xs.length ≤ cap → ps.length ≤ cl → CellsAt w ad (ints xs) → ShpsAt w al ps → Calls Tryz.prog 14 #[.agg #[.int .i64 b, .slice ad xs.length cap], .slice al ps.length cl] w fun e w' => ∃ ad' cap', e = .returned (.tuple #[.slice ad' r0.length cap', .bool r1]) ∧ w'.ownsRow w.heap.size 3 1 (.slice ad' r0.length cap') r0.length (ints r0) ∧ Below w.heap.size w w') ∧
      ∀ w ad cap al cl, xs.length ≤ cap → ps.length ≤ cl → CellsAt w ad (ints xs) → ShpsAt w al ps → Calls Tryz.prog 15 #[.agg #[.int .i64 b, .slice ad xs.length cap], .slice al ps.length cl] w fun e w' => ∃ ad' cap', e = .returned (.tuple #[.slice ad' r0.length cap', .bool r1]) ∧ w'.ownsRow w.heap.size 3 1 (.slice ad' r0.length cap') r0.length (ints r0) ∧ Below w.heap.size w w' :=
  ⟨lpR b xs ps, decide (SmallP b xs ps), (lpR_wf b xs ps).1, fun w ad cap al cl _ _ h1 h2 => specLP b ad cap xs al cl ps w hn hnp hl h1 h2, fun w ad cap al cl _ _ h1 h2 => implLP b ad cap xs al cl ps w hn hnp hl h1 h2⟩

set_option maxRecDepth 100000 in
set_option maxHeartbeats 4000000 in
theorem walk (w : World) (a0 : Int) (w0_ : (Lit.int .i64 a0).wf = true) (ad0 : Option Addr) (cap0 : Nat) (xs0 : List Int) (hm0 : xs0.length ≤ maxLen) (hc0 : CellsAt w ad0 (ints xs0)) (hw0 : ∀ x ∈ xs0, (Lit.int .i64 x).wf = true) (ad1 : Option Addr) (cap1 : Nat) (xs1 : List (List Cl)) (hm1 : xs1.length ≤ maxLen) (hc1 : ShpsAt w ad1 xs1) (hw1 : ∀ q ∈ xs1, q.length ≤ maxLen) :
    Calls Tryz.prog 4 #[.agg #[.int .i64 a0, .slice ad0 xs0.length cap0], .slice ad1 xs1.length cap1] w fun e w' => e = .returned (.bool true) ∧ Below w.heap.size w w' := by
  unfold maxLen at hm0
  unfold maxLen at hm1
  unfold maxLen at hw1
  have H0 := Lib.hid hc0
  clear hc0
  have H1 := Lib.hid hc1
  clear hc1
  by_cases hn0_ : xs0.length ≤ 1048576
  · skip
    by_cases hn1_ : xs0.length + tot xs1 ≤ 1048576
    · skip
      have hn0 : xs0.length ≤ 1048576 := by omega
      have hl1 : ∀ q ∈ xs1, q.length ≤ 1048576 := fun q hq => by have := tot_mem hq; omega
      have hn1 : xs1.length ≤ 1048576 := by have := tot_len xs1; omega
      obtain ⟨r0, r1, HL, hs, hi⟩ := both a0 w0_ xs0 hw0 hn0 xs1 hn1 hl1
      have HS := Lib.hid hs
      have HI := Lib.hid hi
      clear hs hi hw0
      have nn1 : (r1 != r1) = false := by simp
      go_enter Tryz.func4, Tryz.ntmps4
      go_wp2_with fail
      have q0 : Below w.heap.size w (w.alloc (.cells #[.int .i64 a0, .slice ad0 xs0.length cap0] 24)) := (Below.refl _ _).alloc (Nat.le_refl _) _
      have z0 : (w.alloc (.cells #[.int .i64 a0, .slice ad0 xs0.length cap0] 24)).heap.size = w.heap.size + 1 := by simp
      have hbx : (w.alloc (.cells #[.int .i64 a0, .slice ad0 xs0.length cap0] 24)).heap[w.heap.size]? = some (.cells #[.int .i64 a0, .slice ad0 xs0.length cap0] 24 (0, 0)) := heap_alloc_new w _
      generalize w.alloc (.cells #[.int .i64 a0, .slice ad0 xs0.length cap0] 24) = w0 at q0 z0 hbx ⊢
      have A0_0 := Lib.hid hbx
      clear hbx
      refine (szRegion_any _ _ _ _ _ _ hm0 (by omega) (by omega)).mono ?_
      rw [if_neg (by omega)]
      rintro e w1 ⟨rfl, hb1⟩
      have z1 := hb1.size
      have q1 : Below w.heap.size w w1 := q0.trans (hb1.mono q0.size)
      have A_1 := Lib.hid ((hb1.block w.heap.size (lt_of_block A0_0.out)).trans A0_0.out)
      clear A0_0
      have fA0 : w1.cell? ⟨w.heap.size, 0, none⟩ = some (.int .i64 a0) := by rw [cell_of_row w1 _ 0 _ _ _ A_1.out]; rfl
      have fA1 : w1.cell? ⟨w.heap.size, 1, none⟩ = some (.slice ad0 xs0.length cap0) := by rw [cell_of_row w1 _ 1 _ _ _ A_1.out]; rfl
      go_wp2_with fail
      clear fA0 fA1
      refine (szCellSS_any _ _ _ _ _ hm1 hw1 (by omega) (by omega) (H1.out.below q1)).mono ?_
      rw [if_neg (by omega)]
      rintro e w' ⟨rfl, rfl⟩
      have fA0 : w1.cell? ⟨w.heap.size, 0, none⟩ = some (.int .i64 a0) := by rw [cell_of_row w1 _ 0 _ _ _ A_1.out]; rfl
      have fA1 : w1.cell? ⟨w.heap.size, 1, none⟩ = some (.slice ad0 xs0.length cap0) := by rw [cell_of_row w1 _ 1 _ _ _ A_1.out]; rfl
      go_wp2_with fail
      clear fA0 fA1
      refine (toRegion_any _ _ _ xs0 _ hn0 (H0.out.below q1)).mono ?_
      rintro e w2 ⟨a2_, c2_, rfl, ho2, hb2⟩
      have z2 := hb2.size
      have q2 : Below w.heap.size w w2 := q1.trans (hb2.mono q1.size)
      have A_2 := Lib.hid ((hb2.block w.heap.size (lt_of_block A_1.out)).trans A_1.out)
      clear A_1
      have S0 := Lib.hid (Owned.of ho2)
      clear ho2
      have fA0 : w2.cell? ⟨w.heap.size, 0, none⟩ = some (.int .i64 a0) := by rw [cell_of_row w2 _ 0 _ _ _ A_2.out]; rfl
      have fA1 : w2.cell? ⟨w.heap.size, 1, none⟩ = some (.slice ad0 xs0.length cap0) := by rw [cell_of_row w2 _ 1 _ _ _ A_2.out]; rfl
      go_wp2_with fail
      clear fA0 fA1
      refine (toCellSS_any _ _ xs1 _ hn1 hl1 (H1.out.below q2)).mono ?_
      rintro e w3 ⟨a3_, c3_, rfl, ho3, hb3⟩
      have z3 := hb3.size
      have q3 : Below w.heap.size w w3 := q2.trans (hb3.mono q2.size)
      have S0_3 := Lib.hid (S0.out.below hb3 (by omega))
      clear S0
      have A_3 := Lib.hid ((hb3.block w.heap.size (lt_of_block A_2.out)).trans A_2.out)
      clear A_2
      have S1 := Lib.hid (OwnP.of ho3)
      clear ho3
      have fA0 : w3.cell? ⟨w.heap.size, 0, none⟩ = some (.int .i64 a0) := by rw [cell_of_row w3 _ 0 _ _ _ A_3.out]; rfl
      have fA1 : w3.cell? ⟨w.heap.size, 1, none⟩ = some (.slice ad0 xs0.length cap0) := by rw [cell_of_row w3 _ 1 _ _ _ A_3.out]; rfl
      go_wp2_with fail
      clear fA0 fA1
      refine (HS.out _ _ _ _ _ S0_3.out.le_cap S1.out.le_cap S0_3.out.cells S1.out.cells).mono ?_
      rintro e w4 ⟨b4_0, d4_0, rfl, ho4_0, hb4⟩
      have z4 := hb4.size
      have q4 : Below w.heap.size w w4 := q3.trans (hb4.mono q3.size)
      have S0_4 := Lib.hid (S0_3.out.below hb4 (by omega))
      clear S0_3
      have S1_4 := Lib.hid (S1.out.below hb4 (by omega))
      clear S1
      have A_4 := Lib.hid ((hb4.block w.heap.size (lt_of_block A_3.out)).trans A_3.out)
      clear A_3
      have R0 := Lib.hid (Owned.of ho4_0)
      clear ho4_0
      clear S0_4
      clear S1_4
      have fA0 : w4.cell? ⟨w.heap.size, 0, none⟩ = some (.int .i64 a0) := by rw [cell_of_row w4 _ 0 _ _ _ A_4.out]; rfl
      have fA1 : w4.cell? ⟨w.heap.size, 1, none⟩ = some (.slice ad0 xs0.length cap0) := by rw [cell_of_row w4 _ 1 _ _ _ A_4.out]; rfl
      go_wp2_with fail
      clear fA0 fA1
      refine (toRegion_any _ _ _ xs0 _ hn0 (H0.out.below q4)).mono ?_
      rintro e w5 ⟨a5_, c5_, rfl, ho5, hb5⟩
      have z5 := hb5.size
      have q5 : Below w.heap.size w w5 := q4.trans (hb5.mono q4.size)
      have R0_5 := Lib.hid (R0.out.below hb5 (by omega))
      clear R0
      have A_5 := Lib.hid ((hb5.block w.heap.size (lt_of_block A_4.out)).trans A_4.out)
      clear A_4
      have X0 := Lib.hid (Owned.of ho5)
      clear ho5
      have fA0 : w5.cell? ⟨w.heap.size, 0, none⟩ = some (.int .i64 a0) := by rw [cell_of_row w5 _ 0 _ _ _ A_5.out]; rfl
      have fA1 : w5.cell? ⟨w.heap.size, 1, none⟩ = some (.slice ad0 xs0.length cap0) := by rw [cell_of_row w5 _ 1 _ _ _ A_5.out]; rfl
      go_wp2_with fail
      clear fA0 fA1
      have hb6 : Below w5.heap.size w5 (w5.alloc (.cells #[.int .i64 a0, .slice a5_ xs0.length c5_] 29)) := (Below.refl _ _).alloc (Nat.le_refl _) _
      have zb6 : (w5.alloc (.cells #[.int .i64 a0, .slice a5_ xs0.length c5_] 29)).heap.size = w5.heap.size + 1 := by simp
      have hbx : (w5.alloc (.cells #[.int .i64 a0, .slice a5_ xs0.length c5_] 29)).heap[w5.heap.size]? = some (.cells #[.int .i64 a0, .slice a5_ xs0.length c5_] 29 (0, 0)) := heap_alloc_new w5 _
      generalize w5.alloc (.cells #[.int .i64 a0, .slice a5_ xs0.length c5_] 29) = w6 at hb6 zb6 hbx ⊢
      have z6 := hb6.size
      have q6 : Below w.heap.size w w6 := q5.trans (hb6.mono q5.size)
      have R0_6 := Lib.hid (R0_5.out.below hb6 (by omega))
      clear R0_5
      have X0_6 := Lib.hid (X0.out.below hb6 (by omega))
      clear X0
      have A_6 := Lib.hid ((hb6.block w.heap.size (lt_of_block A_5.out)).trans A_5.out)
      clear A_5
      have X0b_6 := Lib.hid hbx
      clear hbx
      refine (toCellSS_any _ _ xs1 _ hn1 hl1 (H1.out.below q6)).mono ?_
      rintro e w7 ⟨a7_, c7_, rfl, ho7, hb7⟩
      have z7 := hb7.size
      have q7 : Below w.heap.size w w7 := q6.trans (hb7.mono q6.size)
      have R0_7 := Lib.hid (R0_6.out.below hb7 (by omega))
      clear R0_6
      have X0_7 := Lib.hid (X0_6.out.below hb7 (by omega))
      clear X0_6
      have A_7 := Lib.hid ((hb7.block w.heap.size (lt_of_block A_6.out)).trans A_6.out)
      clear A_6
      have X0b_7 := Lib.hid ((hb7.block w5.heap.size (lt_of_block X0b_6.out)).trans X0b_6.out)
      clear X0b_6
      have X1 := Lib.hid (OwnP.of ho7)
      clear ho7
      have fA0 : w7.cell? ⟨w.heap.size, 0, none⟩ = some (.int .i64 a0) := by rw [cell_of_row w7 _ 0 _ _ _ A_7.out]; rfl
      have fA1 : w7.cell? ⟨w.heap.size, 1, none⟩ = some (.slice ad0 xs0.length cap0) := by rw [cell_of_row w7 _ 1 _ _ _ A_7.out]; rfl
      have fX0b0 : w7.cell? ⟨w5.heap.size, 0, none⟩ = some (.int .i64 a0) := by rw [cell_of_row w7 _ 0 _ _ _ X0b_7.out]; rfl
      have fX0b1 : w7.cell? ⟨w5.heap.size, 1, none⟩ = some (.slice a5_ xs0.length c5_) := by rw [cell_of_row w7 _ 1 _ _ _ X0b_7.out]; rfl
      go_wp2_with fail
      clear fA0 fA1
      clear fX0b0 fX0b1
      refine (HI.out _ _ _ _ _ X0_7.out.le_cap X1.out.le_cap X0_7.out.cells X1.out.cells).mono ?_
      rintro e w8 ⟨b8_0, d8_0, rfl, ho8_0, hb8⟩
      have z8 := hb8.size
      have q8 : Below w.heap.size w w8 := q7.trans (hb8.mono q7.size)
      have R0_8 := Lib.hid (R0_7.out.below hb8 (by omega))
      clear R0_7
      have X0_8 := Lib.hid (X0_7.out.below hb8 (by omega))
      clear X0_7
      have X1_8 := Lib.hid (X1.out.below hb8 (by omega))
      clear X1
      have A_8 := Lib.hid ((hb8.block w.heap.size (lt_of_block A_7.out)).trans A_7.out)
      clear A_7
      have X0b_8 := Lib.hid ((hb8.block w5.heap.size (lt_of_block X0b_7.out)).trans X0b_7.out)
      clear X0b_7
      have G0 := Lib.hid (Owned.of ho8_0)
      clear ho8_0
      have fA0 : w8.cell? ⟨w.heap.size, 0, none⟩ = some (.int .i64 a0) := by rw [cell_of_row w8 _ 0 _ _ _ A_8.out]; rfl
      have fA1 : w8.cell? ⟨w.heap.size, 1, none⟩ = some (.slice ad0 xs0.length cap0) := by rw [cell_of_row w8 _ 1 _ _ _ A_8.out]; rfl
      have fX0b0 : w8.cell? ⟨w5.heap.size, 0, none⟩ = some (.int .i64 a0) := by rw [cell_of_row w8 _ 0 _ _ _ X0b_8.out]; rfl
      have fX0b1 : w8.cell? ⟨w5.heap.size, 1, none⟩ = some (.slice a5_ xs0.length c5_) := by rw [cell_of_row w8 _ 1 _ _ _ X0b_8.out]; rfl
      go_wp2_with fail
      clear fA0 fA1
      clear fX0b0 fX0b1
      refine (eqIntS_same _ _ _ _ r0 _ (by omega) G0.out.cells R0_8.out.cells).mono ?_
      rintro e w9 ⟨rfl, hb9⟩
      have z9 := hb9.size
      have q9 : Below w.heap.size w w9 := q8.trans (hb9.mono q8.size)
      have R0_9 := Lib.hid (R0_8.out.below hb9 (by omega))
      clear R0_8
      have X0_9 := Lib.hid (X0_8.out.below hb9 (by omega))
      clear X0_8
      have X1_9 := Lib.hid (X1_8.out.below hb9 (by omega))
      clear X1_8
      have G0_9 := Lib.hid (G0.out.below hb9 (by omega))
      clear G0
      have A_9 := Lib.hid ((hb9.block w.heap.size (lt_of_block A_8.out)).trans A_8.out)
      clear A_8
      have X0b_9 := Lib.hid ((hb9.block w5.heap.size (lt_of_block X0b_8.out)).trans X0b_8.out)
      clear X0b_8
      have fA0 : w9.cell? ⟨w.heap.size, 0, none⟩ = some (.int .i64 a0) := by rw [cell_of_row w9 _ 0 _ _ _ A_9.out]; rfl
      have fA1 : w9.cell? ⟨w.heap.size, 1, none⟩ = some (.slice ad0 xs0.length cap0) := by rw [cell_of_row w9 _ 1 _ _ _ A_9.out]; rfl
      have fX0b0 : w9.cell? ⟨w5.heap.size, 0, none⟩ = some (.int .i64 a0) := by rw [cell_of_row w9 _ 0 _ _ _ X0b_9.out]; rfl
      have fX0b1 : w9.cell? ⟨w5.heap.size, 1, none⟩ = some (.slice a5_ xs0.length c5_) := by rw [cell_of_row w9 _ 1 _ _ _ X0b_9.out]; rfl
      go_wp2_with fail
      have hq10 : CellsAt (w9.drew) ad0 (ints xs0) := (show CellsAt w9 ad0 (ints xs0) from H0.out.below q9)
      have HQ10 := Lib.hid hq10
      clear hq10
      have hqx10 := Lib.hid X0_9.out
      go_region_held3 (fun w' => w'.cell? ⟨w.heap.size, 0, none⟩ = some (.int .i64 a0) ∧ w'.cell? ⟨w.heap.size, 1, none⟩ = some (.slice ad0 xs0.length cap0) ∧ w'.cell? ⟨w5.heap.size, 0, none⟩ = some (.int .i64 a0) ∧ w'.cell? ⟨w5.heap.size, 1, none⟩ = some (.slice a5_ xs0.length c5_))
        (first | go_keep | exact ⟨(hb10.cell (p := ⟨w.heap.size, 0, none⟩) (by have := lt_of_block A_9.out; simp; omega)).trans fA0, (hb10.cell (p := ⟨w.heap.size, 1, none⟩) (by have := lt_of_block A_9.out; simp; omega)).trans fA1, (hb10.cell (p := ⟨w5.heap.size, 0, none⟩) (by have := lt_of_block X0b_9.out; simp; omega)).trans fX0b0, (hb10.cell (p := ⟨w5.heap.size, 1, none⟩) (by have := lt_of_block X0b_9.out; simp; omega)).trans fX0b1⟩ | exact ⟨((Below.trans (Below.mono hb10 (Nat.le_refl _)) (hb11.mono hb10.size)).cell (p := ⟨w.heap.size, 0, none⟩) (by have := lt_of_block A_9.out; simp; omega)).trans fA0, ((Below.trans (Below.mono hb10 (Nat.le_refl _)) (hb11.mono hb10.size)).cell (p := ⟨w.heap.size, 1, none⟩) (by have := lt_of_block A_9.out; simp; omega)).trans fA1, ((Below.trans (Below.mono hb10 (Nat.le_refl _)) (hb11.mono hb10.size)).cell (p := ⟨w5.heap.size, 0, none⟩) (by have := lt_of_block X0b_9.out; simp; omega)).trans fX0b0, ((Below.trans (Below.mono hb10 (Nat.le_refl _)) (hb11.mono hb10.size)).cell (p := ⟨w5.heap.size, 1, none⟩) (by have := lt_of_block X0b_9.out; simp; omega)).trans fX0b1⟩)
        (first | (go_at_call 9; refine (toRegion_any _ _ _ xs0 _ hn0 HQ10.out).mono ?_; rintro e w10 ⟨a10_, c10_, rfl, ho10, hb10⟩) | (go_at_call 12; refine (eqRegion_same _ _ _ _ _ xs0 _ hn0 (CellsAt.below (w := w9.drew) (Owned.cells (w := w9) X0_9.out) hb10) (ownsRow_cellsAt ho10)).mono ?_; rintro e w11 ⟨rfl, hb11⟩))
      clear HQ10
      clear fA0 fA1
      clear fX0b0 fX0b1
      have hb10_ : Below w9.heap.size w9 w10 := (Below.refl _ _).drew.trans (hb10.mono (Nat.le_refl _))
      clear hb10
      have hb10 := hb10_
      have z10 := hb10.size
      have q10 : Below w.heap.size w w10 := q9.trans (hb10.mono q9.size)
      have R0_10 := Lib.hid (R0_9.out.below hb10 (by omega))
      clear R0_9
      have X0_10 := Lib.hid (X0_9.out.below hb10 (by omega))
      clear X0_9
      have X1_10 := Lib.hid (X1_9.out.below hb10 (by omega))
      clear X1_9
      have G0_10 := Lib.hid (G0_9.out.below hb10 (by omega))
      clear G0_9
      have A_10 := Lib.hid ((hb10.block w.heap.size (lt_of_block A_9.out)).trans A_9.out)
      clear A_9
      have X0b_10 := Lib.hid ((hb10.block w5.heap.size (lt_of_block X0b_9.out)).trans X0b_9.out)
      clear X0b_9
      have z11 := hb11.size
      have q11 : Below w.heap.size w w11 := q10.trans (hb11.mono q10.size)
      have R0_11 := Lib.hid (R0_10.out.below hb11 (by omega))
      clear R0_10
      have X0_11 := Lib.hid (X0_10.out.below hb11 (by omega))
      clear X0_10
      have X1_11 := Lib.hid (X1_10.out.below hb11 (by omega))
      clear X1_10
      have G0_11 := Lib.hid (G0_10.out.below hb11 (by omega))
      clear G0_10
      have A_11 := Lib.hid ((hb11.block w.heap.size (lt_of_block A_10.out)).trans A_10.out)
      clear A_10
      have X0b_11 := Lib.hid ((hb11.block w5.heap.size (lt_of_block X0b_10.out)).trans X0b_10.out)
      clear X0b_10
      have fA0 : w11.cell? ⟨w.heap.size, 0, none⟩ = some (.int .i64 a0) := by rw [cell_of_row w11 _ 0 _ _ _ A_11.out]; rfl
      have fA1 : w11.cell? ⟨w.heap.size, 1, none⟩ = some (.slice ad0 xs0.length cap0) := by rw [cell_of_row w11 _ 1 _ _ _ A_11.out]; rfl
      have fX0b0 : w11.cell? ⟨w5.heap.size, 0, none⟩ = some (.int .i64 a0) := by rw [cell_of_row w11 _ 0 _ _ _ X0b_11.out]; rfl
      have fX0b1 : w11.cell? ⟨w5.heap.size, 1, none⟩ = some (.slice a5_ xs0.length c5_) := by rw [cell_of_row w11 _ 1 _ _ _ X0b_11.out]; rfl
      go_wp2_with fail
      clear fA0 fA1
      clear fX0b0 fX0b1
      refine (toCellSS_any _ _ xs1 _ hn1 hl1 (H1.out.below q11)).mono ?_
      rintro e w12 ⟨a12_, c12_, rfl, ho12, hb12⟩
      have z12 := hb12.size
      have q12 : Below w.heap.size w w12 := q11.trans (hb12.mono q11.size)
      have R0_12 := Lib.hid (R0_11.out.below hb12 (by omega))
      clear R0_11
      have X0_12 := Lib.hid (X0_11.out.below hb12 (by omega))
      clear X0_11
      have X1_12 := Lib.hid (X1_11.out.below hb12 (by omega))
      clear X1_11
      have G0_12 := Lib.hid (G0_11.out.below hb12 (by omega))
      clear G0_11
      have A_12 := Lib.hid ((hb12.block w.heap.size (lt_of_block A_11.out)).trans A_11.out)
      clear A_11
      have X0b_12 := Lib.hid ((hb12.block w5.heap.size (lt_of_block X0b_11.out)).trans X0b_11.out)
      clear X0b_11
      have Y1 := Lib.hid (OwnP.of ho12)
      clear ho12
      have fA0 : w12.cell? ⟨w.heap.size, 0, none⟩ = some (.int .i64 a0) := by rw [cell_of_row w12 _ 0 _ _ _ A_12.out]; rfl
      have fA1 : w12.cell? ⟨w.heap.size, 1, none⟩ = some (.slice ad0 xs0.length cap0) := by rw [cell_of_row w12 _ 1 _ _ _ A_12.out]; rfl
      have fX0b0 : w12.cell? ⟨w5.heap.size, 0, none⟩ = some (.int .i64 a0) := by rw [cell_of_row w12 _ 0 _ _ _ X0b_12.out]; rfl
      have fX0b1 : w12.cell? ⟨w5.heap.size, 1, none⟩ = some (.slice a5_ xs0.length c5_) := by rw [cell_of_row w12 _ 1 _ _ _ X0b_12.out]; rfl
      go_wp2_with fail
      clear fA0 fA1
      clear fX0b0 fX0b1
      refine (eqCellSS_same _ _ _ _ xs1 _ hn1 hl1 X1_12.out.cells Y1.out.cells).mono ?_
      rintro e w13 ⟨rfl, hb13⟩
      have z13 := hb13.size
      have q13 : Below w.heap.size w w13 := q12.trans (hb13.mono q12.size)
      have R0_13 := Lib.hid (R0_12.out.below hb13 (by omega))
      clear R0_12
      have X0_13 := Lib.hid (X0_12.out.below hb13 (by omega))
      clear X0_12
      have X1_13 := Lib.hid (X1_12.out.below hb13 (by omega))
      clear X1_12
      have G0_13 := Lib.hid (G0_12.out.below hb13 (by omega))
      clear G0_12
      have Y1_13 := Lib.hid (Y1.out.below hb13 (by omega))
      clear Y1
      have A_13 := Lib.hid ((hb13.block w.heap.size (lt_of_block A_12.out)).trans A_12.out)
      clear A_12
      have X0b_13 := Lib.hid ((hb13.block w5.heap.size (lt_of_block X0b_12.out)).trans X0b_12.out)
      clear X0b_12
      clear Y1_13
      have fA0 : w13.cell? ⟨w.heap.size, 0, none⟩ = some (.int .i64 a0) := by rw [cell_of_row w13 _ 0 _ _ _ A_13.out]; rfl
      have fA1 : w13.cell? ⟨w.heap.size, 1, none⟩ = some (.slice ad0 xs0.length cap0) := by rw [cell_of_row w13 _ 1 _ _ _ A_13.out]; rfl
      have fX0b0 : w13.cell? ⟨w5.heap.size, 0, none⟩ = some (.int .i64 a0) := by rw [cell_of_row w13 _ 0 _ _ _ X0b_13.out]; rfl
      have fX0b1 : w13.cell? ⟨w5.heap.size, 1, none⟩ = some (.slice a5_ xs0.length c5_) := by rw [cell_of_row w13 _ 1 _ _ _ X0b_13.out]; rfl
      go_wp2_with fail
      clear fA0 fA1
      clear fX0b0 fX0b1
      refine (markRegion_all (k := 1) _ _ _ _ _ xs0 _ hn0 (by omega) X0_13.out).mono ?_
      rintro e w14 ⟨rfl, _, ht14⟩
      have z14 := ht14.size
      have zq14 := q13.size
      have q14 : Below w.heap.size w w14 := q13.trans (ht14.below (by omega) (by omega))
      have R0_14 := Lib.hid (R0_13.out.touched ht14 (by omega))
      clear R0_13
      have X1_14 := Lib.hid (X1_13.out.touched ht14 (by omega))
      clear X1_13
      have G0_14 := Lib.hid (G0_13.out.touched ht14 (by omega))
      clear G0_13
      have A_14 := Lib.hid ((ht14.block w.heap.size (lt_of_block A_13.out) (by omega)).trans A_13.out)
      clear A_13
      have X0b_14 := Lib.hid ((ht14.block w5.heap.size (lt_of_block X0b_13.out) (by omega)).trans X0b_13.out)
      clear X0b_13
      have fA0 : w14.cell? ⟨w.heap.size, 0, none⟩ = some (.int .i64 a0) := by rw [cell_of_row w14 _ 0 _ _ _ A_14.out]; rfl
      have fA1 : w14.cell? ⟨w.heap.size, 1, none⟩ = some (.slice ad0 xs0.length cap0) := by rw [cell_of_row w14 _ 1 _ _ _ A_14.out]; rfl
      have fX0b0 : w14.cell? ⟨w5.heap.size, 0, none⟩ = some (.int .i64 a0) := by rw [cell_of_row w14 _ 0 _ _ _ X0b_14.out]; rfl
      have fX0b1 : w14.cell? ⟨w5.heap.size, 1, none⟩ = some (.slice a5_ xs0.length c5_) := by rw [cell_of_row w14 _ 1 _ _ _ X0b_14.out]; rfl
      go_wp2_with fail
      clear fA0 fA1
      clear fX0b0 fX0b1
      refine (markCellSS_all (k := 1 + xs0.length) _ _ _ _ xs1 _ hn1 hl1 (by omega) (by omega) X1_14.out).mono ?_
      rintro e w15 ⟨rfl, _, ht15⟩
      have z15 := ht15.size
      have zq15 := q14.size
      have q15 : Below w.heap.size w w15 := q14.trans (ht15.below (by omega) (by omega))
      have R0_15 := Lib.hid (R0_14.out.touched ht15 (by omega))
      clear R0_14
      have G0_15 := Lib.hid (G0_14.out.touched ht15 (by omega))
      clear G0_14
      have A_15 := Lib.hid ((ht15.block w.heap.size (lt_of_block A_14.out) (by omega)).trans A_14.out)
      clear A_14
      have X0b_15 := Lib.hid ((ht15.block w5.heap.size (lt_of_block X0b_14.out) (by omega)).trans X0b_14.out)
      clear X0b_14
      have fA0 : w15.cell? ⟨w.heap.size, 0, none⟩ = some (.int .i64 a0) := by rw [cell_of_row w15 _ 0 _ _ _ A_15.out]; rfl
      have fA1 : w15.cell? ⟨w.heap.size, 1, none⟩ = some (.slice ad0 xs0.length cap0) := by rw [cell_of_row w15 _ 1 _ _ _ A_15.out]; rfl
      have fX0b0 : w15.cell? ⟨w5.heap.size, 0, none⟩ = some (.int .i64 a0) := by rw [cell_of_row w15 _ 0 _ _ _ X0b_15.out]; rfl
      have fX0b1 : w15.cell? ⟨w5.heap.size, 1, none⟩ = some (.slice a5_ xs0.length c5_) := by rw [cell_of_row w15 _ 1 _ _ _ X0b_15.out]; rfl
      go_wp2_with fail
      clear fA0 fA1
      clear fX0b0 fX0b1
      refine (eqIntS_same _ _ _ _ r0 _ (by omega) G0_15.out.cells R0_15.out.cells).mono ?_
      rintro e w16 ⟨rfl, hb16⟩
      have z16 := hb16.size
      have q16 : Below w.heap.size w w16 := q15.trans (hb16.mono q15.size)
      have R0_16 := Lib.hid (R0_15.out.below hb16 (by omega))
      clear R0_15
      have G0_16 := Lib.hid (G0_15.out.below hb16 (by omega))
      clear G0_15
      have A_16 := Lib.hid ((hb16.block w.heap.size (lt_of_block A_15.out)).trans A_15.out)
      clear A_15
      have X0b_16 := Lib.hid ((hb16.block w5.heap.size (lt_of_block X0b_15.out)).trans X0b_15.out)
      clear X0b_15
      have fA0 : w16.cell? ⟨w.heap.size, 0, none⟩ = some (.int .i64 a0) := by rw [cell_of_row w16 _ 0 _ _ _ A_16.out]; rfl
      have fA1 : w16.cell? ⟨w.heap.size, 1, none⟩ = some (.slice ad0 xs0.length cap0) := by rw [cell_of_row w16 _ 1 _ _ _ A_16.out]; rfl
      have fX0b0 : w16.cell? ⟨w5.heap.size, 0, none⟩ = some (.int .i64 a0) := by rw [cell_of_row w16 _ 0 _ _ _ X0b_16.out]; rfl
      have fX0b1 : w16.cell? ⟨w5.heap.size, 1, none⟩ = some (.slice a5_ xs0.length c5_) := by rw [cell_of_row w16 _ 1 _ _ _ X0b_16.out]; rfl
      go_wp2_with fail
      clear fA0 fA1
      clear fX0b0 fX0b1
      refine (markIntS_all (k := 1) _ _ _ _ r0 _ (by omega) (by omega) G0_16.out).mono ?_
      rintro e w17 ⟨rfl, g17, ht17⟩
      have z17 := ht17.size
      have zq17 := q16.size
      have q17 : Below w.heap.size w w17 := q16.trans (ht17.below (by omega) (by omega))
      have R0_17 := Lib.hid (R0_16.out.touched ht17 (by omega))
      clear R0_16
      have A_17 := Lib.hid ((ht17.block w.heap.size (lt_of_block A_16.out) (by omega)).trans A_16.out)
      clear A_16
      have X0b_17 := Lib.hid ((ht17.block w5.heap.size (lt_of_block X0b_16.out) (by omega)).trans X0b_16.out)
      clear X0b_16
      have M0 := Lib.hid g17
      clear g17
      have fA0 : w17.cell? ⟨w.heap.size, 0, none⟩ = some (.int .i64 a0) := by rw [cell_of_row w17 _ 0 _ _ _ A_17.out]; rfl
      have fA1 : w17.cell? ⟨w.heap.size, 1, none⟩ = some (.slice ad0 xs0.length cap0) := by rw [cell_of_row w17 _ 1 _ _ _ A_17.out]; rfl
      have fX0b0 : w17.cell? ⟨w5.heap.size, 0, none⟩ = some (.int .i64 a0) := by rw [cell_of_row w17 _ 0 _ _ _ X0b_17.out]; rfl
      have fX0b1 : w17.cell? ⟨w5.heap.size, 1, none⟩ = some (.slice a5_ xs0.length c5_) := by rw [cell_of_row w17 _ 1 _ _ _ X0b_17.out]; rfl
      go_wp2_with fail
      clear fA0 fA1
      clear fX0b0 fX0b1
      refine (heldIntS_b (k := 1) _ _ r0.length _ (by omega) (by omega) M0.out.cells).mono ?_
      rintro e w18 ⟨rfl, hb18⟩
      have z18 := hb18.size
      have q18 : Below w.heap.size w w18 := q17.trans (hb18.mono q17.size)
      have R0_18 := Lib.hid (R0_17.out.below hb18 (by omega))
      clear R0_17
      have M0_18 := Lib.hid (M0.out.below hb18 (by omega))
      clear M0
      have A_18 := Lib.hid ((hb18.block w.heap.size (lt_of_block A_17.out)).trans A_17.out)
      clear A_17
      have X0b_18 := Lib.hid ((hb18.block w5.heap.size (lt_of_block X0b_17.out)).trans X0b_17.out)
      clear X0b_17
      have fA0 : w18.cell? ⟨w.heap.size, 0, none⟩ = some (.int .i64 a0) := by rw [cell_of_row w18 _ 0 _ _ _ A_18.out]; rfl
      have fA1 : w18.cell? ⟨w.heap.size, 1, none⟩ = some (.slice ad0 xs0.length cap0) := by rw [cell_of_row w18 _ 1 _ _ _ A_18.out]; rfl
      have fX0b0 : w18.cell? ⟨w5.heap.size, 0, none⟩ = some (.int .i64 a0) := by rw [cell_of_row w18 _ 0 _ _ _ X0b_18.out]; rfl
      have fX0b1 : w18.cell? ⟨w5.heap.size, 1, none⟩ = some (.slice a5_ xs0.length c5_) := by rw [cell_of_row w18 _ 1 _ _ _ X0b_18.out]; rfl
      go_wp2_with fail
      clear fA0 fA1
      clear fX0b0 fX0b1
      refine (toRegion_any _ _ _ xs0 _ hn0 (H0.out.below q18)).mono ?_
      rintro e w19 ⟨a19_, c19_, rfl, ho19, hb19⟩
      have z19 := hb19.size
      have q19 : Below w.heap.size w w19 := q18.trans (hb19.mono q18.size)
      have R0_19 := Lib.hid (R0_18.out.below hb19 (by omega))
      clear R0_18
      have M0_19 := Lib.hid (M0_18.out.below hb19 (by omega))
      clear M0_18
      have A_19 := Lib.hid ((hb19.block w.heap.size (lt_of_block A_18.out)).trans A_18.out)
      clear A_18
      have X0b_19 := Lib.hid ((hb19.block w5.heap.size (lt_of_block X0b_18.out)).trans X0b_18.out)
      clear X0b_18
      have T0 := Lib.hid (Owned.of ho19)
      clear ho19
      have fA0 : w19.cell? ⟨w.heap.size, 0, none⟩ = some (.int .i64 a0) := by rw [cell_of_row w19 _ 0 _ _ _ A_19.out]; rfl
      have fA1 : w19.cell? ⟨w.heap.size, 1, none⟩ = some (.slice ad0 xs0.length cap0) := by rw [cell_of_row w19 _ 1 _ _ _ A_19.out]; rfl
      have fX0b0 : w19.cell? ⟨w5.heap.size, 0, none⟩ = some (.int .i64 a0) := by rw [cell_of_row w19 _ 0 _ _ _ X0b_19.out]; rfl
      have fX0b1 : w19.cell? ⟨w5.heap.size, 1, none⟩ = some (.slice a5_ xs0.length c5_) := by rw [cell_of_row w19 _ 1 _ _ _ X0b_19.out]; rfl
      go_wp2_with fail
      clear fA0 fA1
      clear fX0b0 fX0b1
      refine (toCellSS_any _ _ xs1 _ hn1 hl1 (H1.out.below q19)).mono ?_
      rintro e w20 ⟨a20_, c20_, rfl, ho20, hb20⟩
      have z20 := hb20.size
      have q20 : Below w.heap.size w w20 := q19.trans (hb20.mono q19.size)
      have R0_20 := Lib.hid (R0_19.out.below hb20 (by omega))
      clear R0_19
      have M0_20 := Lib.hid (M0_19.out.below hb20 (by omega))
      clear M0_19
      have T0_20 := Lib.hid (T0.out.below hb20 (by omega))
      clear T0
      have A_20 := Lib.hid ((hb20.block w.heap.size (lt_of_block A_19.out)).trans A_19.out)
      clear A_19
      have X0b_20 := Lib.hid ((hb20.block w5.heap.size (lt_of_block X0b_19.out)).trans X0b_19.out)
      clear X0b_19
      have T1 := Lib.hid (OwnP.of ho20)
      clear ho20
      have fA0 : w20.cell? ⟨w.heap.size, 0, none⟩ = some (.int .i64 a0) := by rw [cell_of_row w20 _ 0 _ _ _ A_20.out]; rfl
      have fA1 : w20.cell? ⟨w.heap.size, 1, none⟩ = some (.slice ad0 xs0.length cap0) := by rw [cell_of_row w20 _ 1 _ _ _ A_20.out]; rfl
      have fX0b0 : w20.cell? ⟨w5.heap.size, 0, none⟩ = some (.int .i64 a0) := by rw [cell_of_row w20 _ 0 _ _ _ X0b_20.out]; rfl
      have fX0b1 : w20.cell? ⟨w5.heap.size, 1, none⟩ = some (.slice a5_ xs0.length c5_) := by rw [cell_of_row w20 _ 1 _ _ _ X0b_20.out]; rfl
      go_wp2_with fail
      clear fA0 fA1
      clear fX0b0 fX0b1
      refine (HI.out _ _ _ _ _ T0_20.out.le_cap T1.out.le_cap T0_20.out.cells T1.out.cells).mono ?_
      rintro e w21 ⟨b21_0, d21_0, rfl, ho21_0, hb21⟩
      have z21 := hb21.size
      have q21 : Below w.heap.size w w21 := q20.trans (hb21.mono q20.size)
      have R0_21 := Lib.hid (R0_20.out.below hb21 (by omega))
      clear R0_20
      have M0_21 := Lib.hid (M0_20.out.below hb21 (by omega))
      clear M0_20
      have T0_21 := Lib.hid (T0_20.out.below hb21 (by omega))
      clear T0_20
      have T1_21 := Lib.hid (T1.out.below hb21 (by omega))
      clear T1
      have A_21 := Lib.hid ((hb21.block w.heap.size (lt_of_block A_20.out)).trans A_20.out)
      clear A_20
      have X0b_21 := Lib.hid ((hb21.block w5.heap.size (lt_of_block X0b_20.out)).trans X0b_20.out)
      clear X0b_20
      have N0 := Lib.hid (Owned.of ho21_0)
      clear ho21_0
      clear T0_21
      clear T1_21
      have fA0 : w21.cell? ⟨w.heap.size, 0, none⟩ = some (.int .i64 a0) := by rw [cell_of_row w21 _ 0 _ _ _ A_21.out]; rfl
      have fA1 : w21.cell? ⟨w.heap.size, 1, none⟩ = some (.slice ad0 xs0.length cap0) := by rw [cell_of_row w21 _ 1 _ _ _ A_21.out]; rfl
      have fX0b0 : w21.cell? ⟨w5.heap.size, 0, none⟩ = some (.int .i64 a0) := by rw [cell_of_row w21 _ 0 _ _ _ X0b_21.out]; rfl
      have fX0b1 : w21.cell? ⟨w5.heap.size, 1, none⟩ = some (.slice a5_ xs0.length c5_) := by rw [cell_of_row w21 _ 1 _ _ _ X0b_21.out]; rfl
      go_wp2_with fail
      clear fA0 fA1
      clear fX0b0 fX0b1
      refine (eqIntS_same _ _ _ _ r0 _ (by omega) N0.out.cells R0_21.out.cells).mono ?_
      rintro e w22 ⟨rfl, hb22⟩
      have z22 := hb22.size
      have q22 : Below w.heap.size w w22 := q21.trans (hb22.mono q21.size)
      have R0_22 := Lib.hid (R0_21.out.below hb22 (by omega))
      clear R0_21
      have M0_22 := Lib.hid (M0_21.out.below hb22 (by omega))
      clear M0_21
      have N0_22 := Lib.hid (N0.out.below hb22 (by omega))
      clear N0
      have A_22 := Lib.hid ((hb22.block w.heap.size (lt_of_block A_21.out)).trans A_21.out)
      clear A_21
      have X0b_22 := Lib.hid ((hb22.block w5.heap.size (lt_of_block X0b_21.out)).trans X0b_21.out)
      clear X0b_21
      have fA0 : w22.cell? ⟨w.heap.size, 0, none⟩ = some (.int .i64 a0) := by rw [cell_of_row w22 _ 0 _ _ _ A_22.out]; rfl
      have fA1 : w22.cell? ⟨w.heap.size, 1, none⟩ = some (.slice ad0 xs0.length cap0) := by rw [cell_of_row w22 _ 1 _ _ _ A_22.out]; rfl
      have fX0b0 : w22.cell? ⟨w5.heap.size, 0, none⟩ = some (.int .i64 a0) := by rw [cell_of_row w22 _ 0 _ _ _ X0b_22.out]; rfl
      have fX0b1 : w22.cell? ⟨w5.heap.size, 1, none⟩ = some (.slice a5_ xs0.length c5_) := by rw [cell_of_row w22 _ 1 _ _ _ X0b_22.out]; rfl
      go_wp2_with fail
      clear fA0 fA1
      clear fX0b0 fX0b1
      refine (heldIntS_b (k := 1) _ _ r0.length _ (by omega) (by omega) M0_22.out.cells).mono ?_
      rintro e w23 ⟨rfl, hb23⟩
      have z23 := hb23.size
      have q23 : Below w.heap.size w w23 := q22.trans (hb23.mono q22.size)
      have R0_23 := Lib.hid (R0_22.out.below hb23 (by omega))
      clear R0_22
      have M0_23 := Lib.hid (M0_22.out.below hb23 (by omega))
      clear M0_22
      have N0_23 := Lib.hid (N0_22.out.below hb23 (by omega))
      clear N0_22
      have A_23 := Lib.hid ((hb23.block w.heap.size (lt_of_block A_22.out)).trans A_22.out)
      clear A_22
      have X0b_23 := Lib.hid ((hb23.block w5.heap.size (lt_of_block X0b_22.out)).trans X0b_22.out)
      clear X0b_22
      have fA0 : w23.cell? ⟨w.heap.size, 0, none⟩ = some (.int .i64 a0) := by rw [cell_of_row w23 _ 0 _ _ _ A_23.out]; rfl
      have fA1 : w23.cell? ⟨w.heap.size, 1, none⟩ = some (.slice ad0 xs0.length cap0) := by rw [cell_of_row w23 _ 1 _ _ _ A_23.out]; rfl
      have fX0b0 : w23.cell? ⟨w5.heap.size, 0, none⟩ = some (.int .i64 a0) := by rw [cell_of_row w23 _ 0 _ _ _ X0b_23.out]; rfl
      have fX0b1 : w23.cell? ⟨w5.heap.size, 1, none⟩ = some (.slice a5_ xs0.length c5_) := by rw [cell_of_row w23 _ 1 _ _ _ X0b_23.out]; rfl
      go_wp2_with fail
      clear fA0 fA1
      clear fX0b0 fX0b1
      go_ret
      exact ⟨rfl, q23⟩
    · skip
      go_enter Tryz.func4, Tryz.ntmps4
      go_wp2_with fail
      have q0 : Below w.heap.size w (w.alloc (.cells #[.int .i64 a0, .slice ad0 xs0.length cap0] 24)) := (Below.refl _ _).alloc (Nat.le_refl _) _
      have z0 : (w.alloc (.cells #[.int .i64 a0, .slice ad0 xs0.length cap0] 24)).heap.size = w.heap.size + 1 := by simp
      have hbx : (w.alloc (.cells #[.int .i64 a0, .slice ad0 xs0.length cap0] 24)).heap[w.heap.size]? = some (.cells #[.int .i64 a0, .slice ad0 xs0.length cap0] 24 (0, 0)) := heap_alloc_new w _
      generalize w.alloc (.cells #[.int .i64 a0, .slice ad0 xs0.length cap0] 24) = w0 at q0 z0 hbx ⊢
      have A0_0 := Lib.hid hbx
      clear hbx
      refine (szRegion_any _ _ _ _ _ _ hm0 (by omega) (by omega)).mono ?_
      rw [if_neg (by omega)]
      rintro e w1 ⟨rfl, hb1⟩
      have z1 := hb1.size
      have q1 : Below w.heap.size w w1 := q0.trans (hb1.mono q0.size)
      have A_1 := Lib.hid ((hb1.block w.heap.size (lt_of_block A0_0.out)).trans A0_0.out)
      clear A0_0
      have fA0 : w1.cell? ⟨w.heap.size, 0, none⟩ = some (.int .i64 a0) := by rw [cell_of_row w1 _ 0 _ _ _ A_1.out]; rfl
      have fA1 : w1.cell? ⟨w.heap.size, 1, none⟩ = some (.slice ad0 xs0.length cap0) := by rw [cell_of_row w1 _ 1 _ _ _ A_1.out]; rfl
      go_wp2_with fail
      clear fA0 fA1
      refine (szCellSS_any _ _ _ _ _ hm1 hw1 (by omega) (by omega) (H1.out.below q1)).mono ?_
      rw [if_pos (by omega)]
      rintro e w' ⟨rfl, rfl⟩
      have fA0 : w1.cell? ⟨w.heap.size, 0, none⟩ = some (.int .i64 a0) := by rw [cell_of_row w1 _ 0 _ _ _ A_1.out]; rfl
      have fA1 : w1.cell? ⟨w.heap.size, 1, none⟩ = some (.slice ad0 xs0.length cap0) := by rw [cell_of_row w1 _ 1 _ _ _ A_1.out]; rfl
      go_wp2_with fail
      clear fA0 fA1
      go_ret
      exact ⟨rfl, q1⟩
  · skip
    go_enter Tryz.func4, Tryz.ntmps4
    go_wp2_with fail
    have q0 : Below w.heap.size w (w.alloc (.cells #[.int .i64 a0, .slice ad0 xs0.length cap0] 24)) := (Below.refl _ _).alloc (Nat.le_refl _) _
    have z0 : (w.alloc (.cells #[.int .i64 a0, .slice ad0 xs0.length cap0] 24)).heap.size = w.heap.size + 1 := by simp
    have hbx : (w.alloc (.cells #[.int .i64 a0, .slice ad0 xs0.length cap0] 24)).heap[w.heap.size]? = some (.cells #[.int .i64 a0, .slice ad0 xs0.length cap0] 24 (0, 0)) := heap_alloc_new w _
    generalize w.alloc (.cells #[.int .i64 a0, .slice ad0 xs0.length cap0] 24) = w0 at q0 z0 hbx ⊢
    have A0_0 := Lib.hid hbx
    clear hbx
    refine (szRegion_any _ _ _ _ _ _ hm0 (by omega) (by omega)).mono ?_
    rw [if_pos (by omega)]
    rintro e w1 ⟨rfl, hb1⟩
    have z1 := hb1.size
    have q1 : Below w.heap.size w w1 := q0.trans (hb1.mono q0.size)
    have A_1 := Lib.hid ((hb1.block w.heap.size (lt_of_block A0_0.out)).trans A0_0.out)
    clear A0_0
    have fA0 : w1.cell? ⟨w.heap.size, 0, none⟩ = some (.int .i64 a0) := by rw [cell_of_row w1 _ 0 _ _ _ A_1.out]; rfl
    have fA1 : w1.cell? ⟨w.heap.size, 1, none⟩ = some (.slice ad0 xs0.length cap0) := by rw [cell_of_row w1 _ 1 _ _ _ A_1.out]; rfl
    go_wp2_with fail
    clear fA0 fA1
    go_ret
    exact ⟨rfl, q1⟩

set_option maxRecDepth 100000 in
theorem lifted (os : Os) (started : os.Started) (H : Type) (enc : TypeId × Value → H) :
    ReturnsInHanded {} Tryz.checked os 4 .any (Rows.fnExactLargestPackingSpec.pre6 enc Tryz.prog Tryz.f4 Rows.fnExactLargestPackingRow.domain false) (Rows.fnExactLargestPackingSpec.post enc Tryz.prog Tryz.f4 false true false false) := by
  refine returnsInHanded_of_change (C := Tryz.checked) Tryz.own started (by kernel_rfl) Tryz.func4
    (ChangeSpec.witness6 (enc := enc) (C := Tryz.checked) false ⟨#[], #[.agg #[.int .i64 0, .slice none 0 0], .slice none 0 0], []⟩ 8 (by kernel_rfl) (by kernel_rfl) (by kernel_rfl) (by kernel_rfl)) ?_
  intro W base args ds gs before hval0 hW hcnd _
  have hval : ∀ (j : Nat) t v, Tryz.f4.params[j]? = some t → args[j]? = some v → Value.okWide Tryz.prog W .any base t v := hval0
  have hW' := hW
  obtain ⟨p, q, hA0, hV, rfl, hfz, hnd⟩ := hW
  have hA : DataW.TrodAll enc Tryz.prog W 0 (fun _ => true) true Tryz.f4.params.toList args.toList ds p := hA0
  rw [Tryz.params4] at hA hval
  obtain ⟨v0, vs0, d0, ds0, p0, q0, hargs, rfl, rfl, h0, r0⟩ := trodAll_cons hA
  obtain ⟨v1, vs1, d1, ds1, p1, q1, rfl, rfl, rfl, h1, r1⟩ := trodAll_cons r0
  obtain ⟨rfl, rfl, rfl⟩ := trodAll_nil r1
  obtain rfl : args = #[v0, v1] := by cases args; simp_all
  obtain ⟨rfl, rfl⟩ := trodVars_none hV
  obtain ⟨a0, ad0, cap0, xs0, rfl, w0, hm0, hc0, hw0⟩ := openRegion (hval 0 24 v0 rfl rfl) h0
  obtain ⟨ad1, cap1, xs1, rfl, hm1, hc1, hw1⟩ := openShps (hval 1 25 v1 rfl rfl) h1
  clear hA0 hval0
  refine (walk W a0 w0 ad0 cap0 xs0 hm0 hc0 hw0 ad1 cap1 xs1 hm1 hc1 hw1).mono fun e W' ⟨he, hb⟩ => ?_
  subst he
  exact ⟨_, rfl, law_post rfl hW' hb (by rw [Tryz.params4]; exact readable_all (by kernel_rfl)) (by kernel_rfl) (by kernel_rfl) rfl⟩

theorem proved : Rows.FnExactLargestPackingSaid :=
  OpenClaim.holds_of_wide 4 Tryz.f4 rfl rfl rfl rfl rfl rfl rfl ⟨rfl, rfl, rfl, rfl, rfl⟩ rfl rfl rfl rfl rfl (by kernel_rfl) Tryz.func4 (by kernel_rfl)
    (of_decide_eq_true (by kernel_rfl)) (by unfold Func.isWrapper; first | (rw [if_pos (by decide +kernel)]; kernel_rfl) | (rw [if_neg (by decide +kernel)]; exact ⟨rfl, rfl⟩))
    (fun os started H enc _ => lifted os started H enc)
end Go.Proofs.YtcoggnoeafpgbaaGreat.lawLP
