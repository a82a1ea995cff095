/- LawIFF: the program's IsFaultFree returns what the reference's returns, for every region, all pieces and every list of numbers, where the library's tables lie as their initialisers lay them (the card ties that to the program's text). -/
import Derived.Test.YtomaihbaffoplaaGreatDoorAllHead
import Derived.Test.YtomaihbaffoplaaGreatDoorAllFrame
import Derived.Test.YtomaihbaffoplaaGreatDoorFrameShp
import Derived.Test.YtomaihbaffoplaaGreatDoorShpsLaw
import Derived.Test.YtomaihbaffoplaaGreatDoorFFS
import Derived.Test.YtomaihbaffoplaaGreatDoorTied
import Derived.Test.YtomaihbaffoplaaGreatDoorTie
import Derived.Test.YtomaihbaffoplaaGreatDoorCards
import Derived.SevenTiedAt
import Derived.Deep.RegionHeld3
namespace Go.Proofs.YtomaihbaffoplaaGreatDoor.lawIFF
open Go.ChangeShapes Go.WideShapes Go.ChangeAt Go.RowKit

theorem both (b : Int) (_wb : (Lit.int .i64 b).wf = true) (xs : List Int) (_hw : ∀ x ∈ xs, (Lit.int .i64 x).wf = true) (hn : xs.length ≤ 1048576) (ps : List (List Cl)) (hnp : ps.length ≤ 1048576) (hl : ∀ p ∈ ps, p.length ≤ 1048576) (l : List Int) (hwl : ∀ x ∈ l, (Lit.int .i64 x).wf = true) (hnl : l.length ≤ 1048576) :
    ∃ r0 : Bool, True ∧
      (∀ w ad cap al cl am cm, xs.length ≤ cap → ps.length ≤ cl → l.length ≤ cm → CellsAt w ad (ints xs) → ShpsAt w al ps → CellsAt w am (ints l) → Calls Tryz.prog 8 #[.agg #[.int .i64 b, .slice ad xs.length cap], .slice al ps.length cl, .slice am l.length cm] w fun e w' => e = .returned (.bool r0) ∧ Below w.heap.size w w') ∧
      ∀ w ad cap al cl am cm, xs.length ≤ cap → ps.length ≤ cl → l.length ≤ cm → CellsAt w ad (ints xs) → ShpsAt w al ps → CellsAt w am (ints l) → Tab w → Calls Tryz.prog 12 #[.agg #[.int .i64 b, .slice ad xs.length cap], .slice al ps.length cl, .slice am l.length cm] w fun e w' => e = .returned (.bool r0) ∧ Below w.heap.size w w' :=
  ⟨iffR b xs ps l, trivial, fun w ad cap al cl am cm _ _ _ h1 h2 h3 => specIFF b ad cap xs al cl ps am cm l w hn hnp hl hnl hwl h1 h2 h3, fun w ad cap al cl am cm _ _ _ h1 h2 h3 h4 => implIFF b ad cap xs al cl ps am cm l w hn hnp hl hnl hwl h4 h1 h2 h3⟩

set_option maxRecDepth 100000 in
set_option maxHeartbeats 4000000 in
theorem walk (w : World) (a0 : Int) (w0_ : (Lit.int .i64 a0).wf = true) (ad0 : Option Addr) (cap0 : Nat) (xs0 : List Int) (hm0 : xs0.length ≤ maxLen) (hc0 : CellsAt w ad0 (ints xs0)) (hw0 : ∀ x ∈ xs0, (Lit.int .i64 x).wf = true) (ad1 : Option Addr) (cap1 : Nat) (xs1 : List (List Cl)) (hm1 : xs1.length ≤ maxLen) (hc1 : ShpsAt w ad1 xs1) (hw1 : ∀ q ∈ xs1, q.length ≤ maxLen) (ad2 : Option Addr) (cap2 : Nat) (xs2 : List Int) (hm2 : xs2.length ≤ maxLen) (hc2 : CellsAt w ad2 (ints xs2)) (hw2 : ∀ x ∈ xs2, (Lit.int .i64 x).wf = true) (hT : Tab w) :
    Calls Tryz.prog 3 #[.agg #[.int .i64 a0, .slice ad0 xs0.length cap0], .slice ad1 xs1.length cap1, .slice ad2 xs2.length cap2] w fun e w' => e = .returned (.bool true) ∧ Below w.heap.size w w' := by
  unfold maxLen at hm0
  unfold maxLen at hm1
  unfold maxLen at hm2
  have HT := Lib.hid hT
  clear hT
  unfold maxLen at hw1
  have H0 := Lib.hid hc0
  clear hc0
  have H1 := Lib.hid hc1
  clear hc1
  have H2 := Lib.hid hc2
  clear hc2
  by_cases hn2 : xs2.length ≤ 1048576
  · skip
    by_cases hn0_ : xs0.length ≤ 1048576
    · skip
      by_cases hn1_ : xs0.length + tot xs1 ≤ 1048576
      · skip
        have hn0 : xs0.length ≤ 1048576 := by omega
        have hl1 : ∀ q ∈ xs1, q.length ≤ 1048576 := fun q hq => by have := tot_mem hq; omega
        have hn1 : xs1.length ≤ 1048576 := by have := tot_len xs1; omega
        obtain ⟨r0, HL, hs, hi⟩ := both a0 w0_ xs0 hw0 hn0 xs1 hn1 hl1 xs2 hw2 hn2
        have HS := Lib.hid hs
        have HI := Lib.hid hi
        clear hs hi hw0 hw2
        have nn0 : (r0 != r0) = false := by simp
        go_enter Tryz.func3, Tryz.ntmps3
        go_wp2_with fail
        have q0 : Below w.heap.size w (w.alloc (.cells #[.int .i64 a0, .slice ad0 xs0.length cap0] 24)) := (Below.refl _ _).alloc (Nat.le_refl _) _
        have z0 : (w.alloc (.cells #[.int .i64 a0, .slice ad0 xs0.length cap0] 24)).heap.size = w.heap.size + 1 := by simp
        have hbx : (w.alloc (.cells #[.int .i64 a0, .slice ad0 xs0.length cap0] 24)).heap[w.heap.size]? = some (.cells #[.int .i64 a0, .slice ad0 xs0.length cap0] 24 (0, 0)) := heap_alloc_new w _
        generalize w.alloc (.cells #[.int .i64 a0, .slice ad0 xs0.length cap0] 24) = w0 at q0 z0 hbx ⊢
        have A0_0 := Lib.hid hbx
        clear hbx
        refine (szRegion_any _ _ _ _ _ _ hm0 (by omega) (by omega)).mono ?_
        rw [if_neg (by omega)]
        rintro e w1 ⟨rfl, hb1⟩
        have z1 := hb1.size
        have q1 : Below w.heap.size w w1 := q0.trans (hb1.mono q0.size)
        have A_1 := Lib.hid ((hb1.block w.heap.size (lt_of_block A0_0.out)).trans A0_0.out)
        clear A0_0
        have fA0 : w1.cell? ⟨w.heap.size, 0, none⟩ = some (.int .i64 a0) := by rw [cell_of_row w1 _ 0 _ _ _ A_1.out]; rfl
        have fA1 : w1.cell? ⟨w.heap.size, 1, none⟩ = some (.slice ad0 xs0.length cap0) := by rw [cell_of_row w1 _ 1 _ _ _ A_1.out]; rfl
        go_wp2_with fail
        clear fA0 fA1
        refine (szCellSS_any _ _ _ _ _ hm1 hw1 (by omega) (by omega) (H1.out.below q1)).mono ?_
        rw [if_neg (by omega)]
        rintro e w' ⟨rfl, rfl⟩
        have fA0 : w1.cell? ⟨w.heap.size, 0, none⟩ = some (.int .i64 a0) := by rw [cell_of_row w1 _ 0 _ _ _ A_1.out]; rfl
        have fA1 : w1.cell? ⟨w.heap.size, 1, none⟩ = some (.slice ad0 xs0.length cap0) := by rw [cell_of_row w1 _ 1 _ _ _ A_1.out]; rfl
        go_wp2_with fail
        clear fA0 fA1
        refine (toRegion_any _ _ _ xs0 _ hn0 (H0.out.below q1)).mono ?_
        rintro e w2 ⟨a2_, c2_, rfl, ho2, hb2⟩
        have z2 := hb2.size
        have q2 : Below w.heap.size w w2 := q1.trans (hb2.mono q1.size)
        have A_2 := Lib.hid ((hb2.block w.heap.size (lt_of_block A_1.out)).trans A_1.out)
        clear A_1
        have S0 := Lib.hid (Owned.of ho2)
        clear ho2
        have fA0 : w2.cell? ⟨w.heap.size, 0, none⟩ = some (.int .i64 a0) := by rw [cell_of_row w2 _ 0 _ _ _ A_2.out]; rfl
        have fA1 : w2.cell? ⟨w.heap.size, 1, none⟩ = some (.slice ad0 xs0.length cap0) := by rw [cell_of_row w2 _ 1 _ _ _ A_2.out]; rfl
        go_wp2_with fail
        clear fA0 fA1
        refine (toCellSS_any _ _ xs1 _ hn1 hl1 (H1.out.below q2)).mono ?_
        rintro e w3 ⟨a3_, c3_, rfl, ho3, hb3⟩
        have z3 := hb3.size
        have q3 : Below w.heap.size w w3 := q2.trans (hb3.mono q2.size)
        have S0_3 := Lib.hid (S0.out.below hb3 (by omega))
        clear S0
        have A_3 := Lib.hid ((hb3.block w.heap.size (lt_of_block A_2.out)).trans A_2.out)
        clear A_2
        have S1 := Lib.hid (OwnP.of ho3)
        clear ho3
        have fA0 : w3.cell? ⟨w.heap.size, 0, none⟩ = some (.int .i64 a0) := by rw [cell_of_row w3 _ 0 _ _ _ A_3.out]; rfl
        have fA1 : w3.cell? ⟨w.heap.size, 1, none⟩ = some (.slice ad0 xs0.length cap0) := by rw [cell_of_row w3 _ 1 _ _ _ A_3.out]; rfl
        go_wp2_with fail
        clear fA0 fA1
        refine (toIntS_any _ _ xs2 _ hn2 (H2.out.below q3)).mono ?_
        rintro e w4 ⟨a4_, c4_, rfl, ho4, hb4⟩
        have z4 := hb4.size
        have q4 : Below w.heap.size w w4 := q3.trans (hb4.mono q3.size)
        have S0_4 := Lib.hid (S0_3.out.below hb4 (by omega))
        clear S0_3
        have S1_4 := Lib.hid (S1.out.below hb4 (by omega))
        clear S1
        have A_4 := Lib.hid ((hb4.block w.heap.size (lt_of_block A_3.out)).trans A_3.out)
        clear A_3
        have S2 := Lib.hid (Owned.of ho4)
        clear ho4
        have fA0 : w4.cell? ⟨w.heap.size, 0, none⟩ = some (.int .i64 a0) := by rw [cell_of_row w4 _ 0 _ _ _ A_4.out]; rfl
        have fA1 : w4.cell? ⟨w.heap.size, 1, none⟩ = some (.slice ad0 xs0.length cap0) := by rw [cell_of_row w4 _ 1 _ _ _ A_4.out]; rfl
        go_wp2_with fail
        clear fA0 fA1
        refine (HS.out _ _ _ _ _ _ _ S0_4.out.le_cap S1_4.out.le_cap S2.out.le_cap S0_4.out.cells S1_4.out.cells S2.out.cells).mono ?_
        rintro e w5 ⟨rfl, hb5⟩
        have z5 := hb5.size
        have q5 : Below w.heap.size w w5 := q4.trans (hb5.mono q4.size)
        have S0_5 := Lib.hid (S0_4.out.below hb5 (by omega))
        clear S0_4
        have S1_5 := Lib.hid (S1_4.out.below hb5 (by omega))
        clear S1_4
        have S2_5 := Lib.hid (S2.out.below hb5 (by omega))
        clear S2
        have A_5 := Lib.hid ((hb5.block w.heap.size (lt_of_block A_4.out)).trans A_4.out)
        clear A_4
        clear S0_5
        clear S1_5
        clear S2_5
        have fA0 : w5.cell? ⟨w.heap.size, 0, none⟩ = some (.int .i64 a0) := by rw [cell_of_row w5 _ 0 _ _ _ A_5.out]; rfl
        have fA1 : w5.cell? ⟨w.heap.size, 1, none⟩ = some (.slice ad0 xs0.length cap0) := by rw [cell_of_row w5 _ 1 _ _ _ A_5.out]; rfl
        go_wp2_with fail
        clear fA0 fA1
        refine (toRegion_any _ _ _ xs0 _ hn0 (H0.out.below q5)).mono ?_
        rintro e w6 ⟨a6_, c6_, rfl, ho6, hb6⟩
        have z6 := hb6.size
        have q6 : Below w.heap.size w w6 := q5.trans (hb6.mono q5.size)
        have A_6 := Lib.hid ((hb6.block w.heap.size (lt_of_block A_5.out)).trans A_5.out)
        clear A_5
        have X0 := Lib.hid (Owned.of ho6)
        clear ho6
        have fA0 : w6.cell? ⟨w.heap.size, 0, none⟩ = some (.int .i64 a0) := by rw [cell_of_row w6 _ 0 _ _ _ A_6.out]; rfl
        have fA1 : w6.cell? ⟨w.heap.size, 1, none⟩ = some (.slice ad0 xs0.length cap0) := by rw [cell_of_row w6 _ 1 _ _ _ A_6.out]; rfl
        go_wp2_with fail
        clear fA0 fA1
        have hb7 : Below w6.heap.size w6 (w6.alloc (.cells #[.int .i64 a0, .slice a6_ xs0.length c6_] 29)) := (Below.refl _ _).alloc (Nat.le_refl _) _
        have zb7 : (w6.alloc (.cells #[.int .i64 a0, .slice a6_ xs0.length c6_] 29)).heap.size = w6.heap.size + 1 := by simp
        have hbx : (w6.alloc (.cells #[.int .i64 a0, .slice a6_ xs0.length c6_] 29)).heap[w6.heap.size]? = some (.cells #[.int .i64 a0, .slice a6_ xs0.length c6_] 29 (0, 0)) := heap_alloc_new w6 _
        generalize w6.alloc (.cells #[.int .i64 a0, .slice a6_ xs0.length c6_] 29) = w7 at hb7 zb7 hbx ⊢
        have z7 := hb7.size
        have q7 : Below w.heap.size w w7 := q6.trans (hb7.mono q6.size)
        have X0_7 := Lib.hid (X0.out.below hb7 (by omega))
        clear X0
        have A_7 := Lib.hid ((hb7.block w.heap.size (lt_of_block A_6.out)).trans A_6.out)
        clear A_6
        have X0b_7 := Lib.hid hbx
        clear hbx
        refine (toCellSS_any _ _ xs1 _ hn1 hl1 (H1.out.below q7)).mono ?_
        rintro e w8 ⟨a8_, c8_, rfl, ho8, hb8⟩
        have z8 := hb8.size
        have q8 : Below w.heap.size w w8 := q7.trans (hb8.mono q7.size)
        have X0_8 := Lib.hid (X0_7.out.below hb8 (by omega))
        clear X0_7
        have A_8 := Lib.hid ((hb8.block w.heap.size (lt_of_block A_7.out)).trans A_7.out)
        clear A_7
        have X0b_8 := Lib.hid ((hb8.block w6.heap.size (lt_of_block X0b_7.out)).trans X0b_7.out)
        clear X0b_7
        have X1 := Lib.hid (OwnP.of ho8)
        clear ho8
        have fA0 : w8.cell? ⟨w.heap.size, 0, none⟩ = some (.int .i64 a0) := by rw [cell_of_row w8 _ 0 _ _ _ A_8.out]; rfl
        have fA1 : w8.cell? ⟨w.heap.size, 1, none⟩ = some (.slice ad0 xs0.length cap0) := by rw [cell_of_row w8 _ 1 _ _ _ A_8.out]; rfl
        have fX0b0 : w8.cell? ⟨w6.heap.size, 0, none⟩ = some (.int .i64 a0) := by rw [cell_of_row w8 _ 0 _ _ _ X0b_8.out]; rfl
        have fX0b1 : w8.cell? ⟨w6.heap.size, 1, none⟩ = some (.slice a6_ xs0.length c6_) := by rw [cell_of_row w8 _ 1 _ _ _ X0b_8.out]; rfl
        go_wp2_with fail
        clear fA0 fA1
        clear fX0b0 fX0b1
        refine (toIntS_any _ _ xs2 _ hn2 (H2.out.below q8)).mono ?_
        rintro e w9 ⟨a9_, c9_, rfl, ho9, hb9⟩
        have z9 := hb9.size
        have q9 : Below w.heap.size w w9 := q8.trans (hb9.mono q8.size)
        have X0_9 := Lib.hid (X0_8.out.below hb9 (by omega))
        clear X0_8
        have X1_9 := Lib.hid (X1.out.below hb9 (by omega))
        clear X1
        have A_9 := Lib.hid ((hb9.block w.heap.size (lt_of_block A_8.out)).trans A_8.out)
        clear A_8
        have X0b_9 := Lib.hid ((hb9.block w6.heap.size (lt_of_block X0b_8.out)).trans X0b_8.out)
        clear X0b_8
        have X2 := Lib.hid (Owned.of ho9)
        clear ho9
        have fA0 : w9.cell? ⟨w.heap.size, 0, none⟩ = some (.int .i64 a0) := by rw [cell_of_row w9 _ 0 _ _ _ A_9.out]; rfl
        have fA1 : w9.cell? ⟨w.heap.size, 1, none⟩ = some (.slice ad0 xs0.length cap0) := by rw [cell_of_row w9 _ 1 _ _ _ A_9.out]; rfl
        have fX0b0 : w9.cell? ⟨w6.heap.size, 0, none⟩ = some (.int .i64 a0) := by rw [cell_of_row w9 _ 0 _ _ _ X0b_9.out]; rfl
        have fX0b1 : w9.cell? ⟨w6.heap.size, 1, none⟩ = some (.slice a6_ xs0.length c6_) := by rw [cell_of_row w9 _ 1 _ _ _ X0b_9.out]; rfl
        go_wp2_with fail
        clear fA0 fA1
        clear fX0b0 fX0b1
        refine (HI.out _ _ _ _ _ _ _ X0_9.out.le_cap X1_9.out.le_cap X2.out.le_cap X0_9.out.cells X1_9.out.cells X2.out.cells (HT.out.below q9)).mono ?_
        rintro e w10 ⟨rfl, hb10⟩
        have z10 := hb10.size
        have q10 : Below w.heap.size w w10 := q9.trans (hb10.mono q9.size)
        have X0_10 := Lib.hid (X0_9.out.below hb10 (by omega))
        clear X0_9
        have X1_10 := Lib.hid (X1_9.out.below hb10 (by omega))
        clear X1_9
        have X2_10 := Lib.hid (X2.out.below hb10 (by omega))
        clear X2
        have A_10 := Lib.hid ((hb10.block w.heap.size (lt_of_block A_9.out)).trans A_9.out)
        clear A_9
        have X0b_10 := Lib.hid ((hb10.block w6.heap.size (lt_of_block X0b_9.out)).trans X0b_9.out)
        clear X0b_9
        have fA0 : w10.cell? ⟨w.heap.size, 0, none⟩ = some (.int .i64 a0) := by rw [cell_of_row w10 _ 0 _ _ _ A_10.out]; rfl
        have fA1 : w10.cell? ⟨w.heap.size, 1, none⟩ = some (.slice ad0 xs0.length cap0) := by rw [cell_of_row w10 _ 1 _ _ _ A_10.out]; rfl
        have fX0b0 : w10.cell? ⟨w6.heap.size, 0, none⟩ = some (.int .i64 a0) := by rw [cell_of_row w10 _ 0 _ _ _ X0b_10.out]; rfl
        have fX0b1 : w10.cell? ⟨w6.heap.size, 1, none⟩ = some (.slice a6_ xs0.length c6_) := by rw [cell_of_row w10 _ 1 _ _ _ X0b_10.out]; rfl
        go_wp2_with fail
        have hq11 : CellsAt (w10.drew) ad0 (ints xs0) := (show CellsAt w10 ad0 (ints xs0) from H0.out.below q10)
        have HQ11 := Lib.hid hq11
        clear hq11
        have hqx11 := Lib.hid X0_10.out
        go_region_held3 (fun w' => w'.cell? ⟨w.heap.size, 0, none⟩ = some (.int .i64 a0) ∧ w'.cell? ⟨w.heap.size, 1, none⟩ = some (.slice ad0 xs0.length cap0) ∧ w'.cell? ⟨w6.heap.size, 0, none⟩ = some (.int .i64 a0) ∧ w'.cell? ⟨w6.heap.size, 1, none⟩ = some (.slice a6_ xs0.length c6_))
          (first | go_keep | exact ⟨(hb11.cell (p := ⟨w.heap.size, 0, none⟩) (by have := lt_of_block A_10.out; simp; omega)).trans fA0, (hb11.cell (p := ⟨w.heap.size, 1, none⟩) (by have := lt_of_block A_10.out; simp; omega)).trans fA1, (hb11.cell (p := ⟨w6.heap.size, 0, none⟩) (by have := lt_of_block X0b_10.out; simp; omega)).trans fX0b0, (hb11.cell (p := ⟨w6.heap.size, 1, none⟩) (by have := lt_of_block X0b_10.out; simp; omega)).trans fX0b1⟩ | exact ⟨((Below.trans (Below.mono hb11 (Nat.le_refl _)) (hb12.mono hb11.size)).cell (p := ⟨w.heap.size, 0, none⟩) (by have := lt_of_block A_10.out; simp; omega)).trans fA0, ((Below.trans (Below.mono hb11 (Nat.le_refl _)) (hb12.mono hb11.size)).cell (p := ⟨w.heap.size, 1, none⟩) (by have := lt_of_block A_10.out; simp; omega)).trans fA1, ((Below.trans (Below.mono hb11 (Nat.le_refl _)) (hb12.mono hb11.size)).cell (p := ⟨w6.heap.size, 0, none⟩) (by have := lt_of_block X0b_10.out; simp; omega)).trans fX0b0, ((Below.trans (Below.mono hb11 (Nat.le_refl _)) (hb12.mono hb11.size)).cell (p := ⟨w6.heap.size, 1, none⟩) (by have := lt_of_block X0b_10.out; simp; omega)).trans fX0b1⟩)
          (first | (go_at_call 9; refine (toRegion_any _ _ _ xs0 _ hn0 HQ11.out).mono ?_; rintro e w11 ⟨a11_, c11_, rfl, ho11, hb11⟩) | (go_at_call 13; refine (eqRegion_same _ _ _ _ _ xs0 _ hn0 (CellsAt.below (w := w10.drew) (Owned.cells (w := w10) X0_10.out) hb11) (ownsRow_cellsAt ho11)).mono ?_; rintro e w12 ⟨rfl, hb12⟩))
        clear HQ11
        clear fA0 fA1
        clear fX0b0 fX0b1
        have hb11_ : Below w10.heap.size w10 w11 := (Below.refl _ _).drew.trans (hb11.mono (Nat.le_refl _))
        clear hb11
        have hb11 := hb11_
        have z11 := hb11.size
        have q11 : Below w.heap.size w w11 := q10.trans (hb11.mono q10.size)
        have X0_11 := Lib.hid (X0_10.out.below hb11 (by omega))
        clear X0_10
        have X1_11 := Lib.hid (X1_10.out.below hb11 (by omega))
        clear X1_10
        have X2_11 := Lib.hid (X2_10.out.below hb11 (by omega))
        clear X2_10
        have A_11 := Lib.hid ((hb11.block w.heap.size (lt_of_block A_10.out)).trans A_10.out)
        clear A_10
        have X0b_11 := Lib.hid ((hb11.block w6.heap.size (lt_of_block X0b_10.out)).trans X0b_10.out)
        clear X0b_10
        have z12 := hb12.size
        have q12 : Below w.heap.size w w12 := q11.trans (hb12.mono q11.size)
        have X0_12 := Lib.hid (X0_11.out.below hb12 (by omega))
        clear X0_11
        have X1_12 := Lib.hid (X1_11.out.below hb12 (by omega))
        clear X1_11
        have X2_12 := Lib.hid (X2_11.out.below hb12 (by omega))
        clear X2_11
        have A_12 := Lib.hid ((hb12.block w.heap.size (lt_of_block A_11.out)).trans A_11.out)
        clear A_11
        have X0b_12 := Lib.hid ((hb12.block w6.heap.size (lt_of_block X0b_11.out)).trans X0b_11.out)
        clear X0b_11
        have fA0 : w12.cell? ⟨w.heap.size, 0, none⟩ = some (.int .i64 a0) := by rw [cell_of_row w12 _ 0 _ _ _ A_12.out]; rfl
        have fA1 : w12.cell? ⟨w.heap.size, 1, none⟩ = some (.slice ad0 xs0.length cap0) := by rw [cell_of_row w12 _ 1 _ _ _ A_12.out]; rfl
        have fX0b0 : w12.cell? ⟨w6.heap.size, 0, none⟩ = some (.int .i64 a0) := by rw [cell_of_row w12 _ 0 _ _ _ X0b_12.out]; rfl
        have fX0b1 : w12.cell? ⟨w6.heap.size, 1, none⟩ = some (.slice a6_ xs0.length c6_) := by rw [cell_of_row w12 _ 1 _ _ _ X0b_12.out]; rfl
        go_wp2_with fail
        clear fA0 fA1
        clear fX0b0 fX0b1
        refine (toCellSS_any _ _ xs1 _ hn1 hl1 (H1.out.below q12)).mono ?_
        rintro e w13 ⟨a13_, c13_, rfl, ho13, hb13⟩
        have z13 := hb13.size
        have q13 : Below w.heap.size w w13 := q12.trans (hb13.mono q12.size)
        have X0_13 := Lib.hid (X0_12.out.below hb13 (by omega))
        clear X0_12
        have X1_13 := Lib.hid (X1_12.out.below hb13 (by omega))
        clear X1_12
        have X2_13 := Lib.hid (X2_12.out.below hb13 (by omega))
        clear X2_12
        have A_13 := Lib.hid ((hb13.block w.heap.size (lt_of_block A_12.out)).trans A_12.out)
        clear A_12
        have X0b_13 := Lib.hid ((hb13.block w6.heap.size (lt_of_block X0b_12.out)).trans X0b_12.out)
        clear X0b_12
        have Y1 := Lib.hid (OwnP.of ho13)
        clear ho13
        have fA0 : w13.cell? ⟨w.heap.size, 0, none⟩ = some (.int .i64 a0) := by rw [cell_of_row w13 _ 0 _ _ _ A_13.out]; rfl
        have fA1 : w13.cell? ⟨w.heap.size, 1, none⟩ = some (.slice ad0 xs0.length cap0) := by rw [cell_of_row w13 _ 1 _ _ _ A_13.out]; rfl
        have fX0b0 : w13.cell? ⟨w6.heap.size, 0, none⟩ = some (.int .i64 a0) := by rw [cell_of_row w13 _ 0 _ _ _ X0b_13.out]; rfl
        have fX0b1 : w13.cell? ⟨w6.heap.size, 1, none⟩ = some (.slice a6_ xs0.length c6_) := by rw [cell_of_row w13 _ 1 _ _ _ X0b_13.out]; rfl
        go_wp2_with fail
        clear fA0 fA1
        clear fX0b0 fX0b1
        refine (eqCellSS_same _ _ _ _ xs1 _ hn1 hl1 X1_13.out.cells Y1.out.cells).mono ?_
        rintro e w14 ⟨rfl, hb14⟩
        have z14 := hb14.size
        have q14 : Below w.heap.size w w14 := q13.trans (hb14.mono q13.size)
        have X0_14 := Lib.hid (X0_13.out.below hb14 (by omega))
        clear X0_13
        have X1_14 := Lib.hid (X1_13.out.below hb14 (by omega))
        clear X1_13
        have X2_14 := Lib.hid (X2_13.out.below hb14 (by omega))
        clear X2_13
        have Y1_14 := Lib.hid (Y1.out.below hb14 (by omega))
        clear Y1
        have A_14 := Lib.hid ((hb14.block w.heap.size (lt_of_block A_13.out)).trans A_13.out)
        clear A_13
        have X0b_14 := Lib.hid ((hb14.block w6.heap.size (lt_of_block X0b_13.out)).trans X0b_13.out)
        clear X0b_13
        clear Y1_14
        have fA0 : w14.cell? ⟨w.heap.size, 0, none⟩ = some (.int .i64 a0) := by rw [cell_of_row w14 _ 0 _ _ _ A_14.out]; rfl
        have fA1 : w14.cell? ⟨w.heap.size, 1, none⟩ = some (.slice ad0 xs0.length cap0) := by rw [cell_of_row w14 _ 1 _ _ _ A_14.out]; rfl
        have fX0b0 : w14.cell? ⟨w6.heap.size, 0, none⟩ = some (.int .i64 a0) := by rw [cell_of_row w14 _ 0 _ _ _ X0b_14.out]; rfl
        have fX0b1 : w14.cell? ⟨w6.heap.size, 1, none⟩ = some (.slice a6_ xs0.length c6_) := by rw [cell_of_row w14 _ 1 _ _ _ X0b_14.out]; rfl
        go_wp2_with fail
        clear fA0 fA1
        clear fX0b0 fX0b1
        refine (toIntS_any _ _ xs2 _ hn2 (H2.out.below q14)).mono ?_
        rintro e w15 ⟨a15_, c15_, rfl, ho15, hb15⟩
        have z15 := hb15.size
        have q15 : Below w.heap.size w w15 := q14.trans (hb15.mono q14.size)
        have X0_15 := Lib.hid (X0_14.out.below hb15 (by omega))
        clear X0_14
        have X1_15 := Lib.hid (X1_14.out.below hb15 (by omega))
        clear X1_14
        have X2_15 := Lib.hid (X2_14.out.below hb15 (by omega))
        clear X2_14
        have A_15 := Lib.hid ((hb15.block w.heap.size (lt_of_block A_14.out)).trans A_14.out)
        clear A_14
        have X0b_15 := Lib.hid ((hb15.block w6.heap.size (lt_of_block X0b_14.out)).trans X0b_14.out)
        clear X0b_14
        have Y2 := Lib.hid (Owned.of ho15)
        clear ho15
        have fA0 : w15.cell? ⟨w.heap.size, 0, none⟩ = some (.int .i64 a0) := by rw [cell_of_row w15 _ 0 _ _ _ A_15.out]; rfl
        have fA1 : w15.cell? ⟨w.heap.size, 1, none⟩ = some (.slice ad0 xs0.length cap0) := by rw [cell_of_row w15 _ 1 _ _ _ A_15.out]; rfl
        have fX0b0 : w15.cell? ⟨w6.heap.size, 0, none⟩ = some (.int .i64 a0) := by rw [cell_of_row w15 _ 0 _ _ _ X0b_15.out]; rfl
        have fX0b1 : w15.cell? ⟨w6.heap.size, 1, none⟩ = some (.slice a6_ xs0.length c6_) := by rw [cell_of_row w15 _ 1 _ _ _ X0b_15.out]; rfl
        go_wp2_with fail
        clear fA0 fA1
        clear fX0b0 fX0b1
        refine (eqIntS_same _ _ _ _ xs2 _ hn2 X2_15.out.cells Y2.out.cells).mono ?_
        rintro e w16 ⟨rfl, hb16⟩
        have z16 := hb16.size
        have q16 : Below w.heap.size w w16 := q15.trans (hb16.mono q15.size)
        have X0_16 := Lib.hid (X0_15.out.below hb16 (by omega))
        clear X0_15
        have X1_16 := Lib.hid (X1_15.out.below hb16 (by omega))
        clear X1_15
        have X2_16 := Lib.hid (X2_15.out.below hb16 (by omega))
        clear X2_15
        have Y2_16 := Lib.hid (Y2.out.below hb16 (by omega))
        clear Y2
        have A_16 := Lib.hid ((hb16.block w.heap.size (lt_of_block A_15.out)).trans A_15.out)
        clear A_15
        have X0b_16 := Lib.hid ((hb16.block w6.heap.size (lt_of_block X0b_15.out)).trans X0b_15.out)
        clear X0b_15
        clear Y2_16
        have fA0 : w16.cell? ⟨w.heap.size, 0, none⟩ = some (.int .i64 a0) := by rw [cell_of_row w16 _ 0 _ _ _ A_16.out]; rfl
        have fA1 : w16.cell? ⟨w.heap.size, 1, none⟩ = some (.slice ad0 xs0.length cap0) := by rw [cell_of_row w16 _ 1 _ _ _ A_16.out]; rfl
        have fX0b0 : w16.cell? ⟨w6.heap.size, 0, none⟩ = some (.int .i64 a0) := by rw [cell_of_row w16 _ 0 _ _ _ X0b_16.out]; rfl
        have fX0b1 : w16.cell? ⟨w6.heap.size, 1, none⟩ = some (.slice a6_ xs0.length c6_) := by rw [cell_of_row w16 _ 1 _ _ _ X0b_16.out]; rfl
        go_wp2_with fail
        clear fA0 fA1
        clear fX0b0 fX0b1
        go_ret
        exact ⟨rfl, q16⟩
      · skip
        go_enter Tryz.func3, Tryz.ntmps3
        go_wp2_with fail
        have q0 : Below w.heap.size w (w.alloc (.cells #[.int .i64 a0, .slice ad0 xs0.length cap0] 24)) := (Below.refl _ _).alloc (Nat.le_refl _) _
        have z0 : (w.alloc (.cells #[.int .i64 a0, .slice ad0 xs0.length cap0] 24)).heap.size = w.heap.size + 1 := by simp
        have hbx : (w.alloc (.cells #[.int .i64 a0, .slice ad0 xs0.length cap0] 24)).heap[w.heap.size]? = some (.cells #[.int .i64 a0, .slice ad0 xs0.length cap0] 24 (0, 0)) := heap_alloc_new w _
        generalize w.alloc (.cells #[.int .i64 a0, .slice ad0 xs0.length cap0] 24) = w0 at q0 z0 hbx ⊢
        have A0_0 := Lib.hid hbx
        clear hbx
        refine (szRegion_any _ _ _ _ _ _ hm0 (by omega) (by omega)).mono ?_
        rw [if_neg (by omega)]
        rintro e w1 ⟨rfl, hb1⟩
        have z1 := hb1.size
        have q1 : Below w.heap.size w w1 := q0.trans (hb1.mono q0.size)
        have A_1 := Lib.hid ((hb1.block w.heap.size (lt_of_block A0_0.out)).trans A0_0.out)
        clear A0_0
        have fA0 : w1.cell? ⟨w.heap.size, 0, none⟩ = some (.int .i64 a0) := by rw [cell_of_row w1 _ 0 _ _ _ A_1.out]; rfl
        have fA1 : w1.cell? ⟨w.heap.size, 1, none⟩ = some (.slice ad0 xs0.length cap0) := by rw [cell_of_row w1 _ 1 _ _ _ A_1.out]; rfl
        go_wp2_with fail
        clear fA0 fA1
        refine (szCellSS_any _ _ _ _ _ hm1 hw1 (by omega) (by omega) (H1.out.below q1)).mono ?_
        rw [if_pos (by omega)]
        rintro e w' ⟨rfl, rfl⟩
        have fA0 : w1.cell? ⟨w.heap.size, 0, none⟩ = some (.int .i64 a0) := by rw [cell_of_row w1 _ 0 _ _ _ A_1.out]; rfl
        have fA1 : w1.cell? ⟨w.heap.size, 1, none⟩ = some (.slice ad0 xs0.length cap0) := by rw [cell_of_row w1 _ 1 _ _ _ A_1.out]; rfl
        go_wp2_with fail
        clear fA0 fA1
        go_ret
        exact ⟨rfl, q1⟩
    · skip
      go_enter Tryz.func3, Tryz.ntmps3
      go_wp2_with fail
      have q0 : Below w.heap.size w (w.alloc (.cells #[.int .i64 a0, .slice ad0 xs0.length cap0] 24)) := (Below.refl _ _).alloc (Nat.le_refl _) _
      have z0 : (w.alloc (.cells #[.int .i64 a0, .slice ad0 xs0.length cap0] 24)).heap.size = w.heap.size + 1 := by simp
      have hbx : (w.alloc (.cells #[.int .i64 a0, .slice ad0 xs0.length cap0] 24)).heap[w.heap.size]? = some (.cells #[.int .i64 a0, .slice ad0 xs0.length cap0] 24 (0, 0)) := heap_alloc_new w _
      generalize w.alloc (.cells #[.int .i64 a0, .slice ad0 xs0.length cap0] 24) = w0 at q0 z0 hbx ⊢
      have A0_0 := Lib.hid hbx
      clear hbx
      refine (szRegion_any _ _ _ _ _ _ hm0 (by omega) (by omega)).mono ?_
      rw [if_pos (by omega)]
      rintro e w1 ⟨rfl, hb1⟩
      have z1 := hb1.size
      have q1 : Below w.heap.size w w1 := q0.trans (hb1.mono q0.size)
      have A_1 := Lib.hid ((hb1.block w.heap.size (lt_of_block A0_0.out)).trans A0_0.out)
      clear A0_0
      have fA0 : w1.cell? ⟨w.heap.size, 0, none⟩ = some (.int .i64 a0) := by rw [cell_of_row w1 _ 0 _ _ _ A_1.out]; rfl
      have fA1 : w1.cell? ⟨w.heap.size, 1, none⟩ = some (.slice ad0 xs0.length cap0) := by rw [cell_of_row w1 _ 1 _ _ _ A_1.out]; rfl
      go_wp2_with fail
      clear fA0 fA1
      go_ret
      exact ⟨rfl, q1⟩
  · skip
    go_enter Tryz.func3, Tryz.ntmps3
    go_wp2_with fail
    have q0 : Below w.heap.size w (w.alloc (.cells #[.int .i64 a0, .slice ad0 xs0.length cap0] 24)) := (Below.refl _ _).alloc (Nat.le_refl _) _
    have z0 : (w.alloc (.cells #[.int .i64 a0, .slice ad0 xs0.length cap0] 24)).heap.size = w.heap.size + 1 := by simp
    have hbx : (w.alloc (.cells #[.int .i64 a0, .slice ad0 xs0.length cap0] 24)).heap[w.heap.size]? = some (.cells #[.int .i64 a0, .slice ad0 xs0.length cap0] 24 (0, 0)) := heap_alloc_new w _
    generalize w.alloc (.cells #[.int .i64 a0, .slice ad0 xs0.length cap0] 24) = w0 at q0 z0 hbx ⊢
    have A0_0 := Lib.hid hbx
    clear hbx
    have fA0 : w0.cell? ⟨w.heap.size, 0, none⟩ = some (.int .i64 a0) := by rw [cell_of_row w0 _ 0 _ _ _ A0_0.out]; rfl
    have fA1 : w0.cell? ⟨w.heap.size, 1, none⟩ = some (.slice ad0 xs0.length cap0) := by rw [cell_of_row w0 _ 1 _ _ _ A0_0.out]; rfl
    go_wp2_with fail
    clear fA0 fA1
    go_ret
    exact ⟨rfl, q0⟩

set_option maxRecDepth 100000 in
theorem lifted (os : Os) (started : os.Started) (H : Type) (enc : TypeId × Value → H) :
    ReturnsInHanded {} Tryz.checked os 3 .any (fun w args => (Rows.fnExactIsFaultFreeSpec.pre enc Tryz.prog Tryz.f3 Rows.fnExactIsFaultFreeRow.domain false w args ∧ laidMetH Tryz.prog tabs w) ∧ sizedMet enc Tryz.prog Tryz.f3 (OpenSpec.ofChange Rows.fnExactIsFaultFreeSpec) false w args) (Rows.fnExactIsFaultFreeSpec.post enc Tryz.prog Tryz.f3 false true false false) := by
  refine returnsInHanded_of_change_and (C := Tryz.checked) (X := fun w _ => laidMetH Tryz.prog tabs w) (fun _ _ _ hh h => h.of_heap hh) Tryz.own started (by kernel_rfl) Tryz.func3
    (ChangeSpec.witness_shaped (enc := enc) (C := Tryz.checked) (os := os) (X := fun w _ => laidMetH Tryz.prog tabs w) false (World.laidAll Tryz.prog os tabs) #[.agg #[.int .i64 0, .slice none 0 0], .slice none 0 0, .slice none 0 0] 8 (World.laidAll_os _ _ _)
      (World.shaped_of_ZipB (by kernel_rfl) (by kernel_rfl)) (by kernel_rfl) (by kernel_rfl) (by kernel_rfl)
      (by rw [MakeChecks.laidMetH_plain _ _ _ (by kernel_rfl)]; exact laidMet_laidAll _ (by kernel_rfl) (by kernel_rfl))) ?_
  intro W base args ds gs before hval0 hW hcnd _ hL _
  have hval : ∀ (j : Nat) t v, Tryz.f3.params[j]? = some t → args[j]? = some v → Value.okWide Tryz.prog W .any base t v := hval0
  have hW' := hW
  obtain ⟨p, q, hA0, hV, rfl, hfz, hnd⟩ := hW
  have hA : DataW.TrodAll enc Tryz.prog W 0 (fun _ => true) true Tryz.f3.params.toList args.toList ds p := hA0
  rw [Tryz.params3] at hA hval
  obtain ⟨v0, vs0, d0, ds0, p0, q0, hargs, rfl, rfl, h0, r0⟩ := trodAll_cons hA
  obtain ⟨v1, vs1, d1, ds1, p1, q1, rfl, rfl, rfl, h1, r1⟩ := trodAll_cons r0
  obtain ⟨v2, vs2, d2, ds2, p2, q2, rfl, rfl, rfl, h2, r2⟩ := trodAll_cons r1
  obtain ⟨rfl, rfl, rfl⟩ := trodAll_nil r2
  obtain rfl : args = #[v0, v1, v2] := by cases args; simp_all
  obtain ⟨rfl, rfl⟩ := trodVars_none hV
  obtain ⟨a0, ad0, cap0, xs0, rfl, w0, hm0, hc0, hw0⟩ := openRegion (hval 0 24 v0 rfl rfl) h0
  obtain ⟨ad1, cap1, xs1, rfl, hm1, hc1, hw1⟩ := openShps (hval 1 25 v1 rfl rfl) h1
  obtain ⟨ad2, cap2, xs2, rfl, hm2, hc2, hw2⟩ := openInts (hval 2 22 v2 rfl rfl) h2
  clear hA0 hval0
  refine (walk W a0 w0 ad0 cap0 xs0 hm0 hc0 hw0 ad1 cap1 xs1 hm1 hc1 hw1 ad2 cap2 xs2 hm2 hc2 hw2 (tab_of_laid hL)).mono fun e W' ⟨he, hb⟩ => ?_
  subst he
  exact ⟨_, rfl, law_post rfl hW' hb (by rw [Tryz.params3]; exact readable_all (by kernel_rfl)) (by kernel_rfl) (by kernel_rfl) rfl⟩

theorem proved : Rows.FnExactIsFaultFreeSaid :=
  OpenClaim.holds_of_wide 3 Tryz.f3 rfl rfl rfl rfl rfl rfl rfl ⟨rfl, rfl, rfl, rfl, rfl⟩ rfl rfl rfl rfl rfl (by kernel_rfl) Tryz.func3 (by kernel_rfl)
    (of_decide_eq_true (by kernel_rfl)) (by unfold Func.isWrapper; first | (rw [if_pos (by decide +kernel)]; kernel_rfl) | (rw [if_neg (by decide +kernel)]; exact ⟨rfl, rfl⟩))
    (fun os started H enc _ => lifted os started H enc)

theorem card : Rows.FnExactIsFaultFreeCardSaid :=
  Claim7.holds_tied_plain_at .later [] [.data, .data] true (true, "bf69c2ccbc204cd3ba110354508ee266a14c7a4d7d76ffc9b768566fcdb362cd") false proved (fun _ h => by cases h) (by kernel_rfl) (fun _ h => by cases h) fnExactIsFaultFree_row_tie rfl ⟨rfl, rfl⟩ (by kernel_rfl) rfl
    (fun f fn hf hfn => by
      obtain rfl : f = 3 := Option.some.inj ((show Tryz.prog.funcNamed "loop.example/g03400/laws.FnExactIsFaultFree" = some 3 by kernel_rfl).symm.trans hf) |>.symm
      obtain rfl : fn = Tryz.f3 := (Option.some.inj (Tryz.func3.symm.trans hfn)).symm
      exact ⟨by kernel_rfl, fun j t ht => by
        have hm : t ∈ Tryz.f3.params.toList := Array.mem_toList_iff.2 (Array.mem_of_getElem? ht)
        have hall : (Tryz.f3.params.toList.all fun u => !Tryz.prog.wantsStandIn u) = true := by kernel_rfl
        exact (show Tryz.prog.wantsStandIn t = false by simpa using List.all_eq_true.1 hall t hm)⟩)
    (by kernel_rfl)
end Go.Proofs.YtomaihbaffoplaaGreatDoor.lawIFF
