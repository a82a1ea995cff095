/- LawScaled: the program's ScaledRegion returns what the reference's returns, for every list of cells and every number; no condition. -/
import Derived.Test.YtnldmigofmedkaaFrameCell
import Derived.Test.YtnldmigofmedkaaMarkCell
import Derived.Test.YtnldmigofmedkaaMarkReg
import Derived.Test.YtnldmigofmedkaaHeldReg
import Derived.Test.YtnldmigofmedkaaScaleI
import Derived.Test.YtnldmigofmedkaaScaleS
import Derived.Test.YtnldmigofmedkaaScaleNo
import Derived.Deep.RegionHeld3
namespace Go.Proofs.Ytnldmigofmedkaa.lawScaled
open Go.ChangeShapes Go.WideShapes Go.ChangeAt Go.RowKit

theorem both (xs : List Cl) (_hw : ∀ x ∈ xs, (Lit.int .i64 x.x).wf = true ∧ (Lit.int .i64 x.y).wf = true) (hn : xs.length ≤ 1048576) (k : Int) (_wk : (Lit.int .i64 k).wf = true) :
    ∃ (rb0 : Int) (r0 : List Int) (r1 : Bool), r0.length ≤ 6 ∧
      (∀ w ad cap, xs.length ≤ cap → CellsAt w ad (cls xs) → Calls Try.prog 37 #[.slice ad xs.length cap, .int .i64 k] w fun e w' => ∃ b0 d0, e = .returned (.tuple #[.agg #[.int .i64 rb0, .slice b0 r0.length d0], .bool r1]) ∧ w'.ownsRow w.heap.size 3 1 (.slice b0 r0.length d0) r0.length (ints r0) ∧ Below w.heap.size w w') ∧
      ∀ w ad cap, xs.length ≤ cap → CellsAt w ad (cls xs) → Calls Try.prog 38 #[.slice ad xs.length cap, .int .i64 k] w fun e w' => ∃ b0 d0, e = .returned (.tuple #[.agg #[.int .i64 rb0, .slice b0 r0.length d0], .bool r1]) ∧ w'.ownsRow w.heap.size 3 1 (.slice b0 r0.length d0) r0.length (ints r0) ∧ Below w.heap.size w w' := by
  by_cases hok : scOk xs k = true
  · obtain ⟨_, ⟨hk1, _⟩, _, hY⟩ := scOk_iff.1 hok
    obtain ⟨K, rfl⟩ := Int.eq_ofNat_of_zero_le (by omega : 0 ≤ k)
    have h1 := fun w ad c hc => specScaled_yes ad c xs K w hn hok hc
    have h2 := fun w ad c hc => implScaled_yes ad c xs K w hn hok hc
    have hb : (sizeY xs).toNat * K ≤ 6 := by
      have h0 := (size_bd xs).2.1
      have : (((sizeY xs).toNat * K : Nat) : Int) ≤ 6 := by rw [Int.natCast_mul, Int.toNat_of_nonneg h0]; exact hY
      omega
    clear hY
    generalize (sizeY xs).toNat * K = N at h1 h2 hb
    have hl := tab_length N (scF K (cornL xs))
    generalize tab N (scF K (cornL xs)) = t at h1 h2 hl
    subst hl
    exact ⟨_, t, true, hb, fun w ad cap _ hc => h1 w ad cap hc, fun w ad cap _ hc => h2 w ad cap hc⟩
  · have hok' : scOk xs k = false := by cases q : scOk xs k with
      | false => rfl
      | true => exact absurd q hok
    exact ⟨0, [], false, by simp,
      fun w ad cap _ hc => (specScaled_no ad cap xs k w hn hok' hc).mono fun e w' q => ⟨none, 0, q.1, World.ownsRow_nil _ _ _ _, q.2⟩,
      fun w ad cap _ hc => (implScaled_no ad cap xs k w hn hok' hc).mono fun e w' q => ⟨none, 0, q.1, World.ownsRow_nil _ _ _ _, q.2⟩⟩

set_option maxRecDepth 100000 in
set_option maxHeartbeats 4000000 in
theorem walk (w : World) (ad0 : Option Addr) (cap0 : Nat) (xs0 : List Cl) (hm0 : xs0.length ≤ maxLen) (hc0 : CellsAt w ad0 (cls xs0)) (hw0 : ∀ x ∈ xs0, (Lit.int .i64 x.x).wf = true ∧ (Lit.int .i64 x.y).wf = true) (a1 : Int) (w1_ : (Lit.int .i64 a1).wf = true) :
    Calls Try.prog 8 #[.slice ad0 xs0.length cap0, .int .i64 a1] w fun e w' => e = .returned (.bool true) ∧ Below w.heap.size w w' := by
  unfold maxLen at hm0
  have H0 := Lib.hid hc0
  clear hc0
  by_cases hn0_ : xs0.length ≤ 1048576
  · skip
    have hn0 : xs0.length ≤ 1048576 := by omega
    obtain ⟨rb0, r0, r1, HL, hs, hi⟩ := both xs0 hw0 hn0 a1 w1_
    have HS := Lib.hid hs
    have HI := Lib.hid hi
    clear hs hi hw0 w1_
    have nn1 : (r1 != r1) = false := by simp
    have q0 : Below w.heap.size w w := Below.refl _ _
    go_enter Try.func8, Try.ntmps8
    go_wp2_with fail
    refine (szCellS_any _ _ _ _ _ hm0 (by omega) (by omega)).mono ?_
    rw [if_neg (by omega)]
    rintro e w' ⟨rfl, rfl⟩
    go_wp2_with fail
    refine (toCellS_any _ _ xs0 _ hn0 (H0.out.below q0)).mono ?_
    rintro e w1 ⟨a1_, c1_, rfl, ho1, hb1⟩
    have z1 := hb1.size
    have q1 : Below w.heap.size w w1 := q0.trans (hb1.mono q0.size)
    have S0 := Lib.hid (Owned.of ho1)
    clear ho1
    go_wp2_with fail
    refine (HS.out _ _ _ S0.out.le_cap S0.out.cells).mono ?_
    rintro e w2 ⟨b2_0, d2_0, rfl, ho2_0, hb2⟩
    have z2 := hb2.size
    have q2 : Below w.heap.size w w2 := q1.trans (hb2.mono q1.size)
    have S0_2 := Lib.hid (S0.out.below hb2 (by omega))
    clear S0
    have R0 := Lib.hid (Owned.of ho2_0)
    clear ho2_0
    go_upto_region 6 with (fail)
    have hb3 : Below w2.heap.size w2 (w2.alloc (.cells #[.int .i64 rb0, .slice b2_0 r0.length d2_0] 44)) := (Below.refl _ _).alloc (Nat.le_refl _) _
    have zb3 : (w2.alloc (.cells #[.int .i64 rb0, .slice b2_0 r0.length d2_0] 44)).heap.size = w2.heap.size + 1 := by simp
    have hbx : (w2.alloc (.cells #[.int .i64 rb0, .slice b2_0 r0.length d2_0] 44)).heap[w2.heap.size]? = some (.cells #[.int .i64 rb0, .slice b2_0 r0.length d2_0] 44 (0, 0)) := heap_alloc_new w2 _
    generalize w2.alloc (.cells #[.int .i64 rb0, .slice b2_0 r0.length d2_0] 44) = w3 at hb3 zb3 hbx ⊢
    have z3 := hb3.size
    have q3 : Below w.heap.size w w3 := q2.trans (hb3.mono q2.size)
    have S0_3 := Lib.hid (S0_2.out.below hb3 (by omega))
    clear S0_2
    have R0_3 := Lib.hid (R0.out.below hb3 (by omega))
    clear R0
    have ZR0_3 := Lib.hid hbx
    clear hbx
    clear S0_3
    have fZR00 : w3.cell? ⟨w2.heap.size, 0, none⟩ = some (.int .i64 rb0) := by rw [cell_of_row w3 _ 0 _ _ _ ZR0_3.out]; rfl
    have fZR01 : w3.cell? ⟨w2.heap.size, 1, none⟩ = some (.slice b2_0 r0.length d2_0) := by rw [cell_of_row w3 _ 1 _ _ _ ZR0_3.out]; rfl
    go_wp2_with fail
    clear fZR00 fZR01
    refine (toCellS_any _ _ xs0 _ hn0 (H0.out.below q3)).mono ?_
    rintro e w4 ⟨a4_, c4_, rfl, ho4, hb4⟩
    have z4 := hb4.size
    have q4 : Below w.heap.size w w4 := q3.trans (hb4.mono q3.size)
    have R0_4 := Lib.hid (R0_3.out.below hb4 (by omega))
    clear R0_3
    have ZR0_4 := Lib.hid ((hb4.block w2.heap.size (lt_of_block ZR0_3.out)).trans ZR0_3.out)
    clear ZR0_3
    have X0 := Lib.hid (Owned.of ho4)
    clear ho4
    have fZR00 : w4.cell? ⟨w2.heap.size, 0, none⟩ = some (.int .i64 rb0) := by rw [cell_of_row w4 _ 0 _ _ _ ZR0_4.out]; rfl
    have fZR01 : w4.cell? ⟨w2.heap.size, 1, none⟩ = some (.slice b2_0 r0.length d2_0) := by rw [cell_of_row w4 _ 1 _ _ _ ZR0_4.out]; rfl
    go_wp2_with fail
    clear fZR00 fZR01
    refine (HI.out _ _ _ X0.out.le_cap X0.out.cells).mono ?_
    rintro e w5 ⟨b5_0, d5_0, rfl, ho5_0, hb5⟩
    have z5 := hb5.size
    have q5 : Below w.heap.size w w5 := q4.trans (hb5.mono q4.size)
    have R0_5 := Lib.hid (R0_4.out.below hb5 (by omega))
    clear R0_4
    have X0_5 := Lib.hid (X0.out.below hb5 (by omega))
    clear X0
    have ZR0_5 := Lib.hid ((hb5.block w2.heap.size (lt_of_block ZR0_4.out)).trans ZR0_4.out)
    clear ZR0_4
    have G0 := Lib.hid (Owned.of ho5_0)
    clear ho5_0
    have fZR00 : w5.cell? ⟨w2.heap.size, 0, none⟩ = some (.int .i64 rb0) := by rw [cell_of_row w5 _ 0 _ _ _ ZR0_5.out]; rfl
    have fZR01 : w5.cell? ⟨w2.heap.size, 1, none⟩ = some (.slice b2_0 r0.length d2_0) := by rw [cell_of_row w5 _ 1 _ _ _ ZR0_5.out]; rfl
    go_upto_region 8 with (fail)
    clear fZR00 fZR01
    have hb6 : Below w5.heap.size w5 (w5.alloc (.cells #[.int .i64 rb0, .slice b5_0 r0.length d5_0] 44)) := (Below.refl _ _).alloc (Nat.le_refl _) _
    have zb6 : (w5.alloc (.cells #[.int .i64 rb0, .slice b5_0 r0.length d5_0] 44)).heap.size = w5.heap.size + 1 := by simp
    have hbx : (w5.alloc (.cells #[.int .i64 rb0, .slice b5_0 r0.length d5_0] 44)).heap[w5.heap.size]? = some (.cells #[.int .i64 rb0, .slice b5_0 r0.length d5_0] 44 (0, 0)) := heap_alloc_new w5 _
    generalize w5.alloc (.cells #[.int .i64 rb0, .slice b5_0 r0.length d5_0] 44) = w6 at hb6 zb6 hbx ⊢
    have z6 := hb6.size
    have q6 : Below w.heap.size w w6 := q5.trans (hb6.mono q5.size)
    have R0_6 := Lib.hid (R0_5.out.below hb6 (by omega))
    clear R0_5
    have X0_6 := Lib.hid (X0_5.out.below hb6 (by omega))
    clear X0_5
    have G0_6 := Lib.hid (G0.out.below hb6 (by omega))
    clear G0
    have ZR0_6 := Lib.hid ((hb6.block w2.heap.size (lt_of_block ZR0_5.out)).trans ZR0_5.out)
    clear ZR0_5
    have ZG0_6 := Lib.hid hbx
    clear hbx
    have fZR00 : w6.cell? ⟨w2.heap.size, 0, none⟩ = some (.int .i64 rb0) := by rw [cell_of_row w6 _ 0 _ _ _ ZR0_6.out]; rfl
    have fZR01 : w6.cell? ⟨w2.heap.size, 1, none⟩ = some (.slice b2_0 r0.length d2_0) := by rw [cell_of_row w6 _ 1 _ _ _ ZR0_6.out]; rfl
    have fZG00 : w6.cell? ⟨w5.heap.size, 0, none⟩ = some (.int .i64 rb0) := by rw [cell_of_row w6 _ 0 _ _ _ ZG0_6.out]; rfl
    have fZG01 : w6.cell? ⟨w5.heap.size, 1, none⟩ = some (.slice b5_0 r0.length d5_0) := by rw [cell_of_row w6 _ 1 _ _ _ ZG0_6.out]; rfl
    go_wp2_with fail
    clear fZR00 fZR01
    clear fZG00 fZG01
    refine (eqRegion_same _ _ _ _ _ r0 _ (by omega) G0_6.out.cells R0_6.out.cells).mono ?_
    rintro e w7 ⟨rfl, hb7⟩
    have z7 := hb7.size
    have q7 : Below w.heap.size w w7 := q6.trans (hb7.mono q6.size)
    have R0_7 := Lib.hid (R0_6.out.below hb7 (by omega))
    clear R0_6
    have X0_7 := Lib.hid (X0_6.out.below hb7 (by omega))
    clear X0_6
    have G0_7 := Lib.hid (G0_6.out.below hb7 (by omega))
    clear G0_6
    have ZR0_7 := Lib.hid ((hb7.block w2.heap.size (lt_of_block ZR0_6.out)).trans ZR0_6.out)
    clear ZR0_6
    have ZG0_7 := Lib.hid ((hb7.block w5.heap.size (lt_of_block ZG0_6.out)).trans ZG0_6.out)
    clear ZG0_6
    have fZR00 : w7.cell? ⟨w2.heap.size, 0, none⟩ = some (.int .i64 rb0) := by rw [cell_of_row w7 _ 0 _ _ _ ZR0_7.out]; rfl
    have fZR01 : w7.cell? ⟨w2.heap.size, 1, none⟩ = some (.slice b2_0 r0.length d2_0) := by rw [cell_of_row w7 _ 1 _ _ _ ZR0_7.out]; rfl
    have fZG00 : w7.cell? ⟨w5.heap.size, 0, none⟩ = some (.int .i64 rb0) := by rw [cell_of_row w7 _ 0 _ _ _ ZG0_7.out]; rfl
    have fZG01 : w7.cell? ⟨w5.heap.size, 1, none⟩ = some (.slice b5_0 r0.length d5_0) := by rw [cell_of_row w7 _ 1 _ _ _ ZG0_7.out]; rfl
    go_wp2_with fail
    clear fZR00 fZR01
    clear fZG00 fZG01
    refine (toCellS_any _ _ xs0 _ hn0 (H0.out.below q7)).mono ?_
    rintro e w8 ⟨a8_, c8_, rfl, ho8, hb8⟩
    have z8 := hb8.size
    have q8 : Below w.heap.size w w8 := q7.trans (hb8.mono q7.size)
    have R0_8 := Lib.hid (R0_7.out.below hb8 (by omega))
    clear R0_7
    have X0_8 := Lib.hid (X0_7.out.below hb8 (by omega))
    clear X0_7
    have G0_8 := Lib.hid (G0_7.out.below hb8 (by omega))
    clear G0_7
    have ZR0_8 := Lib.hid ((hb8.block w2.heap.size (lt_of_block ZR0_7.out)).trans ZR0_7.out)
    clear ZR0_7
    have ZG0_8 := Lib.hid ((hb8.block w5.heap.size (lt_of_block ZG0_7.out)).trans ZG0_7.out)
    clear ZG0_7
    have Y0 := Lib.hid (Owned.of ho8)
    clear ho8
    have fZR00 : w8.cell? ⟨w2.heap.size, 0, none⟩ = some (.int .i64 rb0) := by rw [cell_of_row w8 _ 0 _ _ _ ZR0_8.out]; rfl
    have fZR01 : w8.cell? ⟨w2.heap.size, 1, none⟩ = some (.slice b2_0 r0.length d2_0) := by rw [cell_of_row w8 _ 1 _ _ _ ZR0_8.out]; rfl
    have fZG00 : w8.cell? ⟨w5.heap.size, 0, none⟩ = some (.int .i64 rb0) := by rw [cell_of_row w8 _ 0 _ _ _ ZG0_8.out]; rfl
    have fZG01 : w8.cell? ⟨w5.heap.size, 1, none⟩ = some (.slice b5_0 r0.length d5_0) := by rw [cell_of_row w8 _ 1 _ _ _ ZG0_8.out]; rfl
    go_wp2_with fail
    clear fZR00 fZR01
    clear fZG00 fZG01
    refine (eqCellS_same _ _ _ _ xs0 _ hn0 X0_8.out.cells Y0.out.cells).mono ?_
    rintro e w9 ⟨rfl, hb9⟩
    have z9 := hb9.size
    have q9 : Below w.heap.size w w9 := q8.trans (hb9.mono q8.size)
    have R0_9 := Lib.hid (R0_8.out.below hb9 (by omega))
    clear R0_8
    have X0_9 := Lib.hid (X0_8.out.below hb9 (by omega))
    clear X0_8
    have G0_9 := Lib.hid (G0_8.out.below hb9 (by omega))
    clear G0_8
    have Y0_9 := Lib.hid (Y0.out.below hb9 (by omega))
    clear Y0
    have ZR0_9 := Lib.hid ((hb9.block w2.heap.size (lt_of_block ZR0_8.out)).trans ZR0_8.out)
    clear ZR0_8
    have ZG0_9 := Lib.hid ((hb9.block w5.heap.size (lt_of_block ZG0_8.out)).trans ZG0_8.out)
    clear ZG0_8
    clear Y0_9
    have fZR00 : w9.cell? ⟨w2.heap.size, 0, none⟩ = some (.int .i64 rb0) := by rw [cell_of_row w9 _ 0 _ _ _ ZR0_9.out]; rfl
    have fZR01 : w9.cell? ⟨w2.heap.size, 1, none⟩ = some (.slice b2_0 r0.length d2_0) := by rw [cell_of_row w9 _ 1 _ _ _ ZR0_9.out]; rfl
    have fZG00 : w9.cell? ⟨w5.heap.size, 0, none⟩ = some (.int .i64 rb0) := by rw [cell_of_row w9 _ 0 _ _ _ ZG0_9.out]; rfl
    have fZG01 : w9.cell? ⟨w5.heap.size, 1, none⟩ = some (.slice b5_0 r0.length d5_0) := by rw [cell_of_row w9 _ 1 _ _ _ ZG0_9.out]; rfl
    go_wp2_with fail
    clear fZR00 fZR01
    clear fZG00 fZG01
    refine (markCellS_all (k := 1) _ _ _ _ xs0 _ hn0 (by omega) X0_9.out).mono ?_
    rintro e w10 ⟨rfl, _, ht10⟩
    have z10 := ht10.size
    have zq10 := q9.size
    have q10 : Below w.heap.size w w10 := q9.trans (ht10.below (by omega) (by omega))
    have R0_10 := Lib.hid (R0_9.out.touched ht10 (by omega))
    clear R0_9
    have G0_10 := Lib.hid (G0_9.out.touched ht10 (by omega))
    clear G0_9
    have ZR0_10 := Lib.hid ((ht10.block w2.heap.size (lt_of_block ZR0_9.out) (by omega)).trans ZR0_9.out)
    clear ZR0_9
    have ZG0_10 := Lib.hid ((ht10.block w5.heap.size (lt_of_block ZG0_9.out) (by omega)).trans ZG0_9.out)
    clear ZG0_9
    have fZR00 : w10.cell? ⟨w2.heap.size, 0, none⟩ = some (.int .i64 rb0) := by rw [cell_of_row w10 _ 0 _ _ _ ZR0_10.out]; rfl
    have fZR01 : w10.cell? ⟨w2.heap.size, 1, none⟩ = some (.slice b2_0 r0.length d2_0) := by rw [cell_of_row w10 _ 1 _ _ _ ZR0_10.out]; rfl
    have fZG00 : w10.cell? ⟨w5.heap.size, 0, none⟩ = some (.int .i64 rb0) := by rw [cell_of_row w10 _ 0 _ _ _ ZG0_10.out]; rfl
    have fZG01 : w10.cell? ⟨w5.heap.size, 1, none⟩ = some (.slice b5_0 r0.length d5_0) := by rw [cell_of_row w10 _ 1 _ _ _ ZG0_10.out]; rfl
    go_wp2_with fail
    clear fZR00 fZR01
    clear fZG00 fZG01
    refine (eqRegion_same _ _ _ _ _ r0 _ (by omega) G0_10.out.cells R0_10.out.cells).mono ?_
    rintro e w11 ⟨rfl, hb11⟩
    have z11 := hb11.size
    have q11 : Below w.heap.size w w11 := q10.trans (hb11.mono q10.size)
    have R0_11 := Lib.hid (R0_10.out.below hb11 (by omega))
    clear R0_10
    have G0_11 := Lib.hid (G0_10.out.below hb11 (by omega))
    clear G0_10
    have ZR0_11 := Lib.hid ((hb11.block w2.heap.size (lt_of_block ZR0_10.out)).trans ZR0_10.out)
    clear ZR0_10
    have ZG0_11 := Lib.hid ((hb11.block w5.heap.size (lt_of_block ZG0_10.out)).trans ZG0_10.out)
    clear ZG0_10
    have fZR00 : w11.cell? ⟨w2.heap.size, 0, none⟩ = some (.int .i64 rb0) := by rw [cell_of_row w11 _ 0 _ _ _ ZR0_11.out]; rfl
    have fZR01 : w11.cell? ⟨w2.heap.size, 1, none⟩ = some (.slice b2_0 r0.length d2_0) := by rw [cell_of_row w11 _ 1 _ _ _ ZR0_11.out]; rfl
    have fZG00 : w11.cell? ⟨w5.heap.size, 0, none⟩ = some (.int .i64 rb0) := by rw [cell_of_row w11 _ 0 _ _ _ ZG0_11.out]; rfl
    have fZG01 : w11.cell? ⟨w5.heap.size, 1, none⟩ = some (.slice b5_0 r0.length d5_0) := by rw [cell_of_row w11 _ 1 _ _ _ ZG0_11.out]; rfl
    go_wp2_with fail
    clear fZR00 fZR01
    clear fZG00 fZG01
    refine (markRegion_all (k := 1) _ _ _ _ _ r0 _ (by omega) (by omega) G0_11.out).mono ?_
    rintro e w12 ⟨rfl, g12, ht12⟩
    have z12 := ht12.size
    have zq12 := q11.size
    have q12 : Below w.heap.size w w12 := q11.trans (ht12.below (by omega) (by omega))
    have R0_12 := Lib.hid (R0_11.out.touched ht12 (by omega))
    clear R0_11
    have ZR0_12 := Lib.hid ((ht12.block w2.heap.size (lt_of_block ZR0_11.out) (by omega)).trans ZR0_11.out)
    clear ZR0_11
    have ZG0_12 := Lib.hid ((ht12.block w5.heap.size (lt_of_block ZG0_11.out) (by omega)).trans ZG0_11.out)
    clear ZG0_11
    have M0 := Lib.hid g12
    clear g12
    have fZR00 : w12.cell? ⟨w2.heap.size, 0, none⟩ = some (.int .i64 rb0) := by rw [cell_of_row w12 _ 0 _ _ _ ZR0_12.out]; rfl
    have fZR01 : w12.cell? ⟨w2.heap.size, 1, none⟩ = some (.slice b2_0 r0.length d2_0) := by rw [cell_of_row w12 _ 1 _ _ _ ZR0_12.out]; rfl
    have fZG00 : w12.cell? ⟨w5.heap.size, 0, none⟩ = some (.int .i64 rb0) := by rw [cell_of_row w12 _ 0 _ _ _ ZG0_12.out]; rfl
    have fZG01 : w12.cell? ⟨w5.heap.size, 1, none⟩ = some (.slice b5_0 r0.length d5_0) := by rw [cell_of_row w12 _ 1 _ _ _ ZG0_12.out]; rfl
    go_wp2_with fail
    clear fZR00 fZR01
    clear fZG00 fZG01
    refine (heldRegion_b (k := 1) _ _ _ r0.length _ (by omega) (by omega) M0.out.cells).mono ?_
    rintro e w13 ⟨rfl, hb13⟩
    have z13 := hb13.size
    have q13 : Below w.heap.size w w13 := q12.trans (hb13.mono q12.size)
    have R0_13 := Lib.hid (R0_12.out.below hb13 (by omega))
    clear R0_12
    have M0_13 := Lib.hid (M0.out.below hb13 (by omega))
    clear M0
    have ZR0_13 := Lib.hid ((hb13.block w2.heap.size (lt_of_block ZR0_12.out)).trans ZR0_12.out)
    clear ZR0_12
    have ZG0_13 := Lib.hid ((hb13.block w5.heap.size (lt_of_block ZG0_12.out)).trans ZG0_12.out)
    clear ZG0_12
    have fZR00 : w13.cell? ⟨w2.heap.size, 0, none⟩ = some (.int .i64 rb0) := by rw [cell_of_row w13 _ 0 _ _ _ ZR0_13.out]; rfl
    have fZR01 : w13.cell? ⟨w2.heap.size, 1, none⟩ = some (.slice b2_0 r0.length d2_0) := by rw [cell_of_row w13 _ 1 _ _ _ ZR0_13.out]; rfl
    have fZG00 : w13.cell? ⟨w5.heap.size, 0, none⟩ = some (.int .i64 rb0) := by rw [cell_of_row w13 _ 0 _ _ _ ZG0_13.out]; rfl
    have fZG01 : w13.cell? ⟨w5.heap.size, 1, none⟩ = some (.slice b5_0 r0.length d5_0) := by rw [cell_of_row w13 _ 1 _ _ _ ZG0_13.out]; rfl
    go_wp2_with fail
    clear fZR00 fZR01
    clear fZG00 fZG01
    refine (toCellS_any _ _ xs0 _ hn0 (H0.out.below q13)).mono ?_
    rintro e w14 ⟨a14_, c14_, rfl, ho14, hb14⟩
    have z14 := hb14.size
    have q14 : Below w.heap.size w w14 := q13.trans (hb14.mono q13.size)
    have R0_14 := Lib.hid (R0_13.out.below hb14 (by omega))
    clear R0_13
    have M0_14 := Lib.hid (M0_13.out.below hb14 (by omega))
    clear M0_13
    have ZR0_14 := Lib.hid ((hb14.block w2.heap.size (lt_of_block ZR0_13.out)).trans ZR0_13.out)
    clear ZR0_13
    have ZG0_14 := Lib.hid ((hb14.block w5.heap.size (lt_of_block ZG0_13.out)).trans ZG0_13.out)
    clear ZG0_13
    have T0 := Lib.hid (Owned.of ho14)
    clear ho14
    have fZR00 : w14.cell? ⟨w2.heap.size, 0, none⟩ = some (.int .i64 rb0) := by rw [cell_of_row w14 _ 0 _ _ _ ZR0_14.out]; rfl
    have fZR01 : w14.cell? ⟨w2.heap.size, 1, none⟩ = some (.slice b2_0 r0.length d2_0) := by rw [cell_of_row w14 _ 1 _ _ _ ZR0_14.out]; rfl
    have fZG00 : w14.cell? ⟨w5.heap.size, 0, none⟩ = some (.int .i64 rb0) := by rw [cell_of_row w14 _ 0 _ _ _ ZG0_14.out]; rfl
    have fZG01 : w14.cell? ⟨w5.heap.size, 1, none⟩ = some (.slice b5_0 r0.length d5_0) := by rw [cell_of_row w14 _ 1 _ _ _ ZG0_14.out]; rfl
    go_wp2_with fail
    clear fZR00 fZR01
    clear fZG00 fZG01
    refine (HI.out _ _ _ T0.out.le_cap T0.out.cells).mono ?_
    rintro e w15 ⟨b15_0, d15_0, rfl, ho15_0, hb15⟩
    have z15 := hb15.size
    have q15 : Below w.heap.size w w15 := q14.trans (hb15.mono q14.size)
    have R0_15 := Lib.hid (R0_14.out.below hb15 (by omega))
    clear R0_14
    have M0_15 := Lib.hid (M0_14.out.below hb15 (by omega))
    clear M0_14
    have T0_15 := Lib.hid (T0.out.below hb15 (by omega))
    clear T0
    have ZR0_15 := Lib.hid ((hb15.block w2.heap.size (lt_of_block ZR0_14.out)).trans ZR0_14.out)
    clear ZR0_14
    have ZG0_15 := Lib.hid ((hb15.block w5.heap.size (lt_of_block ZG0_14.out)).trans ZG0_14.out)
    clear ZG0_14
    have N0 := Lib.hid (Owned.of ho15_0)
    clear ho15_0
    have fZR00 : w15.cell? ⟨w2.heap.size, 0, none⟩ = some (.int .i64 rb0) := by rw [cell_of_row w15 _ 0 _ _ _ ZR0_15.out]; rfl
    have fZR01 : w15.cell? ⟨w2.heap.size, 1, none⟩ = some (.slice b2_0 r0.length d2_0) := by rw [cell_of_row w15 _ 1 _ _ _ ZR0_15.out]; rfl
    have fZG00 : w15.cell? ⟨w5.heap.size, 0, none⟩ = some (.int .i64 rb0) := by rw [cell_of_row w15 _ 0 _ _ _ ZG0_15.out]; rfl
    have fZG01 : w15.cell? ⟨w5.heap.size, 1, none⟩ = some (.slice b5_0 r0.length d5_0) := by rw [cell_of_row w15 _ 1 _ _ _ ZG0_15.out]; rfl
    go_upto_region 25 with (fail)
    clear fZR00 fZR01
    clear fZG00 fZG01
    have hb16 : Below w15.heap.size w15 (w15.alloc (.cells #[.int .i64 rb0, .slice b15_0 r0.length d15_0] 44)) := (Below.refl _ _).alloc (Nat.le_refl _) _
    have zb16 : (w15.alloc (.cells #[.int .i64 rb0, .slice b15_0 r0.length d15_0] 44)).heap.size = w15.heap.size + 1 := by simp
    have hbx : (w15.alloc (.cells #[.int .i64 rb0, .slice b15_0 r0.length d15_0] 44)).heap[w15.heap.size]? = some (.cells #[.int .i64 rb0, .slice b15_0 r0.length d15_0] 44 (0, 0)) := heap_alloc_new w15 _
    generalize w15.alloc (.cells #[.int .i64 rb0, .slice b15_0 r0.length d15_0] 44) = w16 at hb16 zb16 hbx ⊢
    have z16 := hb16.size
    have q16 : Below w.heap.size w w16 := q15.trans (hb16.mono q15.size)
    have R0_16 := Lib.hid (R0_15.out.below hb16 (by omega))
    clear R0_15
    have M0_16 := Lib.hid (M0_15.out.below hb16 (by omega))
    clear M0_15
    have T0_16 := Lib.hid (T0_15.out.below hb16 (by omega))
    clear T0_15
    have N0_16 := Lib.hid (N0.out.below hb16 (by omega))
    clear N0
    have ZR0_16 := Lib.hid ((hb16.block w2.heap.size (lt_of_block ZR0_15.out)).trans ZR0_15.out)
    clear ZR0_15
    have ZG0_16 := Lib.hid ((hb16.block w5.heap.size (lt_of_block ZG0_15.out)).trans ZG0_15.out)
    clear ZG0_15
    have ZN0_16 := Lib.hid hbx
    clear hbx
    clear T0_16
    have fZR00 : w16.cell? ⟨w2.heap.size, 0, none⟩ = some (.int .i64 rb0) := by rw [cell_of_row w16 _ 0 _ _ _ ZR0_16.out]; rfl
    have fZR01 : w16.cell? ⟨w2.heap.size, 1, none⟩ = some (.slice b2_0 r0.length d2_0) := by rw [cell_of_row w16 _ 1 _ _ _ ZR0_16.out]; rfl
    have fZG00 : w16.cell? ⟨w5.heap.size, 0, none⟩ = some (.int .i64 rb0) := by rw [cell_of_row w16 _ 0 _ _ _ ZG0_16.out]; rfl
    have fZG01 : w16.cell? ⟨w5.heap.size, 1, none⟩ = some (.slice b5_0 r0.length d5_0) := by rw [cell_of_row w16 _ 1 _ _ _ ZG0_16.out]; rfl
    have fZN00 : w16.cell? ⟨w15.heap.size, 0, none⟩ = some (.int .i64 rb0) := by rw [cell_of_row w16 _ 0 _ _ _ ZN0_16.out]; rfl
    have fZN01 : w16.cell? ⟨w15.heap.size, 1, none⟩ = some (.slice b15_0 r0.length d15_0) := by rw [cell_of_row w16 _ 1 _ _ _ ZN0_16.out]; rfl
    go_wp2_with fail
    clear fZR00 fZR01
    clear fZG00 fZG01
    clear fZN00 fZN01
    refine (eqRegion_same _ _ _ _ _ r0 _ (by omega) N0_16.out.cells R0_16.out.cells).mono ?_
    rintro e w17 ⟨rfl, hb17⟩
    have z17 := hb17.size
    have q17 : Below w.heap.size w w17 := q16.trans (hb17.mono q16.size)
    have R0_17 := Lib.hid (R0_16.out.below hb17 (by omega))
    clear R0_16
    have M0_17 := Lib.hid (M0_16.out.below hb17 (by omega))
    clear M0_16
    have N0_17 := Lib.hid (N0_16.out.below hb17 (by omega))
    clear N0_16
    have ZR0_17 := Lib.hid ((hb17.block w2.heap.size (lt_of_block ZR0_16.out)).trans ZR0_16.out)
    clear ZR0_16
    have ZG0_17 := Lib.hid ((hb17.block w5.heap.size (lt_of_block ZG0_16.out)).trans ZG0_16.out)
    clear ZG0_16
    have ZN0_17 := Lib.hid ((hb17.block w15.heap.size (lt_of_block ZN0_16.out)).trans ZN0_16.out)
    clear ZN0_16
    have fZR00 : w17.cell? ⟨w2.heap.size, 0, none⟩ = some (.int .i64 rb0) := by rw [cell_of_row w17 _ 0 _ _ _ ZR0_17.out]; rfl
    have fZR01 : w17.cell? ⟨w2.heap.size, 1, none⟩ = some (.slice b2_0 r0.length d2_0) := by rw [cell_of_row w17 _ 1 _ _ _ ZR0_17.out]; rfl
    have fZG00 : w17.cell? ⟨w5.heap.size, 0, none⟩ = some (.int .i64 rb0) := by rw [cell_of_row w17 _ 0 _ _ _ ZG0_17.out]; rfl
    have fZG01 : w17.cell? ⟨w5.heap.size, 1, none⟩ = some (.slice b5_0 r0.length d5_0) := by rw [cell_of_row w17 _ 1 _ _ _ ZG0_17.out]; rfl
    have fZN00 : w17.cell? ⟨w15.heap.size, 0, none⟩ = some (.int .i64 rb0) := by rw [cell_of_row w17 _ 0 _ _ _ ZN0_17.out]; rfl
    have fZN01 : w17.cell? ⟨w15.heap.size, 1, none⟩ = some (.slice b15_0 r0.length d15_0) := by rw [cell_of_row w17 _ 1 _ _ _ ZN0_17.out]; rfl
    go_wp2_with fail
    clear fZR00 fZR01
    clear fZG00 fZG01
    clear fZN00 fZN01
    refine (heldRegion_b (k := 1) _ _ _ r0.length _ (by omega) (by omega) M0_17.out.cells).mono ?_
    rintro e w18 ⟨rfl, hb18⟩
    have z18 := hb18.size
    have q18 : Below w.heap.size w w18 := q17.trans (hb18.mono q17.size)
    have R0_18 := Lib.hid (R0_17.out.below hb18 (by omega))
    clear R0_17
    have M0_18 := Lib.hid (M0_17.out.below hb18 (by omega))
    clear M0_17
    have N0_18 := Lib.hid (N0_17.out.below hb18 (by omega))
    clear N0_17
    have ZR0_18 := Lib.hid ((hb18.block w2.heap.size (lt_of_block ZR0_17.out)).trans ZR0_17.out)
    clear ZR0_17
    have ZG0_18 := Lib.hid ((hb18.block w5.heap.size (lt_of_block ZG0_17.out)).trans ZG0_17.out)
    clear ZG0_17
    have ZN0_18 := Lib.hid ((hb18.block w15.heap.size (lt_of_block ZN0_17.out)).trans ZN0_17.out)
    clear ZN0_17
    have fZR00 : w18.cell? ⟨w2.heap.size, 0, none⟩ = some (.int .i64 rb0) := by rw [cell_of_row w18 _ 0 _ _ _ ZR0_18.out]; rfl
    have fZR01 : w18.cell? ⟨w2.heap.size, 1, none⟩ = some (.slice b2_0 r0.length d2_0) := by rw [cell_of_row w18 _ 1 _ _ _ ZR0_18.out]; rfl
    have fZG00 : w18.cell? ⟨w5.heap.size, 0, none⟩ = some (.int .i64 rb0) := by rw [cell_of_row w18 _ 0 _ _ _ ZG0_18.out]; rfl
    have fZG01 : w18.cell? ⟨w5.heap.size, 1, none⟩ = some (.slice b5_0 r0.length d5_0) := by rw [cell_of_row w18 _ 1 _ _ _ ZG0_18.out]; rfl
    have fZN00 : w18.cell? ⟨w15.heap.size, 0, none⟩ = some (.int .i64 rb0) := by rw [cell_of_row w18 _ 0 _ _ _ ZN0_18.out]; rfl
    have fZN01 : w18.cell? ⟨w15.heap.size, 1, none⟩ = some (.slice b15_0 r0.length d15_0) := by rw [cell_of_row w18 _ 1 _ _ _ ZN0_18.out]; rfl
    go_wp2_with fail
    clear fZR00 fZR01
    clear fZG00 fZG01
    clear fZN00 fZN01
    go_ret
    exact ⟨rfl, q18⟩
  · skip
    go_enter Try.func8, Try.ntmps8
    go_wp2_with fail
    refine (szCellS_any _ _ _ _ _ hm0 (by omega) (by omega)).mono ?_
    rw [if_pos (by omega)]
    rintro e w' ⟨rfl, rfl⟩
    go_wp2_with fail
    go_ret
    exact ⟨rfl, Below.refl _ _⟩

set_option maxRecDepth 100000 in
theorem lifted (os : Os) (started : os.Started) (H : Type) (enc : TypeId × Value → H) :
    ReturnsInHanded {} Try.checked os 8 .any (Rows.fnExactScaledRegionSpec.pre6 enc Try.prog Try.f8 Rows.fnExactScaledRegionRow.domain false) (Rows.fnExactScaledRegionSpec.post enc Try.prog Try.f8 false true false false) := by
  refine returnsInHanded_of_change (C := Try.checked) Try.own started (by kernel_rfl) Try.func8
    (ChangeSpec.witness6 (enc := enc) (C := Try.checked) false ⟨#[], #[.slice none 0 0, .int .i64 0], []⟩ 8 (by kernel_rfl) (by kernel_rfl) (by kernel_rfl) (by kernel_rfl)) ?_
  intro W base args ds gs before hval0 hW hcnd _
  have hval : ∀ (j : Nat) t v, Try.f8.params[j]? = some t → args[j]? = some v → Value.okWide Try.prog W .any base t v := hval0
  have hW' := hW
  obtain ⟨p, q, hA0, hV, rfl, hfz, hnd⟩ := hW
  have hA : DataW.TrodAll enc Try.prog W 0 (fun _ => true) true Try.f8.params.toList args.toList ds p := hA0
  rw [Try.params8] at hA hval
  obtain ⟨v0, vs0, d0, ds0, p0, q0, hargs, rfl, rfl, h0, r0⟩ := trodAll_cons hA
  obtain ⟨v1, vs1, d1, ds1, p1, q1, rfl, rfl, rfl, h1, r1⟩ := trodAll_cons r0
  obtain ⟨rfl, rfl, rfl⟩ := trodAll_nil r1
  obtain rfl : args = #[v0, v1] := by cases args; simp_all
  obtain ⟨rfl, rfl⟩ := trodVars_none hV
  obtain ⟨ad0, cap0, xs0, rfl, hm0, hc0, hw0⟩ := openCells (hval 0 51 v0 rfl rfl) h0
  obtain ⟨a1, rfl, rfl, rfl, w1⟩ := open_int Try.underlying3 (hval 1 3 v1 rfl rfl) h1
  clear hA0 hval0
  refine (walk W ad0 cap0 xs0 hm0 hc0 hw0 a1 w1).mono fun e W' ⟨he, hb⟩ => ?_
  subst he
  exact ⟨_, rfl, law_post rfl hW' hb (by rw [Try.params8]; exact readable_all (by kernel_rfl)) (by kernel_rfl) (by kernel_rfl) rfl⟩

theorem proved : Rows.FnExactScaledRegionSaid :=
  OpenClaim.holds_of_wide 8 Try.f8 rfl rfl rfl rfl rfl rfl rfl ⟨rfl, rfl, rfl, rfl, rfl⟩ rfl rfl rfl rfl rfl (by kernel_rfl) Try.func8 (by kernel_rfl)
    (of_decide_eq_true (by kernel_rfl)) (by unfold Func.isWrapper; first | (rw [if_pos (by decide +kernel)]; kernel_rfl) | (rw [if_neg (by decide +kernel)]; exact ⟨rfl, rfl⟩))
    (fun os started H enc _ => lifted os started H enc)
end Go.Proofs.Ytnldmigofmedkaa.lawScaled
