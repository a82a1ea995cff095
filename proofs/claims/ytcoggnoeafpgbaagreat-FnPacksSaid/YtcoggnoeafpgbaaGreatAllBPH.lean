/- AllBPH: parts laid together: Block, Pack, Holes. -/
import Derived.Test.YtcoggnoeafpgbaaGreatAllPl
import Derived.Test.YtcoggnoeafpgbaaGreatAllPlac
import Derived.Test.YtcoggnoeafpgbaaGreatAllFrame
import Derived.Test.YtcoggnoeafpgbaaGreatBlocks
import Derived.Test.YtcoggnoeafpgbaaGreatAllArea
import Derived.Deep.DrawnRows
import Derived.Lib.QuietBelow
import Derived.BigQuiet
import Derived.IntWalk
import Derived.Test.YtcoggnoeafpgbaaGreatAllReg

/- Block: the walks of IsBlocking, the reference's and the program's, and of what they ask. -/
namespace Go.Proofs.YtcoggnoeafpgbaaGreat
open Go.RowKit

attribute [local go_sem ↓] Go.wp_at_zero Go.wp_at_succ

theorem isMk_nat (b : Int) (xs : List Int) (m : Nat) : isMk b xs (m : Int) = (m - (m &&& regMask b xs) == 0) := by
  unfold isMk
  rw [decide_eq_true (by omega : (0 : Int) ≤ (m : Int)), Int.toNat_natCast, Bool.true_and, Bool.eq_iff_iff]
  have h := Nat.and_le_left (n := m) (m := regMask b xs)
  simp only [decide_eq_true_eq, beq_iff_eq]
  omega

set_option maxRecDepth 100000 in
set_option maxHeartbeats 1600000 in
theorem implIsMk (B : Nat) (ad : Option Addr) (c : Nat) (xs : List Int) (v : Int) (w : World) (hr : Reg (B : Int) xs) (hwf : (Lit.int .i64 v).wf = true) (hc : CellsAt w ad (ints xs)) :
    Calls Tryz.prog 58 #[.agg #[.int .i64 B, .slice ad xs.length c], .int .i64 v] w fun e w' => e = .returned (.bool (isMk B xs v)) ∧ Below w.heap.size w w' := by
  have hM := regMask_lt hr
  have HMK := Lib.hid (fun w' h => implMask B ad c xs w' hr h)
  have HC := Lib.hid hc
  obtain ⟨wb1, wb2⟩ := i64_bounds hwf
  have hnat := isMk_nat (B : Int) xs
  have hM2 : regMask (B : Int) xs < 9223372036854775808 := Nat.lt_trans hM (by decide)
  have hneg : v < 0 → isMk (B : Int) xs v = false := fun h => by unfold isMk; rw [decide_eq_false (by omega)]; rfl
  clear hc hr hwf hM
  generalize regMask (B : Int) xs = M at HMK hM2 hnat
  obtain ⟨b, hb⟩ : ∃ b : Int, b = (B : Int) := ⟨_, rfl⟩
  rw [← hb] at HMK hnat hneg ⊢
  clear hb
  obtain ⟨wA, hwA⟩ : ∃ wA, wA = w.alloc (.cells #[.int .i64 b, .slice ad xs.length c] 29) := ⟨_, rfl⟩
  have hbA : Below w.heap.size w wA := by rw [hwA]; exact (Below.refl _ _).alloc (Nat.le_refl _) _
  have hzA : wA.heap.size = w.heap.size + 1 := by rw [hwA]; simp
  have hblkA : wA.heap[w.heap.size]? = some (.cells #[.int .i64 b, .slice ad xs.length c] 29 (0, 0)) := by rw [hwA]; exact heap_alloc_new w _
  have HBA := Lib.hid hbA
  have HBLKA := Lib.hid hblkA
  have HWA := Lib.hid hwA
  have hszA := hbA.size
  clear hbA hblkA hwA
  by_cases h0 : 0 ≤ v
  · obtain ⟨m, rfl⟩ := Int.eq_ofNat_of_zero_le h0
    have hand := i64_andNot_nat m M (by omega) hM2
    have HV := Lib.hid (hnat m)
    have d0 : decide ((0 : Int) ≤ (m : Int)) = true := decide_eq_true h0
    obtain ⟨q, hq⟩ : ∃ q, q = m - (m &&& M) := ⟨_, rfl⟩
    rw [← hq] at hand HV
    have hbq : ((q : Int) == 0) = (q == 0) := by rw [Bool.eq_iff_iff]; simp
    have HBQ := Lib.hid hbq
    clear hnat hneg hq hbq
    go_enter Tryz.func58, Tryz.ntmps58
    go_wp2_with fail
    rw [← HWA.out]
    refine (HMK.out wA (HC.out.below HBA.out)).mono ?_
    rintro e w1 ⟨rfl, hb1⟩
    have HB1 := Lib.hid (HBA.out.trans (hb1.mono hszA))
    clear hb1
    by_cases hz : q = 0
    · subst hz
      go_wp2
      go_ret
      rw [HV.out]
      exact ⟨rfl, HB1.out⟩
    · have hz1 : ((q : Int) == 0) = false := by simp; omega
      have hz2 : (q == 0) = false := by simp; omega
      have HZ2 := Lib.hid hz2
      clear hz hz2
      go_wp2
      go_ret
      rw [HV.out, HZ2.out]
      exact ⟨rfl, HB1.out⟩
  · have HV := Lib.hid (hneg (by omega))
    have d0 : decide (0 ≤ v) = false := decide_eq_false h0
    clear hnat hneg
    go_enter Tryz.func58, Tryz.ntmps58
    go_wp2
    rw [← HWA.out]
    go_ret
    rw [HV.out]
    exact ⟨rfl, HBA.out⟩

set_option maxRecDepth 100000 in
set_option maxHeartbeats 3200000 in
theorem implBlk (b : Int) (ad : Option Addr) (c : Nat) (xs : List Int) (sa : Option Addr) (cs : Nat) (ps : List (List Cl)) (v : Int) (w : World) (hn : xs.length ≤ 1048576) (hnp : ps.length ≤ 1048576) (hl : ∀ p ∈ ps, p.length ≤ 1048576) (hwf : (Lit.int .i64 v).wf = true) (hc : CellsAt w ad (ints xs)) (hcp : ShpsAt w sa ps) :
    Calls Tryz.prog 27 #[.agg #[.int .i64 b, .slice ad xs.length c], .slice sa ps.length cs, .int .i64 v] w fun e w' => e = .returned (.bool (blkR b xs ps v)) ∧ Below w.heap.size w w' := by
  have hdef : blkR b xs ps v = (decide (Reg b xs) && (decide (Pcs ps) && (isMk b xs v && blocksL (allL b.toNat xs ps) v.toNat))) := rfl
  obtain ⟨wb1, wb2⟩ := i64_bounds hwf
  have HPR := Lib.hid (fun w' h1 h2 => implProb b ad c xs sa cs ps w' hn hnp hl h1 h2)
  have HC := Lib.hid hc
  have HCP := Lib.hid hcp
  clear hc hcp
  obtain ⟨wA, hwA⟩ : ∃ wA, wA = w.alloc (.cells #[.int .i64 b, .slice ad xs.length c] 29) := ⟨_, rfl⟩
  have hbA : Below w.heap.size w wA := by rw [hwA]; exact (Below.refl _ _).alloc (Nat.le_refl _) _
  have hzA : wA.heap.size = w.heap.size + 1 := by rw [hwA]; simp
  have hblkA : wA.heap[w.heap.size]? = some (.cells #[.int .i64 b, .slice ad xs.length c] 29 (0, 0)) := by rw [hwA]; exact heap_alloc_new w _
  have HBA := Lib.hid hbA
  have HBLKA := Lib.hid hblkA
  have HWA := Lib.hid hwA
  have hszA := hbA.size
  clear hbA hblkA hwA
  by_cases hok : Reg b xs ∧ Pcs ps
  · obtain ⟨hr, hp⟩ := hok
    have hbn : b = (b.toNat : Int) := by have := hr.1.1; omega
    obtain ⟨B, hB⟩ : ∃ B, B = b.toNat := ⟨_, rfl⟩
    rw [← hB] at hbn hdef
    rw [decide_eq_true hr, decide_eq_true hp] at hdef HPR
    simp only [Bool.true_and] at hdef HPR
    have hrB : Reg (B : Int) xs := by rw [← hbn]; exact hr
    have hmk0 := fun w' h => implIsMk B ad c xs v w' hrB hwf h
    have hal0 := fun w' h1 h2 => implAll B ad c xs sa cs ps w' hrB hp h1 h2
    rw [← hbn] at hmk0 hal0
    have HMK := Lib.hid hmk0
    have HAL := Lib.hid hal0
    have hlen := allL_length hrB hp
    have HSM := Lib.hid (allL_small hrB ps)
    have hmn : isMk b xs v = true → 0 ≤ v := fun h => by unfold isMk at h; simp at h; exact h.1
    have HD := Lib.hid hdef
    clear hdef hmk0 hal0 hrB hr hp hbn hB hwf hl
    generalize allL B xs ps = A at HAL hlen HSM HD
    generalize isMk b xs v = mk at HMK hmn HD
    go_enter Tryz.func27, Tryz.ntmps27
    go_wp2_with fail
    rw [← HWA.out]
    refine (HPR.out wA (HC.out.below HBA.out) (HCP.out.below HBA.out)).mono ?_
    rintro e w1 ⟨rfl, hb1⟩
    have HB1 := Lib.hid (HBA.out.trans (hb1.mono hszA))
    have HBX1 := Lib.hid hb1
    have hsz1 := HB1.out.size
    have hs1A := hb1.size
    have hblk1 := (HBX1.out.block w.heap.size (by omega)).trans HBLKA.out
    have x10 : w1.cell? ⟨w.heap.size, 0, none⟩ = some (.int .i64 b) := by rw [cell_of_row w1 _ 0 _ _ _ hblk1]; rfl
    have x11 : w1.cell? ⟨w.heap.size, 1, none⟩ = some (.slice ad xs.length c) := by rw [cell_of_row w1 _ 1 _ _ _ hblk1]; rfl
    clear hblk1
    clear hb1
    go_wp2_with fail
    refine (HMK.out w1 (HC.out.below HB1.out)).mono ?_
    rintro e w2 ⟨rfl, hb2⟩
    have HB2 := Lib.hid (HB1.out.trans (hb2.mono hsz1))
    have hsz2 := HB2.out.size
    have y0 := (hb2.cell (p := ⟨w.heap.size, 0, none⟩) (by simp; omega)).trans x10
    have y1 := (hb2.cell (p := ⟨w.heap.size, 1, none⟩) (by simp; omega)).trans x11
    clear hb2 x10 x11
    cases mk with
    | true =>
      obtain ⟨m, hm⟩ : ∃ m : Nat, v = (m : Int) := ⟨v.toNat, by have := hmn rfl; omega⟩
      subst hm
      go_wp2_with fail
      refine (HAL.out w2 (HC.out.below HB2.out) (HCP.out.below HB2.out)).mono ?_
      rintro e w3 ⟨a3, c3, rfl, ho3, hb3⟩
      have HB3 := Lib.hid (HB2.out.trans (hb3.mono hsz2))
      have hsz3 := HB3.out.size
      have HBL := Lib.hid (implBlocks a3 c3 A m w3 (by omega) HSM.out (by omega) (ownsRow_cellsAt ho3))
      clear hb3 ho3
      go_wp2_with fail
      refine HBL.out.mono ?_
      rintro e w4 ⟨rfl, hb4⟩
      have HB4 := Lib.hid (HB3.out.trans (hb4.mono hsz3))
      clear hb4
      go_wp2
      go_ret
      rw [HD.out]
      exact ⟨rfl, HB4.out⟩
    | false =>
      clear hmn
      go_wp2
      go_ret
      rw [HD.out]
      exact ⟨rfl, HB2.out⟩
  · have hf : blkR b xs ps v = false := by
      rw [hdef]
      by_cases h1 : Reg b xs
      · have h2 : ¬ Pcs ps := fun q => hok ⟨h1, q⟩
        rw [decide_eq_false h2]
        simp
      · rw [decide_eq_false h1]
        rfl
    have hf2 : (decide (Reg b xs) && decide (Pcs ps)) = false := by
      by_cases h1 : Reg b xs
      · have h2 : ¬ Pcs ps := fun q => hok ⟨h1, q⟩
        rw [decide_eq_false h2]
        simp
      · rw [decide_eq_false h1]
        rfl
    rw [hf2] at HPR
    have HD := Lib.hid hf
    clear hdef hf hf2 hok hl hwf
    go_enter Tryz.func27, Tryz.ntmps27
    go_wp2_with fail
    rw [← HWA.out]
    refine (HPR.out wA (HC.out.below HBA.out) (HCP.out.below HBA.out)).mono ?_
    rintro e w1 ⟨rfl, hb1⟩
    have HB1 := Lib.hid (HBA.out.trans (hb1.mono hszA))
    have HBX1 := Lib.hid hb1
    have hsz1 := HB1.out.size
    have hs1A := hb1.size
    have hblk1 := (HBX1.out.block w.heap.size (by omega)).trans HBLKA.out
    have x10 : w1.cell? ⟨w.heap.size, 0, none⟩ = some (.int .i64 b) := by rw [cell_of_row w1 _ 0 _ _ _ hblk1]; rfl
    have x11 : w1.cell? ⟨w.heap.size, 1, none⟩ = some (.slice ad xs.length c) := by rw [cell_of_row w1 _ 1 _ _ _ hblk1]; rfl
    clear hblk1
    clear hb1
    go_wp2
    go_ret
    rw [HD.out]
    exact ⟨rfl, HB1.out⟩

set_option maxRecDepth 100000 in
set_option maxHeartbeats 3200000 in
theorem specBlk (b : Int) (ad : Option Addr) (c : Nat) (xs : List Int) (sa : Option Addr) (cs : Nat) (ps : List (List Cl)) (v : Int) (w : World) (hn : xs.length ≤ 1048576) (hnp : ps.length ≤ 1048576) (hl : ∀ p ∈ ps, p.length ≤ 1048576) (hwf : (Lit.int .i64 v).wf = true) (hc : CellsAt w ad (ints xs)) (hcp : ShpsAt w sa ps) :
    Calls Tryz.prog 34 #[.agg #[.int .i64 b, .slice ad xs.length c], .slice sa ps.length cs, .int .i64 v] w fun e w' => e = .returned (.bool (blkR b xs ps v)) ∧ Below w.heap.size w w' := by
  have hdef : blkR b xs ps v = (decide (Reg b xs) && (decide (Pcs ps) && (isMk b xs v && blocksL (allL b.toNat xs ps) v.toNat))) := rfl
  obtain ⟨wb1, wb2⟩ := i64_bounds hwf
  have HREG := Lib.hid (fun w' h => specReg b ad c xs w' hn h)
  have HPC := Lib.hid (fun w' h => specPieces sa cs ps w' hnp hl h)
  have HC := Lib.hid hc
  have HCP := Lib.hid hcp
  clear hc hcp hl
  obtain ⟨wA, hwA⟩ : ∃ wA, wA = w.alloc (.cells #[.int .i64 b, .slice ad xs.length c] 29) := ⟨_, rfl⟩
  have hbA : Below w.heap.size w wA := by rw [hwA]; exact (Below.refl _ _).alloc (Nat.le_refl _) _
  have hzA : wA.heap.size = w.heap.size + 1 := by rw [hwA]; simp
  have hblkA : wA.heap[w.heap.size]? = some (.cells #[.int .i64 b, .slice ad xs.length c] 29 (0, 0)) := by rw [hwA]; exact heap_alloc_new w _
  have HBA := Lib.hid hbA
  have HBLKA := Lib.hid hblkA
  have HWA := Lib.hid hwA
  have hszA := hbA.size
  clear hbA hblkA hwA
  by_cases hr : Reg b xs
  · by_cases hp : Pcs ps
    · have hbn : b = (b.toNat : Int) := by have := hr.1.1; omega
      obtain ⟨B, hB⟩ : ∃ B, B = b.toNat := ⟨_, rfl⟩
      rw [← hB] at hbn hdef
      rw [decide_eq_true hr] at hdef HREG
      rw [decide_eq_true hp] at hdef HPC
      simp only [Bool.true_and] at hdef
      have hrB : Reg (B : Int) xs := by rw [← hbn]; exact hr
      have hmk0 := fun w' h => specMask B ad c xs w' hrB h
      have hal0 := fun w' h1 h2 => specAll B ad c xs sa cs ps w' hrB hp h1 h2
      have hM := regMask_lt hrB
      have hM2 : regMask (B : Int) xs < 9223372036854775808 := Nat.lt_trans hM (by decide)
      rw [← hbn] at hmk0 hal0 hM2
      have HMK := Lib.hid hmk0
      have HAL := Lib.hid hal0
      have hlen := allL_length hrB hp
      have HSM := Lib.hid (allL_small hrB ps)
      by_cases h0 : 0 ≤ v
      · obtain ⟨m, rfl⟩ := Int.eq_ofNat_of_zero_le h0
        have hmk : isMk b xs (m : Int) = decide (m &&& regMask b xs = m) := by
          unfold isMk
          rw [decide_eq_true h0, Int.toNat_natCast, Bool.true_and]
        rw [hmk, Int.toNat_natCast] at hdef
        have hand := i64_and_nat m (regMask b xs) (by omega) hM2
        have n0 : decide ((m : Int) < 0) = false := decide_eq_false (by omega)
        clear hmk hmk0 hal0 hrB hr hp hbn hB hwf hM hM2
        generalize allL B xs ps = A at HAL hlen HSM hdef
        generalize regMask b xs = M at HMK hand hdef
        obtain ⟨q, hq⟩ : ∃ q, q = m &&& M := ⟨_, rfl⟩
        rw [← hq] at hand hdef
        clear hq
        by_cases hqm : q = m
        · subst hqm
          rw [decide_eq_true rfl, Bool.true_and] at hdef
          have HD := Lib.hid hdef
          have ne0 : ((q : Int) != (q : Int)) = false := by simp
          clear hdef
          go_enter Tryz.func34, Tryz.ntmps34
          go_wp2_with fail
          rw [← HWA.out]
          refine (HREG.out wA (HC.out.below HBA.out)).mono ?_
          rintro e w1 ⟨rfl, hb1⟩
          have HB1 := Lib.hid (HBA.out.trans (hb1.mono hszA))
          have HBX1 := Lib.hid hb1
          have hsz1 := HB1.out.size
          have hs1A := hb1.size
          have hblk1 := (HBX1.out.block w.heap.size (by omega)).trans HBLKA.out
          have x10 : w1.cell? ⟨w.heap.size, 0, none⟩ = some (.int .i64 b) := by rw [cell_of_row w1 _ 0 _ _ _ hblk1]; rfl
          have x11 : w1.cell? ⟨w.heap.size, 1, none⟩ = some (.slice ad xs.length c) := by rw [cell_of_row w1 _ 1 _ _ _ hblk1]; rfl
          clear hblk1
          clear hb1
          go_wp2_with fail
          refine (HPC.out w1 (HCP.out.below HB1.out)).mono ?_
          rintro e w2 ⟨rfl, hb2⟩
          have HB2 := Lib.hid (HB1.out.trans (hb2.mono hsz1))
          have hsz2 := HB2.out.size
          have hs21 := hb2.size
          have y0 := (hb2.cell (p := ⟨w.heap.size, 0, none⟩) (by simp; omega)).trans x10
          have y1 := (hb2.cell (p := ⟨w.heap.size, 1, none⟩) (by simp; omega)).trans x11
          clear hb2 x10 x11
          go_wp2_with fail
          refine (HMK.out w2 (HC.out.below HB2.out)).mono ?_
          rintro e w3 ⟨rfl, hb3⟩
          have HB3 := Lib.hid (HB2.out.trans (hb3.mono hsz2))
          have hsz3 := HB3.out.size
          have z0 := (hb3.cell (p := ⟨w.heap.size, 0, none⟩) (by simp; omega)).trans y0
          have z1 := (hb3.cell (p := ⟨w.heap.size, 1, none⟩) (by simp; omega)).trans y1
          clear hb3 y0 y1
          go_wp2_with fail
          refine (HAL.out w3 (HC.out.below HB3.out) (HCP.out.below HB3.out)).mono ?_
          rintro e w4 ⟨a4, c4, rfl, ho4, hb4⟩
          have HB4 := Lib.hid (HB3.out.trans (hb4.mono hsz3))
          have hsz4 := HB4.out.size
          have HBL := Lib.hid (specBlocks a4 c4 A q w4 (by omega) HSM.out (by omega) (ownsRow_cellsAt ho4))
          clear hb4 ho4
          go_wp2_with fail
          refine HBL.out.mono ?_
          rintro e w5 ⟨rfl, hb5⟩
          have HB5 := Lib.hid (HB4.out.trans (hb5.mono hsz4))
          clear hb5
          go_wp2
          go_ret
          rw [HD.out]
          exact ⟨rfl, HB5.out⟩
        · rw [decide_eq_false hqm, Bool.false_and] at hdef
          have HD := Lib.hid hdef
          have ne0 : ((q : Int) != (m : Int)) = true := by simp; omega
          clear hdef
          go_enter Tryz.func34, Tryz.ntmps34
          go_wp2_with fail
          rw [← HWA.out]
          refine (HREG.out wA (HC.out.below HBA.out)).mono ?_
          rintro e w1 ⟨rfl, hb1⟩
          have HB1 := Lib.hid (HBA.out.trans (hb1.mono hszA))
          have HBX1 := Lib.hid hb1
          have hsz1 := HB1.out.size
          have hs1A := hb1.size
          have hblk1 := (HBX1.out.block w.heap.size (by omega)).trans HBLKA.out
          have x10 : w1.cell? ⟨w.heap.size, 0, none⟩ = some (.int .i64 b) := by rw [cell_of_row w1 _ 0 _ _ _ hblk1]; rfl
          have x11 : w1.cell? ⟨w.heap.size, 1, none⟩ = some (.slice ad xs.length c) := by rw [cell_of_row w1 _ 1 _ _ _ hblk1]; rfl
          clear hblk1
          clear hb1
          go_wp2_with fail
          refine (HPC.out w1 (HCP.out.below HB1.out)).mono ?_
          rintro e w2 ⟨rfl, hb2⟩
          have HB2 := Lib.hid (HB1.out.trans (hb2.mono hsz1))
          have hsz2 := HB2.out.size
          have hs21 := hb2.size
          have y0 := (hb2.cell (p := ⟨w.heap.size, 0, none⟩) (by simp; omega)).trans x10
          have y1 := (hb2.cell (p := ⟨w.heap.size, 1, none⟩) (by simp; omega)).trans x11
          clear hb2 x10 x11
          go_wp2_with fail
          refine (HMK.out w2 (HC.out.below HB2.out)).mono ?_
          rintro e w3 ⟨rfl, hb3⟩
          have HB3 := Lib.hid (HB2.out.trans (hb3.mono hsz2))
          clear hb3 y0 y1
          go_wp2
          go_ret
          rw [HD.out]
          exact ⟨rfl, HB3.out⟩
      · have hmk : isMk b xs v = false := by unfold isMk; rw [decide_eq_false h0]; rfl
        rw [hmk, Bool.false_and] at hdef
        have HD := Lib.hid hdef
        have n0 : decide (v < 0) = true := decide_eq_true (by omega)
        clear hdef hmk hmk0 hal0 hrB hr hp hbn hB hwf hM hM2
        go_enter Tryz.func34, Tryz.ntmps34
        go_wp2_with fail
        rw [← HWA.out]
        refine (HREG.out wA (HC.out.below HBA.out)).mono ?_
        rintro e w1 ⟨rfl, hb1⟩
        have HB1 := Lib.hid (HBA.out.trans (hb1.mono hszA))
        have HBX1 := Lib.hid hb1
        have hsz1 := HB1.out.size
        have hs1A := hb1.size
        have hblk1 := (HBX1.out.block w.heap.size (by omega)).trans HBLKA.out
        have x10 : w1.cell? ⟨w.heap.size, 0, none⟩ = some (.int .i64 b) := by rw [cell_of_row w1 _ 0 _ _ _ hblk1]; rfl
        have x11 : w1.cell? ⟨w.heap.size, 1, none⟩ = some (.slice ad xs.length c) := by rw [cell_of_row w1 _ 1 _ _ _ hblk1]; rfl
        clear hblk1
        clear hb1
        go_wp2_with fail
        refine (HPC.out w1 (HCP.out.below HB1.out)).mono ?_
        rintro e w2 ⟨rfl, hb2⟩
        have HB2 := Lib.hid (HB1.out.trans (hb2.mono hsz1))
        have hsz2 := HB2.out.size
        have hs21 := hb2.size
        have y0 := (hb2.cell (p := ⟨w.heap.size, 0, none⟩) (by simp; omega)).trans x10
        have y1 := (hb2.cell (p := ⟨w.heap.size, 1, none⟩) (by simp; omega)).trans x11
        clear hb2 x10 x11
        go_wp2
        go_ret
        rw [HD.out]
        exact ⟨rfl, HB2.out⟩
    · rw [decide_eq_false hp, decide_eq_true hr] at hdef
      simp only [Bool.true_and, Bool.false_and] at hdef
      rw [decide_eq_true hr] at HREG
      rw [decide_eq_false hp] at HPC
      have HD := Lib.hid hdef
      clear hdef hr hp hwf
      go_enter Tryz.func34, Tryz.ntmps34
      go_wp2_with fail
      rw [← HWA.out]
      refine (HREG.out wA (HC.out.below HBA.out)).mono ?_
      rintro e w1 ⟨rfl, hb1⟩
      have HB1 := Lib.hid (HBA.out.trans (hb1.mono hszA))
      have HBX1 := Lib.hid hb1
      have hsz1 := HB1.out.size
      have hs1A := hb1.size
      have hblk1 := (HBX1.out.block w.heap.size (by omega)).trans HBLKA.out
      have x10 : w1.cell? ⟨w.heap.size, 0, none⟩ = some (.int .i64 b) := by rw [cell_of_row w1 _ 0 _ _ _ hblk1]; rfl
      have x11 : w1.cell? ⟨w.heap.size, 1, none⟩ = some (.slice ad xs.length c) := by rw [cell_of_row w1 _ 1 _ _ _ hblk1]; rfl
      clear hblk1
      clear hb1
      go_wp2_with fail
      refine (HPC.out w1 (HCP.out.below HB1.out)).mono ?_
      rintro e w2 ⟨rfl, hb2⟩
      have HB2 := Lib.hid (HB1.out.trans (hb2.mono hsz1))
      have hsz2 := HB2.out.size
      have hs21 := hb2.size
      have y0 := (hb2.cell (p := ⟨w.heap.size, 0, none⟩) (by simp; omega)).trans x10
      have y1 := (hb2.cell (p := ⟨w.heap.size, 1, none⟩) (by simp; omega)).trans x11
      clear hb2 x10 x11
      go_wp2
      go_ret
      rw [HD.out]
      exact ⟨rfl, HB2.out⟩
  · rw [decide_eq_false hr, Bool.false_and] at hdef
    rw [decide_eq_false hr] at HREG
    have HD := Lib.hid hdef
    clear hdef hr hwf
    go_enter Tryz.func34, Tryz.ntmps34
    go_wp2_with fail
    rw [← HWA.out]
    refine (HREG.out wA (HC.out.below HBA.out)).mono ?_
    rintro e w1 ⟨rfl, hb1⟩
    have HB1 := Lib.hid (HBA.out.trans (hb1.mono hszA))
    have HBX1 := Lib.hid hb1
    have hsz1 := HB1.out.size
    have hs1A := hb1.size
    have hblk1 := (HBX1.out.block w.heap.size (by omega)).trans HBLKA.out
    have x10 : w1.cell? ⟨w.heap.size, 0, none⟩ = some (.int .i64 b) := by rw [cell_of_row w1 _ 0 _ _ _ hblk1]; rfl
    have x11 : w1.cell? ⟨w.heap.size, 1, none⟩ = some (.slice ad xs.length c) := by rw [cell_of_row w1 _ 1 _ _ _ hblk1]; rfl
    clear hblk1
    clear hb1
    go_wp2
    go_ret
    rw [HD.out]
    exact ⟨rfl, HB1.out⟩
end Go.Proofs.YtcoggnoeafpgbaaGreat

/- Pack: the walks of IsPacking, the reference's and the program's, and of what they ask. -/
namespace Go.Proofs.YtcoggnoeafpgbaaGreat
open Go.RowKit

attribute [local go_sem ↓] Go.wp_at_zero Go.wp_at_succ

set_option maxRecDepth 100000 in
set_option maxHeartbeats 1600000 in
theorem spec7Has (ad : Option Addr) (c : Nat) (l : List Int) (x : Int) (w : World) (hn : l.length ≤ 1048576) (hc : CellsAt w ad (ints l)) :
    Calls Tryz.prog 62 #[.slice ad l.length c, .int .i64 x] w fun e w' => e = .returned (.bool (decide (x ∈ l))) ∧ Below w.heap.size w w' := by
  have HC := Lib.hid hc
  clear hc
  go_enter Tryz.func62, Tryz.ntmps62
  go_wp2
  go_loopw [5] (fun i wr => ∃ k : Nat, k ≤ l.length ∧ i = .int .i64 k ∧ (∀ v ∈ l.take k, v ≠ x) ∧ Below w.heap.size w wr) (fun i _ => l.length - (intOf i).toNat)
  case atStart => exact ⟨0, by omega, rfl, by simp, Below.refl _ _⟩
  case round =>
    obtain ⟨k, hk, rfl, hall, hb⟩ := hrel
    have HA := Lib.hid hall
    have HB := Lib.hid hb
    clear hall
    by_cases hlt : k < l.length
    · obtain ⟨g, off, rfl, hg, hcc⟩ := HC.out.open (by rw [ints_length]; omega)
      have x0 := (hb.cell (p := ⟨g, off + k, none⟩) hg).trans (hcc k _ (ints_at l k hlt))
      have HTK := Lib.hid (List.take_succ_eq_append_getElem hlt)
      have HMEM := Lib.hid (List.getElem_mem hlt)
      have i1 : (k : Int) < (l.length : Int) := by omega
      clear hcc hb
      generalize l[k] = v at x0 HMEM HTK
      by_cases hz : v = x
      · subst hz
        have HV := Lib.hid (show decide (v ∈ l) = true from decide_eq_true HMEM.out)
        go_wp2
        go_ret
        rw [HV.out]
        exact ⟨rfl, HB.out⟩
      · have hz1 : (v == x) = false := by simp; omega
        have HZ := Lib.hid hz
        clear hz
        go_wp2
        go_roundw
        case rel =>
          refine ⟨k + 1, by omega, by go_num, ?_, HB.out⟩
          rw [HTK.out]
          intro v hv
          rcases List.mem_append.1 hv with hv | hv
          · exact HA.out v hv
          · rw [List.mem_singleton.1 hv]
            exact HZ.out
        case measure => simp [intOf]; omega
    · obtain rfl : k = l.length := by omega
      rw [List.take_length] at HA
      have HV := Lib.hid (show decide (x ∈ l) = false from decide_eq_false fun h => HA.out x h rfl)
      go_wp2
      go_ret
      rw [HV.out]
      exact ⟨rfl, HB.out⟩

set_option maxRecDepth 100000 in
set_option maxHeartbeats 1600000 in
theorem implHasInt (ad : Option Addr) (c : Nat) (l : List Int) (x : Int) (w : World) (hn : l.length ≤ 1048576) (hc : CellsAt w ad (ints l)) :
    Calls Tryz.prog 78 #[.slice ad l.length c, .int .i64 x] w fun e w' => e = .returned (.bool (decide (x ∈ l))) ∧ Below w.heap.size w w' := by
  have HC := Lib.hid hc
  clear hc
  go_enter Tryz.func78, Tryz.ntmps78
  go_wp2
  go_loopw [9] (fun i wr => ∃ k : Nat, k ≤ l.length ∧ i = .int .i64 k ∧ (∀ v ∈ l.take k, v ≠ x) ∧ Below w.heap.size w wr) (fun i _ => l.length - (intOf i).toNat)
  case atStart => exact ⟨0, by omega, rfl, by simp, Below.refl _ _⟩
  case round =>
    obtain ⟨k, hk, rfl, hall, hb⟩ := hrel
    have HA := Lib.hid hall
    have HB := Lib.hid hb
    clear hall
    by_cases hlt : k < l.length
    · obtain ⟨g, off, rfl, hg, hcc⟩ := HC.out.open (by rw [ints_length]; omega)
      have x0 := (hb.cell (p := ⟨g, off + k, none⟩) hg).trans (hcc k _ (ints_at l k hlt))
      have HTK := Lib.hid (List.take_succ_eq_append_getElem hlt)
      have HMEM := Lib.hid (List.getElem_mem hlt)
      have i1 : (k : Int) < (l.length : Int) := by omega
      clear hcc hb
      generalize l[k] = v at x0 HMEM HTK
      by_cases hz : v = x
      · subst hz
        have HV := Lib.hid (show decide (v ∈ l) = true from decide_eq_true HMEM.out)
        go_wp2
        go_ret
        rw [HV.out]
        exact ⟨rfl, HB.out⟩
      · have hz1 : (v == x) = false := by simp; omega
        have HZ := Lib.hid hz
        clear hz
        go_wp2
        go_roundw
        case rel =>
          refine ⟨k + 1, by omega, by go_num, ?_, HB.out⟩
          rw [HTK.out]
          intro v hv
          rcases List.mem_append.1 hv with hv | hv
          · exact HA.out v hv
          · rw [List.mem_singleton.1 hv]
            exact HZ.out
        case measure => simp [intOf]; omega
    · obtain rfl : k = l.length := by omega
      rw [List.take_length] at HA
      have HV := Lib.hid (show decide (x ∈ l) = false from decide_eq_false fun h => HA.out x h rfl)
      go_wp2
      go_ret
      rw [HV.out]
      exact ⟨rfl, HB.out⟩

set_option maxRecDepth 100000 in
set_option maxHeartbeats 3200000 in
theorem implApart (aa : Option Addr) (ca : Nat) (A : List Int) (al : Option Addr) (cl : Nat) (l : List Int) (w : World) (hlA : A.length ≤ 1048576) (hs : ∀ v ∈ A, Small v) (hn : l.length ≤ 1048576) (ha : CellsAt w aa (ints A)) (hc : CellsAt w al (ints l)) :
    Calls Tryz.prog 57 #[.slice aa A.length ca, .slice al l.length cl] w fun e w' => e = .returned (.bool (apartL A l)) ∧ Below w.heap.size w w' := by
  have HAW := Lib.hid ha
  have HLW := Lib.hid hc
  have HSM := Lib.hid hs
  have hdef : apartL A l = apTo A l l.length := rfl
  rw [hdef]
  clear hc ha hs hdef
  go_enter Tryz.func57, Tryz.ntmps57
  go_wp2
  go_loopw [5, 10] (fun uv i wr => ∃ k U : Nat, k ≤ l.length ∧ i = .int .i64 k ∧ uv = .int .i64 U ∧ U = usedTo l k ∧ U < 68719476736 ∧ apTo A l k = true ∧ Below w.heap.size w wr) (fun _ i _ => l.length - (intOf i).toNat)
  case atStart => exact ⟨0, 0, Nat.zero_le _, rfl, rfl, rfl, by decide, rfl, Below.refl _ _⟩
  case round =>
    obtain ⟨k, U, hk, rfl, rfl, hU, hUl, hap, hb⟩ := hrel
    have HAP := Lib.hid hap
    have HB := Lib.hid hb
    have HUU := Lib.hid hU
    have hszr := hb.size
    clear hap hb hU
    by_cases hlt : k < l.length
    · obtain ⟨g, off, rfl, hg, hcc⟩ := HLW.out.open (by rw [ints_length]; omega)
      have x0 := (HB.out.cell (p := ⟨g, off + k, none⟩) hg).trans (hcc k _ (ints_at l k hlt))
      have i1 : (k : Int) < (l.length : Int) := by omega
      have hst0 := apStep_at A l k hlt
      have hnx0 := usedTo_at l k hlt
      rw [← HUU.out] at hst0 hnx0
      have HHC0 := Lib.hid (fun w' h => implHasInt aa ca A l[k] w' hlA h)
      have HST := Lib.hid hst0
      have HNX := Lib.hid hnx0
      clear hst0 hnx0
      have hjs : ∀ j, k = j + 1 → ∃ h : j < l.length, l.getD (k - 1) 0 = l[j] := fun j hj => ⟨by omega, by subst hj; simp [List.getD_eq_getElem?_getD, List.getElem?_eq_getElem (show j < l.length by omega)]⟩
      have HJS := Lib.hid hjs
      clear hjs
      generalize l[k] = v at x0 HHC0 HST HNX
      by_cases hin : v ∈ A
      · have hsm := HSM.out _ hin
        have HHC := HHC0
        rw [decide_eq_true hin] at HHC HST
        clear HHC0
        obtain ⟨u, rfl⟩ : ∃ u : Nat, v = (u : Int) := ⟨v.toNat, by have := hsm.1; omega⟩
        have hu : u < 68719476736 := by have := hsm.2; omega
        rw [Int.toNat_natCast] at HST HNX
        have hand := i64_and_nat U u (by omega) (by omega)
        have hor := i64_or_nat U u (by omega) (by omega)
        have hm0 : U ||| u < 68719476736 := Nat.or_lt_two_pow (n := 36) hUl hu
        obtain ⟨q, hq⟩ : ∃ q, q = U &&& u := ⟨_, rfl⟩
        obtain ⟨m2, hm2⟩ : ∃ m2, m2 = U ||| u := ⟨_, rfl⟩
        rw [← hm2] at hor hm0 HNX
        rw [← hq] at hand HST
        have HLT := Lib.hid hm0
        clear hq hm2 hin hsm hu hm0
        by_cases hz : q = 0
        · subst hz
          have hz1 : (((0 : Nat) : Int) != 0) = false := rfl
          rcases Nat.eq_zero_or_pos k with h0 | h0
          · have g0 : decide ((0 : Int) < (k : Int)) = false := decide_eq_false (by omega)
            have g0n : decide (0 < k) = false := decide_eq_false (by omega)
            clear HJS
            have hap2 : apTo A l (k + 1) = true := by rw [apTo, HAP.out, HST.out]; simp [h0]
            have HAP2 := Lib.hid hap2
            clear hap2
            clear h0
            go_wp2_with fail
            refine (HHC.out wr (HAW.out.below HB.out)).mono ?_
            rintro e w5 ⟨rfl, hb5⟩
            have HB5 := Lib.hid (HB.out.trans (hb5.mono hszr))
            clear hb5
            go_wp2
            go_roundw
            case rel => exact ⟨k + 1, m2, by omega, by go_num, rfl, HNX.out, HLT.out, HAP2.out, HB5.out⟩
            case measure => simp [intOf]; omega
          · obtain ⟨j, hj⟩ : ∃ j, k = j + 1 := ⟨k - 1, by omega⟩
            obtain ⟨hjl, hpj⟩ := HJS.out j hj
            have g0 : decide ((0 : Int) < (k : Int)) = true := decide_eq_true (by omega)
            have g0n : decide (0 < k) = true := decide_eq_true (by omega)
            have tk : wrap64 ((k : Int) - 1) = (j : Int) := by rw [hj]; push_cast; rw [Int.add_sub_cancel]; exact wrap_nat (by omega)
            have tk2 : IntKind.i64.wrap ((k : Int) - 1) = (j : Int) := by rw [IntWalk.i64_left]; exact tk
            have i2 : (j : Int) < (l.length : Int) := by omega
            rw [hpj] at HST
            have x1 := (HB.out.cell (p := ⟨g, off + j, none⟩) hg).trans (hcc j _ (ints_at l j hjl))
            clear hpj HJS
            generalize l[j] = p at x1 HST
            have HJ := Lib.hid hj
            have hk0 : ¬ k = 0 := by omega
            clear hj
            by_cases hpv : p < (u : Int)
            · have gv : decide ((u : Int) ≤ p) = false := decide_eq_false (by omega)
              have hap2 : apTo A l (k + 1) = true := by rw [apTo, HAP.out, HST.out]; simp [hpv]
              have HAP2 := Lib.hid hap2
              clear hap2
              clear hpv hk0
              go_wp2_with fail
              refine (HHC.out wr (HAW.out.below HB.out)).mono ?_
              rintro e w5 ⟨rfl, hb5⟩
              have HB5 := Lib.hid (HB.out.trans (hb5.mono hszr))
              have x1 := (hb5.cell (p := ⟨g, off + j, none⟩) (by simp; omega)).trans x1
              clear hb5
              go_wp2
              go_roundw
              case rel => exact ⟨k + 1, m2, by omega, by go_num, rfl, HNX.out, HLT.out, HAP2.out, HB5.out⟩
              case measure => simp [intOf]; omega
            · have gv : decide ((u : Int) ≤ p) = true := decide_eq_true (by omega)
              have hst := HST.out
              rw [decide_eq_false hpv, decide_eq_false hk0] at hst
              have HV := Lib.hid (apTo_false (l := l) (A := A) (by rw [apTo, HAP.out, hst]; rfl : apTo A l (k + 1) = false) (by omega : k + 1 ≤ l.length))
              clear hst
              clear hpv hk0
              go_wp2_with fail
              refine (HHC.out wr (HAW.out.below HB.out)).mono ?_
              rintro e w5 ⟨rfl, hb5⟩
              have HB5 := Lib.hid (HB.out.trans (hb5.mono hszr))
              have x1 := (hb5.cell (p := ⟨g, off + j, none⟩) (by simp; omega)).trans x1
              clear hb5
              go_wp2
              go_ret
              rw [HV.out]
              exact ⟨rfl, HB5.out⟩
        · have hz1 : ((q : Int) != 0) = true := by simp; omega
          have hst := HST.out
          rw [decide_eq_false hz] at hst
          have HV := Lib.hid (apTo_false (l := l) (A := A) (by rw [apTo, HAP.out, hst]; rfl : apTo A l (k + 1) = false) (by omega : k + 1 ≤ l.length))
          clear hst
          clear hz HJS
          go_wp2_with fail
          refine (HHC.out wr (HAW.out.below HB.out)).mono ?_
          rintro e w5 ⟨rfl, hb5⟩
          have HB5 := Lib.hid (HB.out.trans (hb5.mono hszr))
          clear hb5
          go_wp2
          go_ret
          rw [HV.out]
          exact ⟨rfl, HB5.out⟩
      · have HHC := HHC0
        rw [decide_eq_false hin] at HHC HST
        clear HHC0 HJS hin
        have HV := Lib.hid (apTo_false (l := l) (A := A) (by rw [apTo, HAP.out, HST.out]; rfl : apTo A l (k + 1) = false) (by omega : k + 1 ≤ l.length))
        go_wp2_with fail
        refine (HHC.out wr (HAW.out.below HB.out)).mono ?_
        rintro e w5 ⟨rfl, hb5⟩
        have HB5 := Lib.hid (HB.out.trans (hb5.mono hszr))
        clear hb5
        go_wp2
        go_ret
        rw [HV.out]
        exact ⟨rfl, HB5.out⟩
    · obtain rfl : k = l.length := by omega
      have HV := HAP
      have HB5 := HB
      go_wp2
      go_ret
      rw [HV.out]
      exact ⟨rfl, HB5.out⟩

set_option maxRecDepth 100000 in
set_option maxHeartbeats 3200000 in
theorem implPack (b : Int) (ad : Option Addr) (c : Nat) (xs : List Int) (sa : Option Addr) (cs : Nat) (ps : List (List Cl)) (al : Option Addr) (cl : Nat) (l : List Int) (w : World) (hn : xs.length ≤ 1048576) (hnp : ps.length ≤ 1048576) (hl : ∀ p ∈ ps, p.length ≤ 1048576) (hnl : l.length ≤ 1048576) (hc : CellsAt w ad (ints xs)) (hcp : ShpsAt w sa ps) (hcl : CellsAt w al (ints l)) :
    Calls Tryz.prog 26 #[.agg #[.int .i64 b, .slice ad xs.length c], .slice sa ps.length cs, .slice al l.length cl] w fun e w' => e = .returned (.bool (packR b xs ps l)) ∧ Below w.heap.size w w' := by
  have hdef : packR b xs ps l = (decide (Reg b xs) && (decide (Pcs ps) && apartL (allL b.toNat xs ps) l)) := rfl
  have HPR := Lib.hid (fun w' h1 h2 => implProb b ad c xs sa cs ps w' hn hnp hl h1 h2)
  have HC := Lib.hid hc
  have HCP := Lib.hid hcp
  have HCL := Lib.hid hcl
  clear hc hcp hcl
  obtain ⟨wA, hwA⟩ : ∃ wA, wA = w.alloc (.cells #[.int .i64 b, .slice ad xs.length c] 29) := ⟨_, rfl⟩
  have hbA : Below w.heap.size w wA := by rw [hwA]; exact (Below.refl _ _).alloc (Nat.le_refl _) _
  have hzA : wA.heap.size = w.heap.size + 1 := by rw [hwA]; simp
  have hblkA : wA.heap[w.heap.size]? = some (.cells #[.int .i64 b, .slice ad xs.length c] 29 (0, 0)) := by rw [hwA]; exact heap_alloc_new w _
  have HBA := Lib.hid hbA
  have HBLKA := Lib.hid hblkA
  have HWA := Lib.hid hwA
  have hszA := hbA.size
  clear hbA hblkA hwA
  by_cases hok : Reg b xs ∧ Pcs ps
  · obtain ⟨hr, hp⟩ := hok
    have hbn : b = (b.toNat : Int) := by have := hr.1.1; omega
    obtain ⟨B, hB⟩ : ∃ B, B = b.toNat := ⟨_, rfl⟩
    rw [← hB] at hbn hdef
    rw [decide_eq_true hr, decide_eq_true hp] at hdef HPR
    simp only [Bool.true_and] at hdef HPR
    have hrB : Reg (B : Int) xs := by rw [← hbn]; exact hr
    have hal0 := fun w' h1 h2 => implAll B ad c xs sa cs ps w' hrB hp h1 h2
    rw [← hbn] at hal0
    have HAL := Lib.hid hal0
    have hlen := allL_length hrB hp
    have HSM := Lib.hid (allL_small hrB ps)
    have HD := Lib.hid hdef
    clear hdef hal0 hrB hr hp hbn hB hl
    generalize allL B xs ps = A at HAL hlen HSM HD
    go_enter Tryz.func26, Tryz.ntmps26
    go_wp2_with fail
    rw [← HWA.out]
    refine (HPR.out wA (HC.out.below HBA.out) (HCP.out.below HBA.out)).mono ?_
    rintro e w1 ⟨rfl, hb1⟩
    have HB1 := Lib.hid (HBA.out.trans (hb1.mono hszA))
    have HBX1 := Lib.hid hb1
    have hsz1 := HB1.out.size
    have hs1A := hb1.size
    have hblk1 := (HBX1.out.block w.heap.size (by omega)).trans HBLKA.out
    have x10 : w1.cell? ⟨w.heap.size, 0, none⟩ = some (.int .i64 b) := by rw [cell_of_row w1 _ 0 _ _ _ hblk1]; rfl
    have x11 : w1.cell? ⟨w.heap.size, 1, none⟩ = some (.slice ad xs.length c) := by rw [cell_of_row w1 _ 1 _ _ _ hblk1]; rfl
    clear hblk1
    clear hb1
    go_wp2_with fail
    refine (HAL.out w1 (HC.out.below HB1.out) (HCP.out.below HB1.out)).mono ?_
    rintro e w3 ⟨a3, c3, rfl, ho3, hb3⟩
    have HB3 := Lib.hid (HB1.out.trans (hb3.mono hsz1))
    have hsz3 := HB3.out.size
    have HBL := Lib.hid (implApart a3 c3 A al cl l w3 (by omega) HSM.out hnl (ownsRow_cellsAt ho3) (HCL.out.below HB3.out))
    clear hb3 ho3
    go_wp2_with fail
    refine HBL.out.mono ?_
    rintro e w4 ⟨rfl, hb4⟩
    have HB4 := Lib.hid (HB3.out.trans (hb4.mono hsz3))
    clear hb4
    go_wp2
    go_ret
    rw [HD.out]
    exact ⟨rfl, HB4.out⟩
  · have hf : packR b xs ps l = false := by
      rw [hdef]
      by_cases h1 : Reg b xs
      · have h2 : ¬ Pcs ps := fun q => hok ⟨h1, q⟩
        rw [decide_eq_false h2]
        simp
      · rw [decide_eq_false h1]
        rfl
    have hf2 : (decide (Reg b xs) && decide (Pcs ps)) = false := by
      by_cases h1 : Reg b xs
      · have h2 : ¬ Pcs ps := fun q => hok ⟨h1, q⟩
        rw [decide_eq_false h2]
        simp
      · rw [decide_eq_false h1]
        rfl
    rw [hf2] at HPR
    have HD := Lib.hid hf
    clear hdef hf hf2 hok hl
    go_enter Tryz.func26, Tryz.ntmps26
    go_wp2_with fail
    rw [← HWA.out]
    refine (HPR.out wA (HC.out.below HBA.out) (HCP.out.below HBA.out)).mono ?_
    rintro e w1 ⟨rfl, hb1⟩
    have HB1 := Lib.hid (HBA.out.trans (hb1.mono hszA))
    have HBX1 := Lib.hid hb1
    have hsz1 := HB1.out.size
    have hs1A := hb1.size
    have hblk1 := (HBX1.out.block w.heap.size (by omega)).trans HBLKA.out
    have x10 : w1.cell? ⟨w.heap.size, 0, none⟩ = some (.int .i64 b) := by rw [cell_of_row w1 _ 0 _ _ _ hblk1]; rfl
    have x11 : w1.cell? ⟨w.heap.size, 1, none⟩ = some (.slice ad xs.length c) := by rw [cell_of_row w1 _ 1 _ _ _ hblk1]; rfl
    clear hblk1
    clear hb1
    go_wp2
    go_ret
    rw [HD.out]
    exact ⟨rfl, HB1.out⟩

set_option maxRecDepth 100000 in
set_option maxHeartbeats 3200000 in
theorem specPack (b : Int) (ad : Option Addr) (c : Nat) (xs : List Int) (sa : Option Addr) (cs : Nat) (ps : List (List Cl)) (al : Option Addr) (cl : Nat) (l : List Int) (w : World) (hn : xs.length ≤ 1048576) (hnp : ps.length ≤ 1048576) (hl : ∀ p ∈ ps, p.length ≤ 1048576) (hnl : l.length ≤ 1048576) (hc : CellsAt w ad (ints xs)) (hcp : ShpsAt w sa ps) (hcl : CellsAt w al (ints l)) :
    Calls Tryz.prog 33 #[.agg #[.int .i64 b, .slice ad xs.length c], .slice sa ps.length cs, .slice al l.length cl] w fun e w' => e = .returned (.bool (packR b xs ps l)) ∧ Below w.heap.size w w' := by
  have hdef : packR b xs ps l = (decide (Reg b xs) && (decide (Pcs ps) && apartL (allL b.toNat xs ps) l)) := rfl
  have HREG := Lib.hid (fun w' h => specReg b ad c xs w' hn h)
  have HPC := Lib.hid (fun w' h => specPieces sa cs ps w' hnp hl h)
  have HC := Lib.hid hc
  have HCP := Lib.hid hcp
  have HCL := Lib.hid hcl
  clear hc hcp hl hcl
  obtain ⟨wA, hwA⟩ : ∃ wA, wA = w.alloc (.cells #[.int .i64 b, .slice ad xs.length c] 29) := ⟨_, rfl⟩
  have hbA : Below w.heap.size w wA := by rw [hwA]; exact (Below.refl _ _).alloc (Nat.le_refl _) _
  have hzA : wA.heap.size = w.heap.size + 1 := by rw [hwA]; simp
  have hblkA : wA.heap[w.heap.size]? = some (.cells #[.int .i64 b, .slice ad xs.length c] 29 (0, 0)) := by rw [hwA]; exact heap_alloc_new w _
  have HBA := Lib.hid hbA
  have HBLKA := Lib.hid hblkA
  have HWA := Lib.hid hwA
  have hszA := hbA.size
  clear hbA hblkA hwA
  by_cases hr : Reg b xs
  · by_cases hp : Pcs ps
    · have hbn : b = (b.toNat : Int) := by have := hr.1.1; omega
      obtain ⟨B, hB⟩ : ∃ B, B = b.toNat := ⟨_, rfl⟩
      rw [← hB] at hbn hdef
      rw [decide_eq_true hr] at hdef HREG
      rw [decide_eq_true hp] at hdef HPC
      simp only [Bool.true_and] at hdef
      have hrB : Reg (B : Int) xs := by rw [← hbn]; exact hr
      have hal0 := fun w' h1 h2 => specAll B ad c xs sa cs ps w' hrB hp h1 h2
      rw [← hbn] at hal0
      have HAL := Lib.hid hal0
      have hlen := allL_length hrB hp
      have HSM := Lib.hid (allL_small hrB ps)
      clear hal0 hrB hr hp hbn hB
      generalize allL B xs ps = A at HAL hlen HSM hdef
      have hdef2 : apartL A l = apTo A l l.length := rfl
      rw [hdef2] at hdef
      have HD := Lib.hid hdef
      clear hdef hdef2
      go_enter Tryz.func33, Tryz.ntmps33
      go_wp2_with fail
      rw [← HWA.out]
      refine (HREG.out wA (HC.out.below HBA.out)).mono ?_
      rintro e w1 ⟨rfl, hb1⟩
      have HB1 := Lib.hid (HBA.out.trans (hb1.mono hszA))
      have HBX1 := Lib.hid hb1
      have hsz1 := HB1.out.size
      have hs1A := hb1.size
      have hblk1 := (HBX1.out.block w.heap.size (by omega)).trans HBLKA.out
      have x10 : w1.cell? ⟨w.heap.size, 0, none⟩ = some (.int .i64 b) := by rw [cell_of_row w1 _ 0 _ _ _ hblk1]; rfl
      have x11 : w1.cell? ⟨w.heap.size, 1, none⟩ = some (.slice ad xs.length c) := by rw [cell_of_row w1 _ 1 _ _ _ hblk1]; rfl
      clear hblk1
      clear hb1
      go_wp2_with fail
      refine (HPC.out w1 (HCP.out.below HB1.out)).mono ?_
      rintro e w2 ⟨rfl, hb2⟩
      have HB2 := Lib.hid (HB1.out.trans (hb2.mono hsz1))
      have hsz2 := HB2.out.size
      have hs21 := hb2.size
      have y0 := (hb2.cell (p := ⟨w.heap.size, 0, none⟩) (by simp; omega)).trans x10
      have y1 := (hb2.cell (p := ⟨w.heap.size, 1, none⟩) (by simp; omega)).trans x11
      clear hb2 x10 x11
      go_wp2_with fail
      refine (HAL.out w2 (HC.out.below HB2.out) (HCP.out.below HB2.out)).mono ?_
      rintro e w3 ⟨aa, ca, rfl, ho3, hb3⟩
      have HB3 := Lib.hid (HB2.out.trans (hb3.mono hsz2))
      have hsz3 := HB3.out.size
      have HAW := Lib.hid (ownsRow_cellsAt ho3)
      have HLW := Lib.hid (HCL.out.below HB3.out)
      have hlA : A.length ≤ 1048576 := by omega
      clear hb3 ho3 y0 y1 hlen
      go_wp2
      go_loopw [8, 9] (fun uv i wr => ∃ k U : Nat, k ≤ l.length ∧ i = .int .i64 k ∧ uv = .int .i64 U ∧ U = usedTo l k ∧ U < 68719476736 ∧ apTo A l k = true ∧ Below w3.heap.size w3 wr) (fun _ i _ => l.length - (intOf i).toNat)
      case atStart => exact ⟨0, 0, Nat.zero_le _, rfl, rfl, rfl, by decide, rfl, Below.refl _ _⟩
      case round =>
        obtain ⟨k, U, hk, rfl, rfl, hU, hUl, hap, hb⟩ := hrel
        have HAP := Lib.hid hap
        have HB := Lib.hid hb
        have HUU := Lib.hid hU
        have hszr := hb.size
        clear hap hb hU
        by_cases hlt : k < l.length
        · obtain ⟨g, off, rfl, hg, hcc⟩ := HLW.out.open (by rw [ints_length]; omega)
          have x0 := (HB.out.cell (p := ⟨g, off + k, none⟩) hg).trans (hcc k _ (ints_at l k hlt))
          have i1 : (k : Int) < (l.length : Int) := by omega
          have hst0 := apStep_at A l k hlt
          have hnx0 := usedTo_at l k hlt
          rw [← HUU.out] at hst0 hnx0
          have HHC0 := Lib.hid (fun w' h => spec7Has aa ca A l[k] w' hlA h)
          have HST := Lib.hid hst0
          have HNX := Lib.hid hnx0
          clear hst0 hnx0
          have hjs : ∀ j, k = j + 1 → ∃ h : j < l.length, l.getD (k - 1) 0 = l[j] := fun j hj => ⟨by omega, by subst hj; simp [List.getD_eq_getElem?_getD, List.getElem?_eq_getElem (show j < l.length by omega)]⟩
          have HJS := Lib.hid hjs
          clear hjs
          generalize l[k] = v at x0 HHC0 HST HNX
          by_cases hin : v ∈ A
          · have hsm := HSM.out _ hin
            have HHC := HHC0
            rw [decide_eq_true hin] at HHC HST
            clear HHC0
            obtain ⟨u, rfl⟩ : ∃ u : Nat, v = (u : Int) := ⟨v.toNat, by have := hsm.1; omega⟩
            have hu : u < 68719476736 := by have := hsm.2; omega
            rw [Int.toNat_natCast] at HST HNX
            have hand := i64_and_nat U u (by omega) (by omega)
            have hor := i64_or_nat U u (by omega) (by omega)
            have hm0 : U ||| u < 68719476736 := Nat.or_lt_two_pow (n := 36) hUl hu
            obtain ⟨q, hq⟩ : ∃ q, q = U &&& u := ⟨_, rfl⟩
            obtain ⟨m2, hm2⟩ : ∃ m2, m2 = U ||| u := ⟨_, rfl⟩
            rw [← hm2] at hor hm0 HNX
            rw [← hq] at hand HST
            have HLT := Lib.hid hm0
            clear hq hm2 hin hsm hu hm0
            by_cases hz : q = 0
            · subst hz
              have hz1 : (((0 : Nat) : Int) != 0) = false := rfl
              rcases Nat.eq_zero_or_pos k with h0 | h0
              · have g0 : decide ((0 : Int) < (k : Int)) = false := decide_eq_false (by omega)
                have g0n : decide (0 < k) = false := decide_eq_false (by omega)
                clear HJS
                have hap2 : apTo A l (k + 1) = true := by rw [apTo, HAP.out, HST.out]; simp [h0]
                have HAP2 := Lib.hid hap2
                clear hap2
                clear h0
                have X0 := cell_regrown x0
                have HCALL := Lib.hid (fun d os => Calls.regrown_of (d := d) (os := os) (HHC.out (Go.Sort.grow (redrawn wr d) os) (HAW.out.below (HB.out.trans ((below_regrown wr d os).mono hszr)))))
                clear x0
                go_wp2
                refine wp_region_quiet_below (by kernel_rfl) (by kernel_rfl) ?_
                repeat (go_big_quiet_step (exact HCALL.out _ _))
                refine wpQuiet_nil ?_
                intro _ hw'
                obtain ⟨⟨dq, osq⟩, hw''⟩ := hw'
                subst hw''
                have hb5r := below_regrown wr dq osq
                have x0 := X0 dq osq
                generalize Go.Sort.grow (redrawn wr dq) osq = w5 at hb5r x0 ⊢
                have HB5 := Lib.hid (HB.out.trans (hb5r.mono hszr))
                clear hb5r X0
                go_wp2
                go_roundw
                case rel => exact ⟨k + 1, m2, by omega, by go_num, rfl, HNX.out, HLT.out, HAP2.out, HB5.out⟩
                case measure => simp [intOf]; omega
              · obtain ⟨j, hj⟩ : ∃ j, k = j + 1 := ⟨k - 1, by omega⟩
                obtain ⟨hjl, hpj⟩ := HJS.out j hj
                have g0 : decide ((0 : Int) < (k : Int)) = true := decide_eq_true (by omega)
                have g0n : decide (0 < k) = true := decide_eq_true (by omega)
                have tk : wrap64 ((k : Int) - 1) = (j : Int) := by rw [hj]; push_cast; rw [Int.add_sub_cancel]; exact wrap_nat (by omega)
                have tk2 : IntKind.i64.wrap ((k : Int) - 1) = (j : Int) := by rw [IntWalk.i64_left]; exact tk
                have i2 : (j : Int) < (l.length : Int) := by omega
                rw [hpj] at HST
                have x1 := (HB.out.cell (p := ⟨g, off + j, none⟩) hg).trans (hcc j _ (ints_at l j hjl))
                clear hpj HJS
                generalize l[j] = p at x1 HST
                have HJ := Lib.hid hj
                have hk0 : ¬ k = 0 := by omega
                clear hj
                by_cases hpv : p < (u : Int)
                · have gv : decide ((u : Int) ≤ p) = false := decide_eq_false (by omega)
                  have hap2 : apTo A l (k + 1) = true := by rw [apTo, HAP.out, HST.out]; simp [hpv]
                  have HAP2 := Lib.hid hap2
                  clear hap2
                  clear hpv hk0
                  have X0 := cell_regrown x0
                  have X1 := cell_regrown x1
                  have HCALL := Lib.hid (fun d os => Calls.regrown_of (d := d) (os := os) (HHC.out (Go.Sort.grow (redrawn wr d) os) (HAW.out.below (HB.out.trans ((below_regrown wr d os).mono hszr)))))
                  clear x0 x1
                  go_wp2
                  refine wp_region_quiet_below (by kernel_rfl) (by kernel_rfl) ?_
                  repeat (go_big_quiet_step (exact HCALL.out _ _))
                  refine wpQuiet_nil ?_
                  intro _ hw'
                  obtain ⟨⟨dq, osq⟩, hw''⟩ := hw'
                  subst hw''
                  have hb5r := below_regrown wr dq osq
                  have x0 := X0 dq osq
                  generalize Go.Sort.grow (redrawn wr dq) osq = w5 at hb5r x0 ⊢
                  have HB5 := Lib.hid (HB.out.trans (hb5r.mono hszr))
                  clear hb5r X0 X1
                  go_wp2
                  go_roundw
                  case rel => exact ⟨k + 1, m2, by omega, by go_num, rfl, HNX.out, HLT.out, HAP2.out, HB5.out⟩
                  case measure => simp [intOf]; omega
                · have gv : decide ((u : Int) ≤ p) = true := decide_eq_true (by omega)
                  have hst := HST.out
                  rw [decide_eq_false hpv, decide_eq_false hk0] at hst
                  have HV := Lib.hid (apTo_false (l := l) (A := A) (by rw [apTo, HAP.out, hst]; rfl : apTo A l (k + 1) = false) (by omega : k + 1 ≤ l.length))
                  clear hst
                  clear hpv hk0
                  have X0 := cell_regrown x0
                  have X1 := cell_regrown x1
                  have HCALL := Lib.hid (fun d os => Calls.regrown_of (d := d) (os := os) (HHC.out (Go.Sort.grow (redrawn wr d) os) (HAW.out.below (HB.out.trans ((below_regrown wr d os).mono hszr)))))
                  clear x0 x1
                  go_wp2
                  refine wp_region_quiet_below (by kernel_rfl) (by kernel_rfl) ?_
                  repeat (go_big_quiet_step (exact HCALL.out _ _))
                  refine wpQuiet_nil ?_
                  intro _ hw'
                  obtain ⟨⟨dq, osq⟩, hw''⟩ := hw'
                  subst hw''
                  have hb5r := below_regrown wr dq osq
                  have x0 := X0 dq osq
                  generalize Go.Sort.grow (redrawn wr dq) osq = w5 at hb5r x0 ⊢
                  have HB5 := Lib.hid (HB.out.trans (hb5r.mono hszr))
                  clear hb5r X0 X1
                  go_wp2
                  go_ret
                  rw [HD.out, HV.out]
                  exact ⟨rfl, HB3.out.trans (HB5.out.mono hsz3)⟩
            · have hz1 : ((q : Int) != 0) = true := by simp; omega
              have hst := HST.out
              rw [decide_eq_false hz] at hst
              have HV := Lib.hid (apTo_false (l := l) (A := A) (by rw [apTo, HAP.out, hst]; rfl : apTo A l (k + 1) = false) (by omega : k + 1 ≤ l.length))
              clear hst
              clear hz HJS
              have X0 := cell_regrown x0
              have HCALL := Lib.hid (fun d os => Calls.regrown_of (d := d) (os := os) (HHC.out (Go.Sort.grow (redrawn wr d) os) (HAW.out.below (HB.out.trans ((below_regrown wr d os).mono hszr)))))
              clear x0
              go_wp2
              refine wp_region_quiet_below (by kernel_rfl) (by kernel_rfl) ?_
              repeat (go_big_quiet_step (exact HCALL.out _ _))
              refine wpQuiet_nil ?_
              intro _ hw'
              obtain ⟨⟨dq, osq⟩, hw''⟩ := hw'
              subst hw''
              have hb5r := below_regrown wr dq osq
              have x0 := X0 dq osq
              generalize Go.Sort.grow (redrawn wr dq) osq = w5 at hb5r x0 ⊢
              have HB5 := Lib.hid (HB.out.trans (hb5r.mono hszr))
              clear hb5r X0
              go_wp2
              go_ret
              rw [HD.out, HV.out]
              exact ⟨rfl, HB3.out.trans (HB5.out.mono hsz3)⟩
          · have HHC := HHC0
            rw [decide_eq_false hin] at HHC HST
            clear HHC0 HJS hin
            have HV := Lib.hid (apTo_false (l := l) (A := A) (by rw [apTo, HAP.out, HST.out]; rfl : apTo A l (k + 1) = false) (by omega : k + 1 ≤ l.length))
            have X0 := cell_regrown x0
            have HCALL := Lib.hid (fun d os => Calls.regrown_of (d := d) (os := os) (HHC.out (Go.Sort.grow (redrawn wr d) os) (HAW.out.below (HB.out.trans ((below_regrown wr d os).mono hszr)))))
            clear x0
            go_wp2
            refine wp_region_quiet_below (by kernel_rfl) (by kernel_rfl) ?_
            repeat (go_big_quiet_step (exact HCALL.out _ _))
            refine wpQuiet_nil ?_
            intro _ hw'
            obtain ⟨⟨dq, osq⟩, hw''⟩ := hw'
            subst hw''
            have hb5r := below_regrown wr dq osq
            have x0 := X0 dq osq
            generalize Go.Sort.grow (redrawn wr dq) osq = w5 at hb5r x0 ⊢
            have HB5 := Lib.hid (HB.out.trans (hb5r.mono hszr))
            clear hb5r X0
            go_wp2
            go_ret
            rw [HD.out, HV.out]
            exact ⟨rfl, HB3.out.trans (HB5.out.mono hsz3)⟩
        · obtain rfl : k = l.length := by omega
          have HV := HAP
          have HB5 := HB
          go_wp2
          go_ret
          rw [HD.out, HV.out]
          exact ⟨rfl, HB3.out.trans (HB5.out.mono hsz3)⟩
    · rw [decide_eq_false hp, decide_eq_true hr] at hdef
      simp only [Bool.true_and, Bool.false_and] at hdef
      rw [decide_eq_true hr] at HREG
      rw [decide_eq_false hp] at HPC
      have HD := Lib.hid hdef
      clear hdef hr hp
      go_enter Tryz.func33, Tryz.ntmps33
      go_wp2_with fail
      rw [← HWA.out]
      refine (HREG.out wA (HC.out.below HBA.out)).mono ?_
      rintro e w1 ⟨rfl, hb1⟩
      have HB1 := Lib.hid (HBA.out.trans (hb1.mono hszA))
      have HBX1 := Lib.hid hb1
      have hsz1 := HB1.out.size
      have hs1A := hb1.size
      have hblk1 := (HBX1.out.block w.heap.size (by omega)).trans HBLKA.out
      have x10 : w1.cell? ⟨w.heap.size, 0, none⟩ = some (.int .i64 b) := by rw [cell_of_row w1 _ 0 _ _ _ hblk1]; rfl
      have x11 : w1.cell? ⟨w.heap.size, 1, none⟩ = some (.slice ad xs.length c) := by rw [cell_of_row w1 _ 1 _ _ _ hblk1]; rfl
      clear hblk1
      clear hb1
      go_wp2_with fail
      refine (HPC.out w1 (HCP.out.below HB1.out)).mono ?_
      rintro e w2 ⟨rfl, hb2⟩
      have HB2 := Lib.hid (HB1.out.trans (hb2.mono hsz1))
      have hsz2 := HB2.out.size
      have hs21 := hb2.size
      have y0 := (hb2.cell (p := ⟨w.heap.size, 0, none⟩) (by simp; omega)).trans x10
      have y1 := (hb2.cell (p := ⟨w.heap.size, 1, none⟩) (by simp; omega)).trans x11
      clear hb2 x10 x11
      go_wp2
      go_ret
      rw [HD.out]
      exact ⟨rfl, HB2.out⟩
  · rw [decide_eq_false hr] at hdef HREG
    simp only [Bool.false_and] at hdef
    have HD := Lib.hid hdef
    clear hdef hr
    go_enter Tryz.func33, Tryz.ntmps33
    go_wp2_with fail
    rw [← HWA.out]
    refine (HREG.out wA (HC.out.below HBA.out)).mono ?_
    rintro e w1 ⟨rfl, hb1⟩
    have HB1 := Lib.hid (HBA.out.trans (hb1.mono hszA))
    have HBX1 := Lib.hid hb1
    have hsz1 := HB1.out.size
    have hs1A := hb1.size
    have hblk1 := (HBX1.out.block w.heap.size (by omega)).trans HBLKA.out
    have x10 : w1.cell? ⟨w.heap.size, 0, none⟩ = some (.int .i64 b) := by rw [cell_of_row w1 _ 0 _ _ _ hblk1]; rfl
    have x11 : w1.cell? ⟨w.heap.size, 1, none⟩ = some (.slice ad xs.length c) := by rw [cell_of_row w1 _ 1 _ _ _ hblk1]; rfl
    clear hblk1
    clear hb1
    go_wp2
    go_ret
    rw [HD.out]
    exact ⟨rfl, HB1.out⟩

end Go.Proofs.YtcoggnoeafpgbaaGreat

/- Holes: the walks of HolesLeft, the reference's and the program's. -/
namespace Go.Proofs.YtcoggnoeafpgbaaGreat
open Go.RowKit

theorem holes_at {m : Nat} {ls : List Int} {k : Nat} (h : k < ls.length) : holesTo m ls (k + 1) = takeOff (holesTo m ls k) ls[k] := by
  rw [holesTo, List.getD_eq_getElem?_getD, List.getElem?_eq_getElem h]
  rfl
theorem i64_sub_and (m x : Nat) (hm : m < 68719476736) (hx : x < 9223372036854775808) : wrap64 ((m : Int) - bits .and .i64 (m : Int) (x : Int)) = ((m - (m &&& x) : Nat) : Int) := by
  have hle : m &&& x ≤ m := Nat.and_le_left
  rw [i64_and_nat m x (by omega) hx, IntWalk.wrap64_in _ (by omega)]
  omega

set_option maxHeartbeats 1600000 in
theorem specHoles (b : Int) (ad al : Option Addr) (c cl : Nat) (xs ls : List Int) (w : World) (hn : xs.length ≤ 1048576) (hnl : ls.length ≤ 1048576) (hwl : ∀ x ∈ ls, (Lit.int .i64 x).wf = true) (hc : CellsAt w ad (ints xs)) (hcl : CellsAt w al (ints ls)) :
    Calls Tryz.prog 35 #[.agg #[.int .i64 b, .slice ad xs.length c], .slice al ls.length cl] w fun e w' => e = .returned (.int .i64 (holesLeft b xs ls)) ∧ Below w.heap.size w w' := by
  have hreg := fun w (h : CellsAt w ad (ints xs)) => specReg b ad c xs w hn h
  have HC := Lib.hid hc
  have HCL := Lib.hid hcl
  have hb0 : Below w.heap.size w (w.alloc (.cells #[.int .i64 b, .slice ad xs.length c] 29)) := (Below.refl _ _).alloc (Nat.le_refl _) _
  have HB0 := Lib.hid hb0
  have hblk0 : (w.alloc (.cells #[.int .i64 b, .slice ad xs.length c] 29)).heap[w.heap.size]? = some (.cells #[.int .i64 b, .slice ad xs.length c] 29 (0, 0)) := heap_alloc_new w _
  have HBLK0 := Lib.hid hblk0
  have HWL := Lib.hid hwl
  have hll := ints_length ls
  clear hc hcl hb0 hblk0 hwl
  by_cases hr : Reg b xs
  · have hv : holesLeft b xs ls = (holesTo (regMask b xs) ls ls.length : Nat) := if_pos hr
    rw [decide_eq_true hr] at hreg
    rw [hv]
    have hM := regMask_lt hr
    obtain ⟨B, rfl, hB1, hB2⟩ := int_le_nat hr.1.1 hr.1.2
    have hmask := fun w (h : CellsAt w ad (ints xs)) => specMask B ad c xs w hr h
    obtain ⟨M, hMM⟩ : ∃ M, M = regMask (B : Int) xs := ⟨_, rfl⟩
    rw [← hMM] at hmask hM ⊢
    have HMASK := Lib.hid hmask
    have HREG := Lib.hid hreg
    clear hmask hreg hv hMM hr
    go_enter Tryz.func35, Tryz.ntmps35
    go_wp2_with fail
    refine (HREG.out _ (HC.out.below HB0.out)).mono ?_
    rintro e w1 ⟨rfl, hb1⟩
    have hblk1 := (hb1.block w.heap.size (by simp)).trans HBLK0.out
    have x0 : w1.cell? ⟨w.heap.size, 0, none⟩ = some (.int .i64 B) := by rw [cell_of_row w1 _ 0 _ _ _ hblk1]; rfl
    have x1 : w1.cell? ⟨w.heap.size, 1, none⟩ = some (.slice ad xs.length c) := by rw [cell_of_row w1 _ 1 _ _ _ hblk1]; rfl
    have hb1w := HB0.out.trans (hb1.mono HB0.out.size)
    have HB1 := Lib.hid hb1w
    clear hblk1 hb1w hb1
    go_wp2_with fail
    refine (HMASK.out _ (HC.out.below HB1.out)).mono ?_
    rintro e w2 ⟨rfl, hb2⟩
    have hb2w := HB1.out.trans (hb2.mono HB1.out.size)
    have HB2 := Lib.hid hb2w
    clear hb2w hb2 x0 x1
    go_wp2
    go_loopw [5, 6] (fun m i wr => ∃ k : Nat, k ≤ ls.length ∧ i = .int .i64 k ∧ m = .int .i64 (holesTo M ls k : Nat) ∧ w2 = wr) (fun _ i _ => ls.length - (intOf i).toNat)
    case atStart => exact ⟨0, by omega, rfl, rfl, rfl⟩
    case round =>
      obtain ⟨k, hk, rfl, rfl, rfl⟩ := hrel
      by_cases hlt : k < ls.length
      · obtain ⟨g, off, rfl, hg, hcc⟩ := HCL.out.open (by omega)
        have hx := hcc k _ (ints_at ls k hlt)
        have y0 := (HB2.out.cell (p := ⟨g, off + k, none⟩) hg).trans hx
        have hat := holes_at (m := M) hlt
        have hwf := i64_bounds (HWL.out _ (List.getElem_mem hlt))
        obtain ⟨x, hxx⟩ : ∃ x, x = ls[k] := ⟨_, rfl⟩
        rw [← hxx] at y0 hat hwf
        have hmle := holesTo_le M ls k
        obtain ⟨m, hm⟩ : ∃ m, m = holesTo M ls k := ⟨_, rfl⟩
        rw [← hm] at hat hmle ⊢
        have HAT := Lib.hid hat
        obtain ⟨hw1, hw2⟩ := hwf
        clear hcc hx hxx hm hat
        by_cases h0 : 0 ≤ x
        · have d0 : decide (0 ≤ x) = true := decide_eq_true h0
          obtain ⟨X, rfl⟩ := Int.eq_ofNat_of_zero_le h0
          have hsub := Lib.hid (i64_sub_and m X (by omega) (by omega))
          go_wp2
          go_roundw
          case rel =>
            refine ⟨k + 1, by omega, by go_num, ?_, trivial⟩
            rw [HAT.out, takeOff, if_pos h0, Int.toNat_natCast]
            rw [hsub.out]
          case measure => simp [intOf]; omega
        · have d0 : decide (0 ≤ x) = false := decide_eq_false h0
          go_wp2
          go_roundw
          case rel =>
            refine ⟨k + 1, by omega, by go_num, ?_, trivial⟩
            rw [HAT.out, takeOff, if_neg h0]
          case measure => simp [intOf]; omega
      · obtain rfl : k = ls.length := by omega
        go_wp2
        go_ret
        exact ⟨rfl, HB2.out⟩
  · have hv : holesLeft b xs ls = -1 := if_neg hr
    rw [decide_eq_false hr] at hreg
    rw [hv]
    have HREG := Lib.hid hreg
    clear hreg hv hr
    go_enter Tryz.func35, Tryz.ntmps35
    go_wp2_with fail
    refine (HREG.out _ (HC.out.below HB0.out)).mono ?_
    rintro e w1 ⟨rfl, hb1⟩
    go_wp2
    go_ret
    exact ⟨rfl, HB0.out.trans (hb1.mono HB0.out.size)⟩

set_option maxHeartbeats 1600000 in
theorem implHoles (b : Int) (ad al : Option Addr) (c cl : Nat) (xs ls : List Int) (w : World) (hn : xs.length ≤ 1048576) (hnl : ls.length ≤ 1048576) (hwl : ∀ x ∈ ls, (Lit.int .i64 x).wf = true) (hc : CellsAt w ad (ints xs)) (hcl : CellsAt w al (ints ls)) :
    Calls Tryz.prog 29 #[.agg #[.int .i64 b, .slice ad xs.length c], .slice al ls.length cl] w fun e w' => e = .returned (.int .i64 (holesLeft b xs ls)) ∧ Below w.heap.size w w' := by
  have hreg := fun w (h : CellsAt w ad (ints xs)) => implReg b ad c xs w hn h
  have HC := Lib.hid hc
  have HCL := Lib.hid hcl
  have hb0 : Below w.heap.size w (w.alloc (.cells #[.int .i64 b, .slice ad xs.length c] 29)) := (Below.refl _ _).alloc (Nat.le_refl _) _
  have HB0 := Lib.hid hb0
  have hblk0 : (w.alloc (.cells #[.int .i64 b, .slice ad xs.length c] 29)).heap[w.heap.size]? = some (.cells #[.int .i64 b, .slice ad xs.length c] 29 (0, 0)) := heap_alloc_new w _
  have HBLK0 := Lib.hid hblk0
  have HWL := Lib.hid hwl
  have hll := ints_length ls
  clear hc hcl hb0 hblk0 hwl
  by_cases hr : Reg b xs
  · have hv : holesLeft b xs ls = (holesTo (regMask b xs) ls ls.length : Nat) := if_pos hr
    rw [decide_eq_true hr] at hreg
    rw [hv]
    have hM := regMask_lt hr
    obtain ⟨B, rfl, hB1, hB2⟩ := int_le_nat hr.1.1 hr.1.2
    have hmask := fun w (h : CellsAt w ad (ints xs)) => implMask B ad c xs w hr h
    obtain ⟨M, hMM⟩ : ∃ M, M = regMask (B : Int) xs := ⟨_, rfl⟩
    rw [← hMM] at hmask hM ⊢
    have HMASK := Lib.hid hmask
    have HREG := Lib.hid hreg
    clear hmask hreg hv hMM hr
    go_enter Tryz.func29, Tryz.ntmps29
    go_wp2_with fail
    refine (HREG.out _ (HC.out.below HB0.out)).mono ?_
    rintro e w1 ⟨rfl, hb1⟩
    have hblk1 := (hb1.block w.heap.size (by simp)).trans HBLK0.out
    have x0 : w1.cell? ⟨w.heap.size, 0, none⟩ = some (.int .i64 B) := by rw [cell_of_row w1 _ 0 _ _ _ hblk1]; rfl
    have x1 : w1.cell? ⟨w.heap.size, 1, none⟩ = some (.slice ad xs.length c) := by rw [cell_of_row w1 _ 1 _ _ _ hblk1]; rfl
    have hb1w := HB0.out.trans (hb1.mono HB0.out.size)
    have HB1 := Lib.hid hb1w
    clear hblk1 hb1w hb1
    go_wp2_with fail
    refine (HMASK.out _ (HC.out.below HB1.out)).mono ?_
    rintro e w2 ⟨rfl, hb2⟩
    have hb2w := HB1.out.trans (hb2.mono HB1.out.size)
    have HB2 := Lib.hid hb2w
    clear hb2w hb2 x0 x1
    go_wp2
    go_loopw [5, 15] (fun m i wr => ∃ k : Nat, k ≤ ls.length ∧ i = .int .i64 k ∧ m = .int .i64 (holesTo M ls k : Nat) ∧ w2 = wr) (fun _ i _ => ls.length - (intOf i).toNat)
    case atStart => exact ⟨0, by omega, rfl, rfl, rfl⟩
    case round =>
      obtain ⟨k, hk, rfl, rfl, rfl⟩ := hrel
      by_cases hlt : k < ls.length
      · obtain ⟨g, off, rfl, hg, hcc⟩ := HCL.out.open (by omega)
        have hx := hcc k _ (ints_at ls k hlt)
        have y0 := (HB2.out.cell (p := ⟨g, off + k, none⟩) hg).trans hx
        have hat := holes_at (m := M) hlt
        have hwf := i64_bounds (HWL.out _ (List.getElem_mem hlt))
        obtain ⟨x, hxx⟩ : ∃ x, x = ls[k] := ⟨_, rfl⟩
        rw [← hxx] at y0 hat hwf
        have hmle := holesTo_le M ls k
        obtain ⟨m, hm⟩ : ∃ m, m = holesTo M ls k := ⟨_, rfl⟩
        rw [← hm] at hat hmle ⊢
        have HAT := Lib.hid hat
        obtain ⟨hw1, hw2⟩ := hwf
        clear hcc hx hxx hm hat
        by_cases h0 : 0 ≤ x
        · have d0 : decide (0 ≤ x) = true := decide_eq_true h0
          obtain ⟨X, rfl⟩ := Int.eq_ofNat_of_zero_le h0
          have hsub := Lib.hid (i64_andNot_nat m X (by omega) (by omega))
          go_wp2
          go_roundw
          case rel =>
            refine ⟨k + 1, by omega, by go_num, ?_, trivial⟩
            rw [HAT.out, takeOff, if_pos h0, Int.toNat_natCast]
            rw [hsub.out]
          case measure => simp [intOf]; omega
        · have d0 : decide (0 ≤ x) = false := decide_eq_false h0
          go_wp2
          go_roundw
          case rel =>
            refine ⟨k + 1, by omega, by go_num, ?_, trivial⟩
            rw [HAT.out, takeOff, if_neg h0]
          case measure => simp [intOf]; omega
      · obtain rfl : k = ls.length := by omega
        go_wp2
        go_ret
        exact ⟨rfl, HB2.out⟩
  · have hv : holesLeft b xs ls = -1 := if_neg hr
    rw [decide_eq_false hr] at hreg
    rw [hv]
    have HREG := Lib.hid hreg
    clear hreg hv hr
    go_enter Tryz.func29, Tryz.ntmps29
    go_wp2_with fail
    refine (HREG.out _ (HC.out.below HB0.out)).mono ?_
    rintro e w1 ⟨rfl, hb1⟩
    go_wp2
    go_ret
    exact ⟨rfl, HB0.out.trans (hb1.mono HB0.out.size)⟩
end Go.Proofs.YtcoggnoeafpgbaaGreat
