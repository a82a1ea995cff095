/- Block: the walks of IsBlocking, the reference's and the program's, and of what they ask. -/
import Derived.Test.YtipikojinfpidaaGreatBlock0
import Derived.Test.YtipikojinfpidaaGreatAllP
import Derived.Test.YtipikojinfpidaaGreatAllFrame
namespace Go.Proofs.YtipikojinfpidaaGreat
open Go.RowKit

attribute [local go_sem ↓] Go.wp_at_zero Go.wp_at_succ

set_option maxRecDepth 100000 in
set_option maxHeartbeats 1600000 in
theorem specBlocks (ad : Option Addr) (c : Nat) (l : List Int) (m : Nat) (w : World) (hn : l.length ≤ 1048576) (hs : ∀ v ∈ l, Small v) (hm : m < 9223372036854775808) (hc : CellsAt w ad (ints l)) :
    Calls Tryz.prog 22 #[.slice ad l.length c, .int .i64 m] w fun e w' => e = .returned (.bool (blocksL l m)) ∧ Below w.heap.size w w' := by
  have HC := Lib.hid hc
  have HS := Lib.hid hs
  clear hc hs
  go_enter Tryz.func22, Tryz.ntmps22
  go_wp2
  go_loopw [5] (fun i wr => ∃ k : Nat, k ≤ l.length ∧ i = .int .i64 k ∧ (∀ v ∈ l.take k, v.toNat &&& m ≠ 0) ∧ Below w.heap.size w wr) (fun i _ => l.length - (intOf i).toNat)
  case atStart => exact ⟨0, by omega, rfl, by simp, Below.refl _ _⟩
  case round =>
    obtain ⟨k, hk, rfl, hall, hb⟩ := hrel
    have HA := Lib.hid hall
    have HB := Lib.hid hb
    clear hall
    by_cases hlt : k < l.length
    · obtain ⟨g, off, rfl, hg, hcc⟩ := HC.out.open (by rw [ints_length]; omega)
      have x0 := (hb.cell (p := ⟨g, off + k, none⟩) hg).trans (hcc k _ (ints_at l k hlt))
      have hsm := HS.out _ (List.getElem_mem hlt)
      have htk := List.take_succ_eq_append_getElem hlt
      have hmem := List.getElem_mem hlt
      have HMEM := Lib.hid hmem
      have HTK := Lib.hid htk
      have i1 : (k : Int) < (l.length : Int) := by omega
      clear hcc htk hmem hb
      generalize l[k] = v at x0 hsm HMEM HTK
      obtain ⟨u, rfl⟩ : ∃ u : Nat, v = (u : Int) := ⟨v.toNat, by have := hsm.1; omega⟩
      have hu : u < 9223372036854775808 := by have := hsm.2; omega
      have hand := i64_and_nat u m hu hm
      obtain ⟨q, hq⟩ : ∃ q, q = u &&& m := ⟨_, rfl⟩
      rw [← hq] at hand
      have HQ := Lib.hid hq
      clear hsm hq hu
      by_cases hz : q = 0
      · have hno : blocksL l m = false := by
          unfold blocksL
          refine decide_eq_false fun h => ?_
          have := h _ HMEM.out
          rw [Int.toNat_natCast, ← HQ.out] at this
          exact this hz
        have HV := Lib.hid hno
        subst hz
        clear hno
        go_wp2
        go_ret
        rw [HV.out]
        exact ⟨rfl, HB.out⟩
      · have hz1 : ((q : Int) == 0) = false := by simp; omega
        have HZ := Lib.hid hz
        clear hz
        go_wp2
        go_roundw
        case rel =>
          refine ⟨k + 1, by omega, by go_num, ?_, HB.out⟩
          rw [HTK.out]
          intro v hv
          rcases List.mem_append.1 hv with hv | hv
          · exact HA.out v hv
          · rw [List.mem_singleton.1 hv, Int.toNat_natCast, ← HQ.out]
            exact HZ.out
        case measure => simp [intOf]; omega
    · obtain rfl : k = l.length := by omega
      rw [List.take_length] at HA
      have HV := Lib.hid (show blocksL l m = true from decide_eq_true HA.out)
      go_wp2
      go_ret
      rw [HV.out]
      exact ⟨rfl, HB.out⟩

set_option maxRecDepth 100000 in
set_option maxHeartbeats 1600000 in
theorem implBlocks (ad : Option Addr) (c : Nat) (l : List Int) (m : Nat) (w : World) (hn : l.length ≤ 1048576) (hs : ∀ v ∈ l, Small v) (hm : m < 9223372036854775808) (hc : CellsAt w ad (ints l)) :
    Calls Tryz.prog 27 #[.slice ad l.length c, .int .i64 m] w fun e w' => e = .returned (.bool (blocksL l m)) ∧ Below w.heap.size w w' := by
  have HC := Lib.hid hc
  have HS := Lib.hid hs
  clear hc hs
  go_enter Tryz.func27, Tryz.ntmps27
  go_wp2
  go_loopw [9] (fun i wr => ∃ k : Nat, k ≤ l.length ∧ i = .int .i64 k ∧ (∀ v ∈ l.take k, v.toNat &&& m ≠ 0) ∧ Below w.heap.size w wr) (fun i _ => l.length - (intOf i).toNat)
  case atStart => exact ⟨0, by omega, rfl, by simp, Below.refl _ _⟩
  case round =>
    obtain ⟨k, hk, rfl, hall, hb⟩ := hrel
    have HA := Lib.hid hall
    have HB := Lib.hid hb
    clear hall
    by_cases hlt : k < l.length
    · obtain ⟨g, off, rfl, hg, hcc⟩ := HC.out.open (by rw [ints_length]; omega)
      have x0 := (hb.cell (p := ⟨g, off + k, none⟩) hg).trans (hcc k _ (ints_at l k hlt))
      have hsm := HS.out _ (List.getElem_mem hlt)
      have htk := List.take_succ_eq_append_getElem hlt
      have hmem := List.getElem_mem hlt
      have HMEM := Lib.hid hmem
      have HTK := Lib.hid htk
      have i1 : (k : Int) < (l.length : Int) := by omega
      clear hcc htk hmem hb
      generalize l[k] = v at x0 hsm HMEM HTK
      obtain ⟨u, rfl⟩ : ∃ u : Nat, v = (u : Int) := ⟨v.toNat, by have := hsm.1; omega⟩
      have hu : u < 9223372036854775808 := by have := hsm.2; omega
      have hand := i64_and_nat u m hu hm
      obtain ⟨q, hq⟩ : ∃ q, q = u &&& m := ⟨_, rfl⟩
      rw [← hq] at hand
      have HQ := Lib.hid hq
      clear hsm hq hu
      by_cases hz : q = 0
      · have hno : blocksL l m = false := by
          unfold blocksL
          refine decide_eq_false fun h => ?_
          have := h _ HMEM.out
          rw [Int.toNat_natCast, ← HQ.out] at this
          exact this hz
        have HV := Lib.hid hno
        subst hz
        clear hno
        go_wp2
        go_ret
        rw [HV.out]
        exact ⟨rfl, HB.out⟩
      · have hz1 : ((q : Int) == 0) = false := by simp; omega
        have HZ := Lib.hid hz
        clear hz
        go_wp2
        go_roundw
        case rel =>
          refine ⟨k + 1, by omega, by go_num, ?_, HB.out⟩
          rw [HTK.out]
          intro v hv
          rcases List.mem_append.1 hv with hv | hv
          · exact HA.out v hv
          · rw [List.mem_singleton.1 hv, Int.toNat_natCast, ← HQ.out]
            exact HZ.out
        case measure => simp [intOf]; omega
    · obtain rfl : k = l.length := by omega
      rw [List.take_length] at HA
      have HV := Lib.hid (show blocksL l m = true from decide_eq_true HA.out)
      go_wp2
      go_ret
      rw [HV.out]
      exact ⟨rfl, HB.out⟩

set_option maxRecDepth 100000 in
set_option maxHeartbeats 1600000 in
theorem implProb (b : Int) (ad : Option Addr) (c : Nat) (xs : List Int) (sa : Option Addr) (cs : Nat) (ps : List (List Cl)) (w : World) (hn : xs.length ≤ 1048576) (hnp : ps.length ≤ 1048576) (hl : ∀ p ∈ ps, p.length ≤ 1048576) (hc : CellsAt w ad (ints xs)) (hcp : ShpsAt w sa ps) :
    Calls Tryz.prog 25 #[.agg #[.int .i64 b, .slice ad xs.length c], .slice sa ps.length cs] w fun e w' => e = .returned (.bool (decide (Reg b xs) && decide (Pcs ps))) ∧ Below w.heap.size w w' := by
  have HREG := Lib.hid (fun w' h => implReg b ad c xs w' hn h)
  have HPC := Lib.hid (fun w' h => implPieces sa cs ps w' hnp hl h)
  have HC := Lib.hid hc
  have HCP := Lib.hid hcp
  clear hc hcp hl
  generalize decide (Pcs ps) = bp at HPC ⊢
  generalize decide (Reg b xs) = br at HREG ⊢
  obtain ⟨wA, hwA⟩ : ∃ wA, wA = w.alloc (.cells #[.int .i64 b, .slice ad xs.length c] 29) := ⟨_, rfl⟩
  have hbA : Below w.heap.size w wA := by rw [hwA]; exact (Below.refl _ _).alloc (Nat.le_refl _) _
  have hzA : wA.heap.size = w.heap.size + 1 := by rw [hwA]; simp
  have hblkA : wA.heap[w.heap.size]? = some (.cells #[.int .i64 b, .slice ad xs.length c] 29 (0, 0)) := by rw [hwA]; exact heap_alloc_new w _
  have HBA := Lib.hid hbA
  have HBLKA := Lib.hid hblkA
  have HWA := Lib.hid hwA
  have hszA := hbA.size
  clear hbA hblkA hwA
  go_enter Tryz.func25, Tryz.ntmps25
  go_wp2_with fail
  rw [← HWA.out]
  refine (HREG.out wA (HC.out.below HBA.out)).mono ?_
  rintro e w1 ⟨rfl, hb1⟩
  have HB1 := Lib.hid (HBA.out.trans (hb1.mono hszA))
  have hsz1 := HB1.out.size
  clear hb1
  cases br with
  | true =>
    go_wp2_with fail
    refine (HPC.out w1 (HCP.out.below HB1.out)).mono ?_
    rintro e w2 ⟨rfl, hb2⟩
    have HB2 := Lib.hid (HB1.out.trans (hb2.mono hsz1))
    clear hb2
    go_wp2
    go_ret
    exact ⟨by rw [Bool.true_and]; rfl, HB2.out⟩
  | false =>
    go_wp2
    go_ret
    exact ⟨rfl, HB1.out⟩

theorem isMk_nat (b : Int) (xs : List Int) (m : Nat) : isMk b xs (m : Int) = (m - (m &&& regMask b xs) == 0) := by
  unfold isMk
  rw [decide_eq_true (by omega : (0 : Int) ≤ (m : Int)), Int.toNat_natCast, Bool.true_and, Bool.eq_iff_iff]
  have h := Nat.and_le_left (n := m) (m := regMask b xs)
  simp only [decide_eq_true_eq, beq_iff_eq]
  omega

set_option maxRecDepth 100000 in
set_option maxHeartbeats 1600000 in
theorem implIsMk (B : Nat) (ad : Option Addr) (c : Nat) (xs : List Int) (v : Int) (w : World) (hr : Reg (B : Int) xs) (hwf : (Lit.int .i64 v).wf = true) (hc : CellsAt w ad (ints xs)) :
    Calls Tryz.prog 26 #[.agg #[.int .i64 B, .slice ad xs.length c], .int .i64 v] w fun e w' => e = .returned (.bool (isMk B xs v)) ∧ Below w.heap.size w w' := by
  have hM := regMask_lt hr
  have HMK := Lib.hid (fun w' h => implMask B ad c xs w' hr h)
  have HC := Lib.hid hc
  obtain ⟨wb1, wb2⟩ := i64_bounds hwf
  have hnat := isMk_nat (B : Int) xs
  have hM2 : regMask (B : Int) xs < 9223372036854775808 := Nat.lt_trans hM (by decide)
  have hneg : v < 0 → isMk (B : Int) xs v = false := fun h => by unfold isMk; rw [decide_eq_false (by omega)]; rfl
  clear hc hr hwf hM
  generalize regMask (B : Int) xs = M at HMK hM2 hnat
  obtain ⟨b, hb⟩ : ∃ b : Int, b = (B : Int) := ⟨_, rfl⟩
  rw [← hb] at HMK hnat hneg ⊢
  clear hb
  obtain ⟨wA, hwA⟩ : ∃ wA, wA = w.alloc (.cells #[.int .i64 b, .slice ad xs.length c] 29) := ⟨_, rfl⟩
  have hbA : Below w.heap.size w wA := by rw [hwA]; exact (Below.refl _ _).alloc (Nat.le_refl _) _
  have hzA : wA.heap.size = w.heap.size + 1 := by rw [hwA]; simp
  have hblkA : wA.heap[w.heap.size]? = some (.cells #[.int .i64 b, .slice ad xs.length c] 29 (0, 0)) := by rw [hwA]; exact heap_alloc_new w _
  have HBA := Lib.hid hbA
  have HBLKA := Lib.hid hblkA
  have HWA := Lib.hid hwA
  have hszA := hbA.size
  clear hbA hblkA hwA
  by_cases h0 : 0 ≤ v
  · obtain ⟨m, rfl⟩ := Int.eq_ofNat_of_zero_le h0
    have hand := i64_andNot_nat m M (by omega) hM2
    have HV := Lib.hid (hnat m)
    have d0 : decide ((0 : Int) ≤ (m : Int)) = true := decide_eq_true h0
    obtain ⟨q, hq⟩ : ∃ q, q = m - (m &&& M) := ⟨_, rfl⟩
    rw [← hq] at hand HV
    have hbq : ((q : Int) == 0) = (q == 0) := by rw [Bool.eq_iff_iff]; simp
    have HBQ := Lib.hid hbq
    clear hnat hneg hq hbq
    go_enter Tryz.func26, Tryz.ntmps26
    go_wp2_with fail
    rw [← HWA.out]
    refine (HMK.out wA (HC.out.below HBA.out)).mono ?_
    rintro e w1 ⟨rfl, hb1⟩
    have HB1 := Lib.hid (HBA.out.trans (hb1.mono hszA))
    clear hb1
    by_cases hz : q = 0
    · subst hz
      go_wp2
      go_ret
      rw [HV.out]
      exact ⟨rfl, HB1.out⟩
    · have hz1 : ((q : Int) == 0) = false := by simp; omega
      have hz2 : (q == 0) = false := by simp; omega
      have HZ2 := Lib.hid hz2
      clear hz hz2
      go_wp2
      go_ret
      rw [HV.out, HZ2.out]
      exact ⟨rfl, HB1.out⟩
  · have HV := Lib.hid (hneg (by omega))
    have d0 : decide (0 ≤ v) = false := decide_eq_false h0
    clear hnat hneg
    go_enter Tryz.func26, Tryz.ntmps26
    go_wp2
    rw [← HWA.out]
    go_ret
    rw [HV.out]
    exact ⟨rfl, HBA.out⟩

set_option maxRecDepth 100000 in
set_option maxHeartbeats 3200000 in
theorem implBlk (b : Int) (ad : Option Addr) (c : Nat) (xs : List Int) (sa : Option Addr) (cs : Nat) (ps : List (List Cl)) (v : Int) (w : World) (hn : xs.length ≤ 1048576) (hnp : ps.length ≤ 1048576) (hl : ∀ p ∈ ps, p.length ≤ 1048576) (hwf : (Lit.int .i64 v).wf = true) (hc : CellsAt w ad (ints xs)) (hcp : ShpsAt w sa ps) :
    Calls Tryz.prog 10 #[.agg #[.int .i64 b, .slice ad xs.length c], .slice sa ps.length cs, .int .i64 v] w fun e w' => e = .returned (.bool (blkR b xs ps v)) ∧ Below w.heap.size w w' := by
  have hdef : blkR b xs ps v = (decide (Reg b xs) && (decide (Pcs ps) && (isMk b xs v && blocksL (allL b.toNat xs ps) v.toNat))) := rfl
  obtain ⟨wb1, wb2⟩ := i64_bounds hwf
  have HPR := Lib.hid (fun w' h1 h2 => implProb b ad c xs sa cs ps w' hn hnp hl h1 h2)
  have HC := Lib.hid hc
  have HCP := Lib.hid hcp
  clear hc hcp
  obtain ⟨wA, hwA⟩ : ∃ wA, wA = w.alloc (.cells #[.int .i64 b, .slice ad xs.length c] 29) := ⟨_, rfl⟩
  have hbA : Below w.heap.size w wA := by rw [hwA]; exact (Below.refl _ _).alloc (Nat.le_refl _) _
  have hzA : wA.heap.size = w.heap.size + 1 := by rw [hwA]; simp
  have hblkA : wA.heap[w.heap.size]? = some (.cells #[.int .i64 b, .slice ad xs.length c] 29 (0, 0)) := by rw [hwA]; exact heap_alloc_new w _
  have HBA := Lib.hid hbA
  have HBLKA := Lib.hid hblkA
  have HWA := Lib.hid hwA
  have hszA := hbA.size
  clear hbA hblkA hwA
  by_cases hok : Reg b xs ∧ Pcs ps
  · obtain ⟨hr, hp⟩ := hok
    have hbn : b = (b.toNat : Int) := by have := hr.1.1; omega
    obtain ⟨B, hB⟩ : ∃ B, B = b.toNat := ⟨_, rfl⟩
    rw [← hB] at hbn hdef
    rw [decide_eq_true hr, decide_eq_true hp] at hdef HPR
    simp only [Bool.true_and] at hdef HPR
    have hrB : Reg (B : Int) xs := by rw [← hbn]; exact hr
    have hmk0 := fun w' h => implIsMk B ad c xs v w' hrB hwf h
    have hal0 := fun w' h1 h2 => implAll B ad c xs sa cs ps w' hrB hp h1 h2
    rw [← hbn] at hmk0 hal0
    have HMK := Lib.hid hmk0
    have HAL := Lib.hid hal0
    have hlen := allL_length hrB hp
    have HSM := Lib.hid (allL_small hrB ps)
    have hmn : isMk b xs v = true → 0 ≤ v := fun h => by unfold isMk at h; simp at h; exact h.1
    have HD := Lib.hid hdef
    clear hdef hmk0 hal0 hrB hr hp hbn hB hwf hl
    generalize allL B xs ps = A at HAL hlen HSM HD
    generalize isMk b xs v = mk at HMK hmn HD
    go_enter Tryz.func10, Tryz.ntmps10
    go_wp2_with fail
    rw [← HWA.out]
    refine (HPR.out wA (HC.out.below HBA.out) (HCP.out.below HBA.out)).mono ?_
    rintro e w1 ⟨rfl, hb1⟩
    have HB1 := Lib.hid (HBA.out.trans (hb1.mono hszA))
    have HBX1 := Lib.hid hb1
    have hsz1 := HB1.out.size
    have hs1A := hb1.size
    have hblk1 := (HBX1.out.block w.heap.size (by omega)).trans HBLKA.out
    have x10 : w1.cell? ⟨w.heap.size, 0, none⟩ = some (.int .i64 b) := by rw [cell_of_row w1 _ 0 _ _ _ hblk1]; rfl
    have x11 : w1.cell? ⟨w.heap.size, 1, none⟩ = some (.slice ad xs.length c) := by rw [cell_of_row w1 _ 1 _ _ _ hblk1]; rfl
    clear hblk1
    clear hb1
    go_wp2_with fail
    refine (HMK.out w1 (HC.out.below HB1.out)).mono ?_
    rintro e w2 ⟨rfl, hb2⟩
    have HB2 := Lib.hid (HB1.out.trans (hb2.mono hsz1))
    have hsz2 := HB2.out.size
    have y0 := (hb2.cell (p := ⟨w.heap.size, 0, none⟩) (by simp; omega)).trans x10
    have y1 := (hb2.cell (p := ⟨w.heap.size, 1, none⟩) (by simp; omega)).trans x11
    clear hb2 x10 x11
    cases mk with
    | true =>
      obtain ⟨m, hm⟩ : ∃ m : Nat, v = (m : Int) := ⟨v.toNat, by have := hmn rfl; omega⟩
      subst hm
      go_wp2_with fail
      refine (HAL.out w2 (HC.out.below HB2.out) (HCP.out.below HB2.out)).mono ?_
      rintro e w3 ⟨a3, c3, rfl, ho3, hb3⟩
      have HB3 := Lib.hid (HB2.out.trans (hb3.mono hsz2))
      have hsz3 := HB3.out.size
      have HBL := Lib.hid (implBlocks a3 c3 A m w3 (by omega) HSM.out (by omega) (ownsRow_cellsAt ho3))
      clear hb3 ho3
      go_wp2_with fail
      refine HBL.out.mono ?_
      rintro e w4 ⟨rfl, hb4⟩
      have HB4 := Lib.hid (HB3.out.trans (hb4.mono hsz3))
      clear hb4
      go_wp2
      go_ret
      rw [HD.out]
      exact ⟨rfl, HB4.out⟩
    | false =>
      clear hmn
      go_wp2
      go_ret
      rw [HD.out]
      exact ⟨rfl, HB2.out⟩
  · have hf : blkR b xs ps v = false := by
      rw [hdef]
      by_cases h1 : Reg b xs
      · have h2 : ¬ Pcs ps := fun q => hok ⟨h1, q⟩
        rw [decide_eq_false h2]
        simp
      · rw [decide_eq_false h1]
        rfl
    have hf2 : (decide (Reg b xs) && decide (Pcs ps)) = false := by
      by_cases h1 : Reg b xs
      · have h2 : ¬ Pcs ps := fun q => hok ⟨h1, q⟩
        rw [decide_eq_false h2]
        simp
      · rw [decide_eq_false h1]
        rfl
    rw [hf2] at HPR
    have HD := Lib.hid hf
    clear hdef hf hf2 hok hl hwf
    go_enter Tryz.func10, Tryz.ntmps10
    go_wp2_with fail
    rw [← HWA.out]
    refine (HPR.out wA (HC.out.below HBA.out) (HCP.out.below HBA.out)).mono ?_
    rintro e w1 ⟨rfl, hb1⟩
    have HB1 := Lib.hid (HBA.out.trans (hb1.mono hszA))
    have HBX1 := Lib.hid hb1
    have hsz1 := HB1.out.size
    have hs1A := hb1.size
    have hblk1 := (HBX1.out.block w.heap.size (by omega)).trans HBLKA.out
    have x10 : w1.cell? ⟨w.heap.size, 0, none⟩ = some (.int .i64 b) := by rw [cell_of_row w1 _ 0 _ _ _ hblk1]; rfl
    have x11 : w1.cell? ⟨w.heap.size, 1, none⟩ = some (.slice ad xs.length c) := by rw [cell_of_row w1 _ 1 _ _ _ hblk1]; rfl
    clear hblk1
    clear hb1
    go_wp2
    go_ret
    rw [HD.out]
    exact ⟨rfl, HB1.out⟩

set_option maxRecDepth 100000 in
set_option maxHeartbeats 3200000 in
theorem specBlk (b : Int) (ad : Option Addr) (c : Nat) (xs : List Int) (sa : Option Addr) (cs : Nat) (ps : List (List Cl)) (v : Int) (w : World) (hn : xs.length ≤ 1048576) (hnp : ps.length ≤ 1048576) (hl : ∀ p ∈ ps, p.length ≤ 1048576) (hwf : (Lit.int .i64 v).wf = true) (hc : CellsAt w ad (ints xs)) (hcp : ShpsAt w sa ps) :
    Calls Tryz.prog 7 #[.agg #[.int .i64 b, .slice ad xs.length c], .slice sa ps.length cs, .int .i64 v] w fun e w' => e = .returned (.bool (blkR b xs ps v)) ∧ Below w.heap.size w w' := by
  have hdef : blkR b xs ps v = (decide (Reg b xs) && (decide (Pcs ps) && (isMk b xs v && blocksL (allL b.toNat xs ps) v.toNat))) := rfl
  obtain ⟨wb1, wb2⟩ := i64_bounds hwf
  have HREG := Lib.hid (fun w' h => specReg b ad c xs w' hn h)
  have HPC := Lib.hid (fun w' h => specPieces sa cs ps w' hnp hl h)
  have HC := Lib.hid hc
  have HCP := Lib.hid hcp
  clear hc hcp hl
  obtain ⟨wA, hwA⟩ : ∃ wA, wA = w.alloc (.cells #[.int .i64 b, .slice ad xs.length c] 29) := ⟨_, rfl⟩
  have hbA : Below w.heap.size w wA := by rw [hwA]; exact (Below.refl _ _).alloc (Nat.le_refl _) _
  have hzA : wA.heap.size = w.heap.size + 1 := by rw [hwA]; simp
  have hblkA : wA.heap[w.heap.size]? = some (.cells #[.int .i64 b, .slice ad xs.length c] 29 (0, 0)) := by rw [hwA]; exact heap_alloc_new w _
  have HBA := Lib.hid hbA
  have HBLKA := Lib.hid hblkA
  have HWA := Lib.hid hwA
  have hszA := hbA.size
  clear hbA hblkA hwA
  by_cases hr : Reg b xs
  · by_cases hp : Pcs ps
    · have hbn : b = (b.toNat : Int) := by have := hr.1.1; omega
      obtain ⟨B, hB⟩ : ∃ B, B = b.toNat := ⟨_, rfl⟩
      rw [← hB] at hbn hdef
      rw [decide_eq_true hr] at hdef HREG
      rw [decide_eq_true hp] at hdef HPC
      simp only [Bool.true_and] at hdef
      have hrB : Reg (B : Int) xs := by rw [← hbn]; exact hr
      have hmk0 := fun w' h => specMask B ad c xs w' hrB h
      have hal0 := fun w' h1 h2 => specAll B ad c xs sa cs ps w' hrB hp h1 h2
      have hM := regMask_lt hrB
      have hM2 : regMask (B : Int) xs < 9223372036854775808 := Nat.lt_trans hM (by decide)
      rw [← hbn] at hmk0 hal0 hM2
      have HMK := Lib.hid hmk0
      have HAL := Lib.hid hal0
      have hlen := allL_length hrB hp
      have HSM := Lib.hid (allL_small hrB ps)
      by_cases h0 : 0 ≤ v
      · obtain ⟨m, rfl⟩ := Int.eq_ofNat_of_zero_le h0
        have hmk : isMk b xs (m : Int) = decide (m &&& regMask b xs = m) := by
          unfold isMk
          rw [decide_eq_true h0, Int.toNat_natCast, Bool.true_and]
        rw [hmk, Int.toNat_natCast] at hdef
        have hand := i64_and_nat m (regMask b xs) (by omega) hM2
        have n0 : decide ((m : Int) < 0) = false := decide_eq_false (by omega)
        clear hmk hmk0 hal0 hrB hr hp hbn hB hwf hM hM2
        generalize allL B xs ps = A at HAL hlen HSM hdef
        generalize regMask b xs = M at HMK hand hdef
        obtain ⟨q, hq⟩ : ∃ q, q = m &&& M := ⟨_, rfl⟩
        rw [← hq] at hand hdef
        clear hq
        by_cases hqm : q = m
        · subst hqm
          rw [decide_eq_true rfl, Bool.true_and] at hdef
          have HD := Lib.hid hdef
          have ne0 : ((q : Int) != (q : Int)) = false := by simp
          clear hdef
          go_enter Tryz.func7, Tryz.ntmps7
          go_wp2_with fail
          rw [← HWA.out]
          refine (HREG.out wA (HC.out.below HBA.out)).mono ?_
          rintro e w1 ⟨rfl, hb1⟩
          have HB1 := Lib.hid (HBA.out.trans (hb1.mono hszA))
          have HBX1 := Lib.hid hb1
          have hsz1 := HB1.out.size
          have hs1A := hb1.size
          have hblk1 := (HBX1.out.block w.heap.size (by omega)).trans HBLKA.out
          have x10 : w1.cell? ⟨w.heap.size, 0, none⟩ = some (.int .i64 b) := by rw [cell_of_row w1 _ 0 _ _ _ hblk1]; rfl
          have x11 : w1.cell? ⟨w.heap.size, 1, none⟩ = some (.slice ad xs.length c) := by rw [cell_of_row w1 _ 1 _ _ _ hblk1]; rfl
          clear hblk1
          clear hb1
          go_wp2_with fail
          refine (HPC.out w1 (HCP.out.below HB1.out)).mono ?_
          rintro e w2 ⟨rfl, hb2⟩
          have HB2 := Lib.hid (HB1.out.trans (hb2.mono hsz1))
          have hsz2 := HB2.out.size
          have hs21 := hb2.size
          have y0 := (hb2.cell (p := ⟨w.heap.size, 0, none⟩) (by simp; omega)).trans x10
          have y1 := (hb2.cell (p := ⟨w.heap.size, 1, none⟩) (by simp; omega)).trans x11
          clear hb2 x10 x11
          go_wp2_with fail
          refine (HMK.out w2 (HC.out.below HB2.out)).mono ?_
          rintro e w3 ⟨rfl, hb3⟩
          have HB3 := Lib.hid (HB2.out.trans (hb3.mono hsz2))
          have hsz3 := HB3.out.size
          have z0 := (hb3.cell (p := ⟨w.heap.size, 0, none⟩) (by simp; omega)).trans y0
          have z1 := (hb3.cell (p := ⟨w.heap.size, 1, none⟩) (by simp; omega)).trans y1
          clear hb3 y0 y1
          go_wp2_with fail
          refine (HAL.out w3 (HC.out.below HB3.out) (HCP.out.below HB3.out)).mono ?_
          rintro e w4 ⟨a4, c4, rfl, ho4, hb4⟩
          have HB4 := Lib.hid (HB3.out.trans (hb4.mono hsz3))
          have hsz4 := HB4.out.size
          have HBL := Lib.hid (specBlocks a4 c4 A q w4 (by omega) HSM.out (by omega) (ownsRow_cellsAt ho4))
          clear hb4 ho4
          go_wp2_with fail
          refine HBL.out.mono ?_
          rintro e w5 ⟨rfl, hb5⟩
          have HB5 := Lib.hid (HB4.out.trans (hb5.mono hsz4))
          clear hb5
          go_wp2
          go_ret
          rw [HD.out]
          exact ⟨rfl, HB5.out⟩
        · rw [decide_eq_false hqm, Bool.false_and] at hdef
          have HD := Lib.hid hdef
          have ne0 : ((q : Int) != (m : Int)) = true := by simp; omega
          clear hdef
          go_enter Tryz.func7, Tryz.ntmps7
          go_wp2_with fail
          rw [← HWA.out]
          refine (HREG.out wA (HC.out.below HBA.out)).mono ?_
          rintro e w1 ⟨rfl, hb1⟩
          have HB1 := Lib.hid (HBA.out.trans (hb1.mono hszA))
          have HBX1 := Lib.hid hb1
          have hsz1 := HB1.out.size
          have hs1A := hb1.size
          have hblk1 := (HBX1.out.block w.heap.size (by omega)).trans HBLKA.out
          have x10 : w1.cell? ⟨w.heap.size, 0, none⟩ = some (.int .i64 b) := by rw [cell_of_row w1 _ 0 _ _ _ hblk1]; rfl
          have x11 : w1.cell? ⟨w.heap.size, 1, none⟩ = some (.slice ad xs.length c) := by rw [cell_of_row w1 _ 1 _ _ _ hblk1]; rfl
          clear hblk1
          clear hb1
          go_wp2_with fail
          refine (HPC.out w1 (HCP.out.below HB1.out)).mono ?_
          rintro e w2 ⟨rfl, hb2⟩
          have HB2 := Lib.hid (HB1.out.trans (hb2.mono hsz1))
          have hsz2 := HB2.out.size
          have hs21 := hb2.size
          have y0 := (hb2.cell (p := ⟨w.heap.size, 0, none⟩) (by simp; omega)).trans x10
          have y1 := (hb2.cell (p := ⟨w.heap.size, 1, none⟩) (by simp; omega)).trans x11
          clear hb2 x10 x11
          go_wp2_with fail
          refine (HMK.out w2 (HC.out.below HB2.out)).mono ?_
          rintro e w3 ⟨rfl, hb3⟩
          have HB3 := Lib.hid (HB2.out.trans (hb3.mono hsz2))
          clear hb3 y0 y1
          go_wp2
          go_ret
          rw [HD.out]
          exact ⟨rfl, HB3.out⟩
      · have hmk : isMk b xs v = false := by unfold isMk; rw [decide_eq_false h0]; rfl
        rw [hmk, Bool.false_and] at hdef
        have HD := Lib.hid hdef
        have n0 : decide (v < 0) = true := decide_eq_true (by omega)
        clear hdef hmk hmk0 hal0 hrB hr hp hbn hB hwf hM hM2
        go_enter Tryz.func7, Tryz.ntmps7
        go_wp2_with fail
        rw [← HWA.out]
        refine (HREG.out wA (HC.out.below HBA.out)).mono ?_
        rintro e w1 ⟨rfl, hb1⟩
        have HB1 := Lib.hid (HBA.out.trans (hb1.mono hszA))
        have HBX1 := Lib.hid hb1
        have hsz1 := HB1.out.size
        have hs1A := hb1.size
        have hblk1 := (HBX1.out.block w.heap.size (by omega)).trans HBLKA.out
        have x10 : w1.cell? ⟨w.heap.size, 0, none⟩ = some (.int .i64 b) := by rw [cell_of_row w1 _ 0 _ _ _ hblk1]; rfl
        have x11 : w1.cell? ⟨w.heap.size, 1, none⟩ = some (.slice ad xs.length c) := by rw [cell_of_row w1 _ 1 _ _ _ hblk1]; rfl
        clear hblk1
        clear hb1
        go_wp2_with fail
        refine (HPC.out w1 (HCP.out.below HB1.out)).mono ?_
        rintro e w2 ⟨rfl, hb2⟩
        have HB2 := Lib.hid (HB1.out.trans (hb2.mono hsz1))
        have hsz2 := HB2.out.size
        have hs21 := hb2.size
        have y0 := (hb2.cell (p := ⟨w.heap.size, 0, none⟩) (by simp; omega)).trans x10
        have y1 := (hb2.cell (p := ⟨w.heap.size, 1, none⟩) (by simp; omega)).trans x11
        clear hb2 x10 x11
        go_wp2
        go_ret
        rw [HD.out]
        exact ⟨rfl, HB2.out⟩
    · rw [decide_eq_false hp, decide_eq_true hr] at hdef
      simp only [Bool.true_and, Bool.false_and] at hdef
      rw [decide_eq_true hr] at HREG
      rw [decide_eq_false hp] at HPC
      have HD := Lib.hid hdef
      clear hdef hr hp hwf
      go_enter Tryz.func7, Tryz.ntmps7
      go_wp2_with fail
      rw [← HWA.out]
      refine (HREG.out wA (HC.out.below HBA.out)).mono ?_
      rintro e w1 ⟨rfl, hb1⟩
      have HB1 := Lib.hid (HBA.out.trans (hb1.mono hszA))
      have HBX1 := Lib.hid hb1
      have hsz1 := HB1.out.size
      have hs1A := hb1.size
      have hblk1 := (HBX1.out.block w.heap.size (by omega)).trans HBLKA.out
      have x10 : w1.cell? ⟨w.heap.size, 0, none⟩ = some (.int .i64 b) := by rw [cell_of_row w1 _ 0 _ _ _ hblk1]; rfl
      have x11 : w1.cell? ⟨w.heap.size, 1, none⟩ = some (.slice ad xs.length c) := by rw [cell_of_row w1 _ 1 _ _ _ hblk1]; rfl
      clear hblk1
      clear hb1
      go_wp2_with fail
      refine (HPC.out w1 (HCP.out.below HB1.out)).mono ?_
      rintro e w2 ⟨rfl, hb2⟩
      have HB2 := Lib.hid (HB1.out.trans (hb2.mono hsz1))
      have hsz2 := HB2.out.size
      have hs21 := hb2.size
      have y0 := (hb2.cell (p := ⟨w.heap.size, 0, none⟩) (by simp; omega)).trans x10
      have y1 := (hb2.cell (p := ⟨w.heap.size, 1, none⟩) (by simp; omega)).trans x11
      clear hb2 x10 x11
      go_wp2
      go_ret
      rw [HD.out]
      exact ⟨rfl, HB2.out⟩
  · rw [decide_eq_false hr, Bool.false_and] at hdef
    rw [decide_eq_false hr] at HREG
    have HD := Lib.hid hdef
    clear hdef hr hwf
    go_enter Tryz.func7, Tryz.ntmps7
    go_wp2_with fail
    rw [← HWA.out]
    refine (HREG.out wA (HC.out.below HBA.out)).mono ?_
    rintro e w1 ⟨rfl, hb1⟩
    have HB1 := Lib.hid (HBA.out.trans (hb1.mono hszA))
    have HBX1 := Lib.hid hb1
    have hsz1 := HB1.out.size
    have hs1A := hb1.size
    have hblk1 := (HBX1.out.block w.heap.size (by omega)).trans HBLKA.out
    have x10 : w1.cell? ⟨w.heap.size, 0, none⟩ = some (.int .i64 b) := by rw [cell_of_row w1 _ 0 _ _ _ hblk1]; rfl
    have x11 : w1.cell? ⟨w.heap.size, 1, none⟩ = some (.slice ad xs.length c) := by rw [cell_of_row w1 _ 1 _ _ _ hblk1]; rfl
    clear hblk1
    clear hb1
    go_wp2
    go_ret
    rw [HD.out]
    exact ⟨rfl, HB1.out⟩
end Go.Proofs.YtipikojinfpidaaGreat
