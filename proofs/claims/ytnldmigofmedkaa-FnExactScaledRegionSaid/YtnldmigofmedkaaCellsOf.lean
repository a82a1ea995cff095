/- CellsOf: the walk of the reference's CellsOfMask. -/
import Derived.Test.YtnldmigofmedkaaRegMask
import Derived.Test.YtnldmigofmedkaaPlaces
import Derived.Test.YtnldmigofmedkaaCross0
import Derived.Test.YtnldmigofmedkaaFrameInts
import Derived.Deep.RegionHeld3
namespace Go.Proofs.Ytnldmigofmedkaa
open Go.RowKit

theorem cls_places (a : Nat) (l : List Nat) : cls (placesOf a l) = placeCells a l := by
  unfold cls placesOf placeCells
  rw [List.flatMap_map]
  rfl

set_option maxRecDepth 100000 in
set_option maxHeartbeats 1600000 in
theorem specCells (B : Nat) (ad : Option Addr) (c : Nat) (xs : List Int) (v : Int) (w : World) (hr : Reg (B : Int) xs) (hwf : (Lit.int .i64 v).wf = true) (hc : CellsAt w ad (ints xs)) :
    Calls Try.prog 73 #[.agg #[.int .i64 B, .slice ad xs.length c], .int .i64 v] w fun e w' => ∃ ad' c', e = .returned (.slice ad' (maskC B xs v).length c') ∧ w'.ownsRow w.heap.size 79 2 (.slice ad' (maskC B xs v).length c') (maskC B xs v).length (cls (maskC B xs v)) ∧ Below w.heap.size w w' := by
  have hl6 : xs.length ≤ 6 := hr.2.1.2
  have hl1 : 1 ≤ xs.length := hr.2.1.1
  have hb6 : B ≤ 6 := by have := hr.1.2; omega
  have hb1 : 1 ≤ B := by have := hr.1.1; omega
  have hreg := fun w (h : CellsAt w ad (ints xs)) => specReg (B : Int) ad c xs w (by omega) h
  rw [decide_eq_true hr] at hreg
  have hmask := fun w (h : CellsAt w ad (ints xs)) => specMask B ad c xs w hr h
  have hM := regMask_lt hr
  have hmn := fun h => isMask_nat (v := v) hr h
  have hmc : maskC B xs v = if isMaskB B xs v = true then placesOf B (smBits (B * xs.length) v.toNat) else [] := by unfold maskC; rw [Int.toNat_natCast]
  have hdef : isMaskB B xs v = (decide (0 ≤ v) && decide (v.toNat &&& regMask B xs = v.toNat)) := rfl
  obtain ⟨M, hMM⟩ : ∃ M, M = regMask (B : Int) xs := ⟨_, rfl⟩
  rw [← hMM] at hmask hM hmn hdef
  have HREG := Lib.hid hreg
  have HMASK := Lib.hid hmask
  have HC := Lib.hid hc
  have HMN := Lib.hid hmn
  have HMC := Lib.hid hmc
  have hl := ints_length xs
  have hwb := i64_bounds hwf
  obtain ⟨wb1, wb2⟩ := hwb
  clear hr hreg hmask hc hMM hmc hmn hwf
  obtain ⟨n, hn⟩ : ∃ n, n = B * xs.length := ⟨_, rfl⟩
  have hn36 : n ≤ 6 * 6 := by rw [hn]; exact Nat.mul_le_mul hb6 hl6
  have epr : (B : Int) * (xs.length : Int) = (n : Int) := by rw [hn]; norm_cast
  have HN := Lib.hid hn
  clear hn
  have HEPR := Lib.hid epr
  clear epr
  obtain ⟨wA, hwA⟩ : ∃ wA, wA = w.alloc (.cells #[.int .i64 B, .slice ad xs.length c] 44) := ⟨_, rfl⟩
  have hbA : Below w.heap.size w wA := by rw [hwA]; exact (Below.refl _ _).alloc (Nat.le_refl _) _
  have hzA : wA.heap.size = w.heap.size + 1 := by rw [hwA]; simp
  have hblkA : wA.heap[w.heap.size]? = some (.cells #[.int .i64 B, .slice ad xs.length c] 44 (0, 0)) := by rw [hwA]; exact heap_alloc_new w _
  have HBA := Lib.hid hbA
  have HZA := Lib.hid hzA
  have HBLKA := Lib.hid hblkA
  have HWA := Lib.hid hwA
  clear hbA hzA hblkA hwA
  by_cases h0 : 0 ≤ v
  · have d0 : decide (v < 0) = false := by simp; omega
    obtain ⟨m, rfl⟩ := Int.eq_ofNat_of_zero_le h0
    have hand := i64_and_nat m M (by omega) (by omega)
    by_cases hm : m &&& M = m
    · have hyes : isMaskB B xs (m : Int) = true := by rw [hdef]; simp [hm]
      have d1 : (((m &&& M : Nat) : Int) != (m : Int)) = false := by simp [hm]
      have hmc : maskC B xs (m : Int) = placesOf B (smBits n m) := by rw [HMC.out, if_pos hyes, HN.out]; rfl
      obtain ⟨m', hm', hmM, hmlt⟩ := HMN.out hyes
      obtain rfl : m = m' := by omega
      have hmlt' : m < 2 ^ n := by rw [HN.out]; simpa using hmlt
      have HMC2 := Lib.hid hmc
      have HMLT := Lib.hid hmlt'
      clear hm hyes hmc hdef hmlt hmlt' h0 hm'
      go_enter Try.func73, Try.ntmps73
      go_wp2_with fail
      rw [← HWA.out]
      obtain ⟨wB, hwB⟩ : ∃ wB, wB = wA.alloc (.cells #[] 79) := ⟨_, rfl⟩
      have hbB : Below wA.heap.size wA wB := by rw [hwB]; exact (Below.refl _ _).alloc (Nat.le_refl _) _
      have hoB : wB.ownsRow (w.heap.size + 1) 79 2 (.slice (some ⟨w.heap.size + 1, 0, none⟩) 0 0) 0 [] := by rw [hwB, ← HZA.out]; exact ownsRow_empty _ _ _
      rw [← hwB]
      have HBB := Lib.hid hbB
      have HOB := Lib.hid hoB
      clear hwB hbB hoB
      refine (HREG.out _ (HC.out.below (HBA.out.trans (HBB.out.mono HBA.out.size)))).mono ?_
      rintro e w1 ⟨rfl, hb1⟩
      have hb1A : Below wA.heap.size wA w1 := HBB.out.trans (hb1.mono HBB.out.size)
      have ho1 := ownsRow_far_below HOB.out hb1 (Nat.le_refl _)
      have hblk1 := (hb1A.block w.heap.size (by have := HZA.out; omega)).trans HBLKA.out
      have x0 : w1.cell? ⟨w.heap.size, 0, none⟩ = some (.int .i64 B) := by rw [cell_of_row w1 _ 0 _ _ _ hblk1]; rfl
      have x1 : w1.cell? ⟨w.heap.size, 1, none⟩ = some (.slice ad xs.length c) := by rw [cell_of_row w1 _ 1 _ _ _ hblk1]; rfl
      have HB1 := Lib.hid hb1A
      have HO1 := Lib.hid ho1
      have hsz1 := hb1.size
      clear hblk1 hb1A ho1 hb1
      go_wp2_with fail
      refine (HMASK.out _ (HC.out.below (HBA.out.trans (HB1.out.mono HBA.out.size)))).mono ?_
      rintro e w2 ⟨rfl, hb2⟩
      have HB2 := Lib.hid (HB1.out.trans (hb2.mono HB1.out.size))
      have HO2 := Lib.hid (ownsRow_far_below HO1.out hb2 (Nat.le_refl _))
      have hsz2 := hb2.size
      clear hb2 x0 x1
      go_wp2
      go_loopw [5, 6] (fun s i wr => ∃ k : Nat, k ≤ n ∧ i = .int .i64 k ∧ wr.ownsRow (w.heap.size + 1) 79 2 s (smBits k m).length (placeCells B (smBits k m)) ∧ Below wA.heap.size wA wr) (fun _ i _ => n - (intOf i).toNat)
      case atStart => exact ⟨0, by omega, rfl, HO2.out, HB2.out⟩
      case round =>
        obtain ⟨k, hk, rfl, hown, hb⟩ := hrel
        have hblk := (hb.block w.heap.size (by have := HZA.out; omega)).trans HBLKA.out
        have x0 : wr.cell? ⟨w.heap.size, 0, none⟩ = some (.int .i64 B) := by rw [cell_of_row wr _ 0 _ _ _ hblk]; rfl
        have x1 : wr.cell? ⟨w.heap.size, 1, none⟩ = some (.slice ad xs.length c) := by rw [cell_of_row wr _ 1 _ _ _ hblk]; rfl
        have HSB := Lib.hid (smBits_succ k m)
        have hlen := smBits_length_le k m
        have epr := HEPR.out
        have hszr := hb.size
        have hszA := HZA.out
        have HB := Lib.hid hb
        have HW := Lib.hid hown
        clear hb hown hblk
        by_cases hlt : k < n
        · by_cases hbit : m.testBit k = true
          · have hb1 : bits .and .i64 ((m : Int) / 2 ^ k) 1 = 1 := by rw [and_shr_one m k (by omega), if_pos hbit]
            have a0 : ¬ B = 0 := by omega
            have d0 : 0 ≤ (k : Int) / (B : Int) := Int.ediv_nonneg (by omega) (by omega)
            have d1 : (k : Int) / (B : Int) ≤ 60 := Int.le_trans (Int.ediv_le_self _ (by omega)) (by omega)
            have r0 : 0 ≤ (k : Int) % (B : Int) := Int.emod_nonneg _ (by omega)
            have r1 : (k : Int) % (B : Int) < (B : Int) := Int.emod_lt_of_pos _ (by omega)
            go_wp2
            have t1 : IntKind.i64.wrap ((k : Int) / (B : Int)) = (k : Int) / (B : Int) := IntWalk.i64_in _ (by omega)
            have t2 : (k : Int).tmod (B : Int) = (k : Int) % (B : Int) := Int.tmod_eq_emod_of_nonneg (by omega)
            have hcl := placeCells_length B (smBits k m)
            clear epr
            go_region_law (refine step_app1 rfl (.tmp 39) (.tmp 49) 54 rfl (w.heap.size + 1) 79 _ 2 16 Try.elemCell _ _ _ _ _ _ rfl rfl rfl HW.out (by rfl) (by simp [Value.oneCell']) (by unfold maxLen; omega) (by omega) (by omega) ?_; intro g cap w3 q1 q2 q3 q4 q5 q6)
            all_goals
              go_wp2
              go_roundw
              case rel =>
                refine ⟨k + 1, by omega, by go_num, ?_, HB.out.trans (q2.mono (by omega))⟩
                rw [HSB.out, if_pos hbit, placeCells_snoc]
                simpa using q1
              case measure => simp [intOf]; omega
          · have hb1 : bits .and .i64 ((m : Int) / 2 ^ k) 1 = 0 := by rw [and_shr_one m k (by omega), if_neg hbit]
            go_wp2
            go_roundw
            case rel => exact ⟨k + 1, by omega, by go_num, by rw [HSB.out, if_neg hbit, List.append_nil]; exact HW.out, HB.out⟩
            case measure => simp [intOf]; omega
        · obtain rfl : k = n := by omega
          go_wp2
          go_ret
          rw [HMC2.out, placesOf_length, cls_places]
          obtain ⟨ad', c', rfl, _⟩ := ownsRow_cells HW.out
          exact ⟨ad', c', rfl, ownsRow_rebase HW.out (by omega), HBA.out.trans (HB.out.mono HBA.out.size)⟩
    · have hno : isMaskB B xs (m : Int) = false := by rw [hdef]; simp [hm]
      have d1 : (((m &&& M : Nat) : Int) != (m : Int)) = true := by simp; omega
      have hmc : maskC B xs (m : Int) = [] := by rw [HMC.out, if_neg (by rw [hno]; decide)]
      have HMC2 := Lib.hid hmc
      clear hm hno hmc hdef h0
      go_enter Try.func73, Try.ntmps73
      go_wp2_with fail
      rw [← HWA.out]
      obtain ⟨wB, hwB⟩ : ∃ wB, wB = wA.alloc (.cells #[] 79) := ⟨_, rfl⟩
      have hbB : Below wA.heap.size wA wB := by rw [hwB]; exact (Below.refl _ _).alloc (Nat.le_refl _) _
      have hoB : wB.ownsRow (w.heap.size + 1) 79 2 (.slice (some ⟨w.heap.size + 1, 0, none⟩) 0 0) 0 [] := by rw [hwB, ← HZA.out]; exact ownsRow_empty _ _ _
      rw [← hwB]
      have HBB := Lib.hid hbB
      have HOB := Lib.hid hoB
      clear hwB hbB hoB
      refine (HREG.out _ (HC.out.below (HBA.out.trans (HBB.out.mono HBA.out.size)))).mono ?_
      rintro e w1 ⟨rfl, hb1⟩
      have hb1A : Below wA.heap.size wA w1 := HBB.out.trans (hb1.mono HBB.out.size)
      have ho1 := ownsRow_far_below HOB.out hb1 (Nat.le_refl _)
      have hblk1 := (hb1A.block w.heap.size (by have := HZA.out; omega)).trans HBLKA.out
      have x0 : w1.cell? ⟨w.heap.size, 0, none⟩ = some (.int .i64 B) := by rw [cell_of_row w1 _ 0 _ _ _ hblk1]; rfl
      have x1 : w1.cell? ⟨w.heap.size, 1, none⟩ = some (.slice ad xs.length c) := by rw [cell_of_row w1 _ 1 _ _ _ hblk1]; rfl
      have HB1 := Lib.hid hb1A
      have HO1 := Lib.hid ho1
      have hsz1 := hb1.size
      clear hblk1 hb1A ho1 hb1
      go_wp2_with fail
      refine (HMASK.out _ (HC.out.below (HBA.out.trans (HB1.out.mono HBA.out.size)))).mono ?_
      rintro e w2 ⟨rfl, hb2⟩
      have HB2 := Lib.hid (HB1.out.trans (hb2.mono HB1.out.size))
      have HO2 := Lib.hid (ownsRow_far_below HO1.out hb2 (Nat.le_refl _))
      clear hb2 x0 x1
      go_wp2
      go_ret
      rw [HMC2.out]
      exact ⟨_, _, rfl, ownsRow_rebase HO2.out (by omega), HBA.out.trans (HB2.out.mono HBA.out.size)⟩
  · have d0 : decide (v < 0) = true := by simp; omega
    have hno : isMaskB B xs v = false := by rw [hdef]; simp; omega
    have hmc : maskC B xs v = [] := by rw [HMC.out, if_neg (by rw [hno]; decide)]
    have HMC2 := Lib.hid hmc
    clear hno hmc hdef h0
    go_enter Try.func73, Try.ntmps73
    go_wp2_with fail
    rw [← HWA.out]
    obtain ⟨wB, hwB⟩ : ∃ wB, wB = wA.alloc (.cells #[] 79) := ⟨_, rfl⟩
    have hbB : Below wA.heap.size wA wB := by rw [hwB]; exact (Below.refl _ _).alloc (Nat.le_refl _) _
    have hoB : wB.ownsRow (w.heap.size + 1) 79 2 (.slice (some ⟨w.heap.size + 1, 0, none⟩) 0 0) 0 [] := by rw [hwB, ← HZA.out]; exact ownsRow_empty _ _ _
    rw [← hwB]
    have HBB := Lib.hid hbB
    have HOB := Lib.hid hoB
    clear hwB hbB hoB
    refine (HREG.out _ (HC.out.below (HBA.out.trans (HBB.out.mono HBA.out.size)))).mono ?_
    rintro e w1 ⟨rfl, hb1⟩
    have hb1A : Below wA.heap.size wA w1 := HBB.out.trans (hb1.mono HBB.out.size)
    have ho1 := ownsRow_far_below HOB.out hb1 (Nat.le_refl _)
    have hblk1 := (hb1A.block w.heap.size (by have := HZA.out; omega)).trans HBLKA.out
    have x0 : w1.cell? ⟨w.heap.size, 0, none⟩ = some (.int .i64 B) := by rw [cell_of_row w1 _ 0 _ _ _ hblk1]; rfl
    have x1 : w1.cell? ⟨w.heap.size, 1, none⟩ = some (.slice ad xs.length c) := by rw [cell_of_row w1 _ 1 _ _ _ hblk1]; rfl
    have HB1 := Lib.hid hb1A
    have HO1 := Lib.hid ho1
    have hsz1 := hb1.size
    clear hblk1 hb1A ho1 hb1
    go_wp2
    go_ret
    rw [HMC2.out]
    exact ⟨_, _, rfl, ownsRow_rebase HO1.out (by omega), HBA.out.trans (HB1.out.mono HBA.out.size)⟩
end Go.Proofs.Ytnldmigofmedkaa
