/- Holes: the walks of HolesLeft, the reference's and the program's. -/
import Derived.Test.YtfddmmanmlghmaaRegMask
import Derived.Test.YtfddmmanmlghmaaFrameInts
namespace Go.Proofs.Ytfddmmanmlghmaa
open Go.RowKit

theorem holes_at {m : Nat} {ls : List Int} {k : Nat} (h : k < ls.length) : holesTo m ls (k + 1) = takeOff (holesTo m ls k) ls[k] := by
  rw [holesTo, List.getD_eq_getElem?_getD, List.getElem?_eq_getElem h]
  rfl
theorem i64_sub_and (m x : Nat) (hm : m < 68719476736) (hx : x < 9223372036854775808) : wrap64 ((m : Int) - bits .and .i64 (m : Int) (x : Int)) = ((m - (m &&& x) : Nat) : Int) := by
  have hle : m &&& x ≤ m := Nat.and_le_left
  rw [i64_and_nat m x (by omega) hx, IntWalk.wrap64_in _ (by omega)]
  omega

set_option maxHeartbeats 1600000 in
theorem specHoles (b : Int) (ad al : Option Addr) (c cl : Nat) (xs ls : List Int) (w : World) (hn : xs.length ≤ 1048576) (hnl : ls.length ≤ 1048576) (hwl : ∀ x ∈ ls, (Lit.int .i64 x).wf = true) (hc : CellsAt w ad (ints xs)) (hcl : CellsAt w al (ints ls)) :
    Calls Try.prog 8 #[.agg #[.int .i64 b, .slice ad xs.length c], .slice al ls.length cl] w fun e w' => e = .returned (.int .i64 (holesLeft b xs ls)) ∧ Below w.heap.size w w' := by
  have hreg := fun w (h : CellsAt w ad (ints xs)) => specReg b ad c xs w hn h
  have HC := Lib.hid hc
  have HCL := Lib.hid hcl
  have hb0 : Below w.heap.size w (w.alloc (.cells #[.int .i64 b, .slice ad xs.length c] 27)) := (Below.refl _ _).alloc (Nat.le_refl _) _
  have HB0 := Lib.hid hb0
  have hblk0 : (w.alloc (.cells #[.int .i64 b, .slice ad xs.length c] 27)).heap[w.heap.size]? = some (.cells #[.int .i64 b, .slice ad xs.length c] 27 (0, 0)) := heap_alloc_new w _
  have HBLK0 := Lib.hid hblk0
  have HWL := Lib.hid hwl
  have hll := ints_length ls
  clear hc hcl hb0 hblk0 hwl
  by_cases hr : Reg b xs
  · have hv : holesLeft b xs ls = (holesTo (regMask b xs) ls ls.length : Nat) := if_pos hr
    rw [decide_eq_true hr] at hreg
    rw [hv]
    have hM := regMask_lt hr
    obtain ⟨B, rfl, hB1, hB2⟩ := int_le_nat hr.1.1 hr.1.2
    have hmask := fun w (h : CellsAt w ad (ints xs)) => specMask B ad c xs w hr h
    obtain ⟨M, hMM⟩ : ∃ M, M = regMask (B : Int) xs := ⟨_, rfl⟩
    rw [← hMM] at hmask hM ⊢
    have HMASK := Lib.hid hmask
    have HREG := Lib.hid hreg
    clear hmask hreg hv hMM hr
    go_enter Try.func8, Try.ntmps8
    go_wp2_with fail
    refine (HREG.out _ (HC.out.below HB0.out)).mono ?_
    rintro e w1 ⟨rfl, hb1⟩
    have hblk1 := (hb1.block w.heap.size (by simp)).trans HBLK0.out
    have x0 : w1.cell? ⟨w.heap.size, 0, none⟩ = some (.int .i64 B) := by rw [cell_of_row w1 _ 0 _ _ _ hblk1]; rfl
    have x1 : w1.cell? ⟨w.heap.size, 1, none⟩ = some (.slice ad xs.length c) := by rw [cell_of_row w1 _ 1 _ _ _ hblk1]; rfl
    have hb1w := HB0.out.trans (hb1.mono HB0.out.size)
    have HB1 := Lib.hid hb1w
    clear hblk1 hb1w hb1
    go_wp2_with fail
    refine (HMASK.out _ (HC.out.below HB1.out)).mono ?_
    rintro e w2 ⟨rfl, hb2⟩
    have hb2w := HB1.out.trans (hb2.mono HB1.out.size)
    have HB2 := Lib.hid hb2w
    clear hb2w hb2 x0 x1
    go_wp2
    go_loopw [5, 6] (fun m i wr => ∃ k : Nat, k ≤ ls.length ∧ i = .int .i64 k ∧ m = .int .i64 (holesTo M ls k : Nat) ∧ w2 = wr) (fun _ i _ => ls.length - (intOf i).toNat)
    case atStart => exact ⟨0, by omega, rfl, rfl, rfl⟩
    case round =>
      obtain ⟨k, hk, rfl, rfl, rfl⟩ := hrel
      by_cases hlt : k < ls.length
      · obtain ⟨g, off, rfl, hg, hcc⟩ := HCL.out.open (by omega)
        have hx := hcc k _ (ints_at ls k hlt)
        have y0 := (HB2.out.cell (p := ⟨g, off + k, none⟩) hg).trans hx
        have hat := holes_at (m := M) hlt
        have hwf := i64_bounds (HWL.out _ (List.getElem_mem hlt))
        obtain ⟨x, hxx⟩ : ∃ x, x = ls[k] := ⟨_, rfl⟩
        rw [← hxx] at y0 hat hwf
        have hmle := holesTo_le M ls k
        obtain ⟨m, hm⟩ : ∃ m, m = holesTo M ls k := ⟨_, rfl⟩
        rw [← hm] at hat hmle ⊢
        have HAT := Lib.hid hat
        obtain ⟨hw1, hw2⟩ := hwf
        clear hcc hx hxx hm hat
        by_cases h0 : 0 ≤ x
        · have d0 : decide (0 ≤ x) = true := decide_eq_true h0
          obtain ⟨X, rfl⟩ := Int.eq_ofNat_of_zero_le h0
          have hsub := Lib.hid (i64_sub_and m X (by omega) (by omega))
          go_wp2
          go_roundw
          case rel =>
            refine ⟨k + 1, by omega, by go_num, ?_, trivial⟩
            rw [HAT.out, takeOff, if_pos h0, Int.toNat_natCast]
            rw [hsub.out]
          case measure => simp [intOf]; omega
        · have d0 : decide (0 ≤ x) = false := decide_eq_false h0
          go_wp2
          go_roundw
          case rel =>
            refine ⟨k + 1, by omega, by go_num, ?_, trivial⟩
            rw [HAT.out, takeOff, if_neg h0]
          case measure => simp [intOf]; omega
      · obtain rfl : k = ls.length := by omega
        go_wp2
        go_ret
        exact ⟨rfl, HB2.out⟩
  · have hv : holesLeft b xs ls = -1 := if_neg hr
    rw [decide_eq_false hr] at hreg
    rw [hv]
    have HREG := Lib.hid hreg
    clear hreg hv hr
    go_enter Try.func8, Try.ntmps8
    go_wp2_with fail
    refine (HREG.out _ (HC.out.below HB0.out)).mono ?_
    rintro e w1 ⟨rfl, hb1⟩
    go_wp2
    go_ret
    exact ⟨rfl, HB0.out.trans (hb1.mono HB0.out.size)⟩

set_option maxHeartbeats 1600000 in
theorem implHoles (b : Int) (ad al : Option Addr) (c cl : Nat) (xs ls : List Int) (w : World) (hn : xs.length ≤ 1048576) (hnl : ls.length ≤ 1048576) (hwl : ∀ x ∈ ls, (Lit.int .i64 x).wf = true) (hc : CellsAt w ad (ints xs)) (hcl : CellsAt w al (ints ls)) :
    Calls Try.prog 11 #[.agg #[.int .i64 b, .slice ad xs.length c], .slice al ls.length cl] w fun e w' => e = .returned (.int .i64 (holesLeft b xs ls)) ∧ Below w.heap.size w w' := by
  have hreg := fun w (h : CellsAt w ad (ints xs)) => implReg b ad c xs w hn h
  have HC := Lib.hid hc
  have HCL := Lib.hid hcl
  have hb0 : Below w.heap.size w (w.alloc (.cells #[.int .i64 b, .slice ad xs.length c] 27)) := (Below.refl _ _).alloc (Nat.le_refl _) _
  have HB0 := Lib.hid hb0
  have hblk0 : (w.alloc (.cells #[.int .i64 b, .slice ad xs.length c] 27)).heap[w.heap.size]? = some (.cells #[.int .i64 b, .slice ad xs.length c] 27 (0, 0)) := heap_alloc_new w _
  have HBLK0 := Lib.hid hblk0
  have HWL := Lib.hid hwl
  have hll := ints_length ls
  clear hc hcl hb0 hblk0 hwl
  by_cases hr : Reg b xs
  · have hv : holesLeft b xs ls = (holesTo (regMask b xs) ls ls.length : Nat) := if_pos hr
    rw [decide_eq_true hr] at hreg
    rw [hv]
    have hM := regMask_lt hr
    obtain ⟨B, rfl, hB1, hB2⟩ := int_le_nat hr.1.1 hr.1.2
    have hmask := fun w (h : CellsAt w ad (ints xs)) => implMask B ad c xs w hr h
    obtain ⟨M, hMM⟩ : ∃ M, M = regMask (B : Int) xs := ⟨_, rfl⟩
    rw [← hMM] at hmask hM ⊢
    have HMASK := Lib.hid hmask
    have HREG := Lib.hid hreg
    clear hmask hreg hv hMM hr
    go_enter Try.func11, Try.ntmps11
    go_wp2_with fail
    refine (HREG.out _ (HC.out.below HB0.out)).mono ?_
    rintro e w1 ⟨rfl, hb1⟩
    have hblk1 := (hb1.block w.heap.size (by simp)).trans HBLK0.out
    have x0 : w1.cell? ⟨w.heap.size, 0, none⟩ = some (.int .i64 B) := by rw [cell_of_row w1 _ 0 _ _ _ hblk1]; rfl
    have x1 : w1.cell? ⟨w.heap.size, 1, none⟩ = some (.slice ad xs.length c) := by rw [cell_of_row w1 _ 1 _ _ _ hblk1]; rfl
    have hb1w := HB0.out.trans (hb1.mono HB0.out.size)
    have HB1 := Lib.hid hb1w
    clear hblk1 hb1w hb1
    go_wp2_with fail
    refine (HMASK.out _ (HC.out.below HB1.out)).mono ?_
    rintro e w2 ⟨rfl, hb2⟩
    have hb2w := HB1.out.trans (hb2.mono HB1.out.size)
    have HB2 := Lib.hid hb2w
    clear hb2w hb2 x0 x1
    go_wp2
    go_loopw [5, 15] (fun m i wr => ∃ k : Nat, k ≤ ls.length ∧ i = .int .i64 k ∧ m = .int .i64 (holesTo M ls k : Nat) ∧ w2 = wr) (fun _ i _ => ls.length - (intOf i).toNat)
    case atStart => exact ⟨0, by omega, rfl, rfl, rfl⟩
    case round =>
      obtain ⟨k, hk, rfl, rfl, rfl⟩ := hrel
      by_cases hlt : k < ls.length
      · obtain ⟨g, off, rfl, hg, hcc⟩ := HCL.out.open (by omega)
        have hx := hcc k _ (ints_at ls k hlt)
        have y0 := (HB2.out.cell (p := ⟨g, off + k, none⟩) hg).trans hx
        have hat := holes_at (m := M) hlt
        have hwf := i64_bounds (HWL.out _ (List.getElem_mem hlt))
        obtain ⟨x, hxx⟩ : ∃ x, x = ls[k] := ⟨_, rfl⟩
        rw [← hxx] at y0 hat hwf
        have hmle := holesTo_le M ls k
        obtain ⟨m, hm⟩ : ∃ m, m = holesTo M ls k := ⟨_, rfl⟩
        rw [← hm] at hat hmle ⊢
        have HAT := Lib.hid hat
        obtain ⟨hw1, hw2⟩ := hwf
        clear hcc hx hxx hm hat
        by_cases h0 : 0 ≤ x
        · have d0 : decide (0 ≤ x) = true := decide_eq_true h0
          obtain ⟨X, rfl⟩ := Int.eq_ofNat_of_zero_le h0
          have hsub := Lib.hid (i64_andNot_nat m X (by omega) (by omega))
          go_wp2
          go_roundw
          case rel =>
            refine ⟨k + 1, by omega, by go_num, ?_, trivial⟩
            rw [HAT.out, takeOff, if_pos h0, Int.toNat_natCast]
            rw [hsub.out]
          case measure => simp [intOf]; omega
        · have d0 : decide (0 ≤ x) = false := decide_eq_false h0
          go_wp2
          go_roundw
          case rel =>
            refine ⟨k + 1, by omega, by go_num, ?_, trivial⟩
            rw [HAT.out, takeOff, if_neg h0]
          case measure => simp [intOf]; omega
      · obtain rfl : k = ls.length := by omega
        go_wp2
        go_ret
        exact ⟨rfl, HB2.out⟩
  · have hv : holesLeft b xs ls = -1 := if_neg hr
    rw [decide_eq_false hr] at hreg
    rw [hv]
    have HREG := Lib.hid hreg
    clear hreg hv hr
    go_enter Try.func11, Try.ntmps11
    go_wp2_with fail
    refine (HREG.out _ (HC.out.below HB0.out)).mono ?_
    rintro e w1 ⟨rfl, hb1⟩
    go_wp2
    go_ret
    exact ⟨rfl, HB0.out.trans (hb1.mono HB0.out.size)⟩
end Go.Proofs.Ytfddmmanmlghmaa
