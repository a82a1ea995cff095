/- AllMoc: parts laid together: MocI, MocS. -/
import Derived.Test.YtajmdgcnnipdoaaGreatDoorAllReg
import Derived.Test.YtajmdgcnnipdoaaGreatDoorAllFrame
import Derived.BigQuiet
import Derived.BigRegion
import Derived.StillTailTactics
import Derived.Deep.RegionHeld3
import Derived.Deep.Cut
import Derived.Lib.QuietBelow
import Derived.Deep.DrawnRows

/- MocI: the walk of MaskOfCells, the program's, in a valid region. -/
namespace Go.Proofs.YtajmdgcnnipdoaaGreatDoor
open Go.RowKit

attribute [local go_sem ↓] Go.wp_at_zero Go.wp_at_succ


set_option maxRecDepth 100000 in
set_option maxHeartbeats 6400000 in
theorem implMoc (B : Nat) (ad : Option Addr) (c : Nat) (xs : List Int) (sa : Option Addr) (cs : Nat) (s : List Cl) (w : World) (hr : Reg (B : Int) xs) (hs : s.length ≤ 100) (hbd : ∀ d ∈ s, (0 ≤ d.x ∧ d.x ≤ 50) ∧ 0 ≤ d.y ∧ d.y ≤ 50) (hc : CellsAt w ad (ints xs)) (hcs : CellsAt w sa (cls s)) :
    Calls Tryz.prog 150 #[.agg #[.int .i64 B, .slice ad xs.length c], .slice sa s.length cs] w fun e w' => e = .returned (.tuple #[.int .i64 (ofMoc (mocS B xs s 0)).1, .bool (ofMoc (mocS B xs s 0)).2]) ∧ Below w.heap.size w w' := by
  have hl6 : xs.length ≤ 6 := hr.2.1.2
  have hB6 : B ≤ 6 := by have := hr.1.2; omega
  have hB1 : 1 ≤ B := by have := hr.1.1; omega
  have hreg := fun w (h : CellsAt w ad (ints xs)) => implReg (B : Int) ad c xs w (by omega) h
  rw [decide_eq_true hr] at hreg
  have HREG := Lib.hid hreg
  have HIN := Lib.hid (fun X Y w' hX hY h => implHas2 B X Y ad c xs w' hr hX hY h)
  have HBIT := Lib.hid (fun d h => inR_bit (c := d) hr h)
  have HC := Lib.hid hc
  have HCS := Lib.hid hcs
  have HBD := Lib.hid hbd
  clear hreg hc hcs hr hbd
  obtain ⟨wA, hwA⟩ : ∃ wA, wA = w.alloc (.cells #[.int .i64 B, .slice ad xs.length c] 26) := ⟨_, rfl⟩
  have hbA : Below w.heap.size w wA := by rw [hwA]; exact (Below.refl _ _).alloc (Nat.le_refl _) _
  have hzA : wA.heap.size = w.heap.size + 1 := by rw [hwA]; simp
  have hblkA : wA.heap[w.heap.size]? = some (.cells #[.int .i64 B, .slice ad xs.length c] 26 (0, 0)) := by rw [hwA]; exact heap_alloc_new w _
  have HBA := Lib.hid hbA
  have HBLKA := Lib.hid hblkA
  have HWA := Lib.hid hwA
  have hszA := hbA.size
  clear hbA hblkA hwA
  go_enter Tryz.func150, Tryz.ntmps150
  go_wp2_with fail
  rw [← HWA.out]
  refine (HREG.out wA (HC.out.below HBA.out)).mono ?_
  rintro e w1 ⟨rfl, hb1⟩
  have HB1 := Lib.hid hb1
  clear hb1
  go_wp2
  go_loopw [6, 14] (fun mv i wr => ∃ k m : Nat, k ≤ s.length ∧ i = .int .i64 k ∧ mv = .int .i64 m ∧ mocS B xs s 0 = mocS B xs (s.drop k) m ∧ m < 68719476736 ∧ Below wA.heap.size wA wr) (fun _ i _ => s.length - (intOf i).toNat)
  case atStart => exact ⟨0, 0, Nat.zero_le _, rfl, rfl, by rw [List.drop_zero], by decide, HB1.out⟩
  case round =>
    obtain ⟨k, m, hk, rfl, rfl, hm0, hm36, hbl⟩ := hrel
    have HM0 := Lib.hid hm0
    have HB := Lib.hid hbl
    have hszr := hbl.size
    have hszrA := HB.out.size
    clear hm0
    by_cases hlt : k < s.length
    · obtain ⟨gs, os, rfl, hgs, hcc⟩ := cl_open HCS.out (by omega)
      obtain ⟨v0, v1⟩ := hcc k hlt
      have hbw := HBA.out.trans (hbl.mono hszA)
      have x0 := (hbw.cell (p := ⟨gs, os + k * 2, none⟩) hgs).trans v0
      have x1 := (hbw.cell (p := ⟨gs, os + k * 2 + 1, none⟩) hgs).trans v1
      have hbk := HBD.out _ (List.getElem_mem hlt)
      obtain ⟨X, Y, hd, hX50, hY50⟩ : ∃ X Y : Nat, s[k] = ⟨(X : Int), (Y : Int)⟩ ∧ X ≤ 50 ∧ Y ≤ 50 := by
        refine ⟨s[k].x.toNat, s[k].y.toNat, ?_, by omega, by omega⟩
        rw [Int.toNat_of_nonneg hbk.1.1, Int.toNat_of_nonneg hbk.2.1]
      rw [hd] at x0 x1
      simp only at x0 x1
      have hblk := (hbl.block w.heap.size (by omega)).trans HBLKA.out
      have y0 : wr.cell? ⟨w.heap.size, 0, none⟩ = some (.int .i64 B) := by rw [cell_of_row wr _ 0 _ _ _ hblk]; rfl
      have y1 : wr.cell? ⟨w.heap.size, 1, none⟩ = some (.slice ad xs.length c) := by rw [cell_of_row wr _ 1 _ _ _ hblk]; rfl
      have HBW := Lib.hid hbw
      have HBLK := Lib.hid hblk
      obtain ⟨p1, hp1⟩ : ∃ p1, p1 = Y * B := ⟨_, rfl⟩
      have hp1b : p1 ≤ 50 * 6 := by rw [hp1]; exact Nat.mul_le_mul hY50 hB6
      obtain ⟨b, hb⟩ : ∃ b, b = p1 + X := ⟨_, rfl⟩
      have hbit : pbit B ⟨(X : Int), (Y : Int)⟩ = b := by rw [hb, hp1]; rfl
      have e1 : (Y : Int) * (B : Int) = (p1 : Int) := by rw [hp1]; norm_cast
      have e2 : (p1 : Int) + (X : Int) = (b : Int) := by rw [hb]; norm_cast
      have t1 : IntKind.i64.wrap (p1 : Int) = (p1 : Int) := IntWalk.i64_in _ (by omega)
      have t2 : IntKind.i64.wrap (b : Int) = (b : Int) := IntWalk.i64_in _ (by omega)
      have hbb : b ≤ 400 := by omega
      have hst := mocS_drop (B := B) (xs := xs) (s := s) (k := k) (m := m) hlt
      rw [hd] at hst
      simp only [Int.toNat_natCast] at hst
      rw [hbit] at hst
      have HBITc := Lib.hid (fun h => (HBIT.out (⟨(X : Int), (Y : Int)⟩ : Cl) h).1)
      rw [hbit] at HBITc
      have HST := Lib.hid hst
      have i1 : (k : Int) < (s.length : Int) := by omega
      clear hst hp1 hb hbit
      clear v0 v1 hcc hbk hd hbw hblk hbl
      have hszgs := HBW.out.size
      have hbB : Below wr.heap.size wr (wr.alloc (.cells #[.int .i64 X, .int .i64 Y] 91)) := (Below.refl _ _).alloc (Nat.le_refl _) _
      have hblkB := heap_alloc_new wr (.cells #[.int .i64 X, .int .i64 Y] 91)
      have hbox := cl_box hblkB
      have HBB := Lib.hid hbB
      have HBLKB := Lib.hid hblkB
      have HBOX := Lib.hid hbox
      clear hbB hbox hblkB
      cases hin : inR B xs X Y with
      | true =>
        have HINc := Lib.hid (fun w' h => HIN.out X Y w' (by omega) (by omega) h)
        rw [hin] at HINc
        cases htb : m.testBit b with
        | true =>
          have hnx := HST.out
          rw [hin, htb] at hnx
          simp only [Bool.not_true, Bool.and_false, cond_false] at hnx
          have HV := Lib.hid (show mocS B xs s 0 = none from HM0.out.trans hnx)
          clear hnx
          have hb36 := HBITc.out hin
          have hsh := and_shr_one m b (Nat.lt_trans hm36 (by decide))
          rw [htb, if_pos rfl] at hsh
          go_upto_region 7 with (fail)
          generalize wr.alloc (.cells #[.int .i64 X, .int .i64 Y] 91) = wb at HBB HBOX HBLKB ⊢
          obtain ⟨q0, q1⟩ := HBOX.out
          have hzb := HBB.out.size
          have r0 := (HBB.out.cell (p := ⟨w.heap.size, 0, none⟩) (by simp; omega)).trans y0
          have r1 := (HBB.out.cell (p := ⟨w.heap.size, 1, none⟩) (by simp; omega)).trans y1
          go_wp2_with fail
          refine (HINc.out wb (HC.out.below (HBW.out.trans (HBB.out.mono hszgs)))).mono ?_
          rintro e w5 ⟨rfl, hb5⟩
          have HB5 := Lib.hid (HB.out.trans ((HBB.out.trans (hb5.mono hzb)).mono hszr))
          have hgx := (lt_of_blk HBLKB.out)
          have q0 := (hb5.cell (p := ⟨wr.heap.size, 0, none⟩) (by simp; omega)).trans q0
          have q1 := (hb5.cell (p := ⟨wr.heap.size, 1, none⟩) (by simp; omega)).trans q1
          have r0 := (hb5.cell (p := ⟨w.heap.size, 0, none⟩) (by simp; omega)).trans r0
          have r1 := (hb5.cell (p := ⟨w.heap.size, 1, none⟩) (by simp; omega)).trans r1
          clear hb5
          go_wp2
          go_ret2
          rw [HV.out]
          exact ⟨rfl, HBA.out.trans (HB5.out.mono hszA)⟩
        | false =>
          have hb36 := HBITc.out hin
          obtain ⟨pb, hpb⟩ : ∃ pb, pb = 2 ^ b := ⟨_, rfl⟩
          have hpb1 : pb < 68719476736 := by rw [hpb]; exact Nat.lt_of_lt_of_le (Nat.pow_lt_pow_right (by decide) hb36) (by decide)
          have hor : m ||| pb = m + pb := by rw [hpb]; exact or_two_pow htb
          have hlt0 : m + pb < 68719476736 := by rw [← hor, hpb]; exact Nat.lt_of_lt_of_le (Nat.or_lt_two_pow (n := 36) (Nat.lt_of_lt_of_le hm36 (by decide)) (Nat.pow_lt_pow_right (by decide) hb36)) (by decide)
          have hpw : wrap64 (2 ^ b) = (pb : Int) := by
            have h1 : ((2 : Int) ^ b) = ((2 ^ b : Nat) : Int) := by norm_cast
            rw [h1, ← hpb]
            exact wrap_nat hpb1
          have hnx := HST.out
          rw [hin, htb, ← hpb] at hnx
          simp only [Bool.not_false, Bool.and_true, cond_true] at hnx
          have horI : bits .or .i64 (m : Int) (pb : Int) = ((m + pb : Nat) : Int) := by rw [i64_or_nat m pb (Nat.lt_trans hm36 (by decide)) (Nat.lt_trans hpb1 (by decide)), hor]
          clear hpb hor
          obtain ⟨m2, hm2⟩ : ∃ m2, m2 = m + pb := ⟨_, rfl⟩
          have es : (m : Int) + (pb : Int) = (m2 : Int) := by rw [hm2]; norm_cast
          rw [← hm2] at hlt0 hnx horI
          have HNX := Lib.hid hnx
          have HLT := Lib.hid hlt0
          have tm2 : wrap64 (m2 : Int) = (m2 : Int) := wrap_nat hlt0
          have tm3 : IntKind.i64.wrap (m2 : Int) = (m2 : Int) := by rw [IntWalk.i64_left]; exact tm2
          clear hnx hm2 hlt0 hpb1
          have hsh := and_shr_one m b (Nat.lt_trans hm36 (by decide))
          rw [htb, if_neg (by simp)] at hsh
          go_upto_region 7 with (fail)
          generalize wr.alloc (.cells #[.int .i64 X, .int .i64 Y] 91) = wb at HBB HBOX HBLKB ⊢
          obtain ⟨q0, q1⟩ := HBOX.out
          have hzb := HBB.out.size
          have r0 := (HBB.out.cell (p := ⟨w.heap.size, 0, none⟩) (by simp; omega)).trans y0
          have r1 := (HBB.out.cell (p := ⟨w.heap.size, 1, none⟩) (by simp; omega)).trans y1
          go_wp2_with fail
          refine (HINc.out wb (HC.out.below (HBW.out.trans (HBB.out.mono hszgs)))).mono ?_
          rintro e w5 ⟨rfl, hb5⟩
          have HB5 := Lib.hid (HB.out.trans ((HBB.out.trans (hb5.mono hzb)).mono hszr))
          have hgx := (lt_of_blk HBLKB.out)
          have q0 := (hb5.cell (p := ⟨wr.heap.size, 0, none⟩) (by simp; omega)).trans q0
          have q1 := (hb5.cell (p := ⟨wr.heap.size, 1, none⟩) (by simp; omega)).trans q1
          have r0 := (hb5.cell (p := ⟨w.heap.size, 0, none⟩) (by simp; omega)).trans r0
          have r1 := (hb5.cell (p := ⟨w.heap.size, 1, none⟩) (by simp; omega)).trans r1
          clear hb5
          go_wp2
          go_roundw
          case rel => exact ⟨k + 1, m2, by omega, by go_num, rfl, HM0.out.trans HNX.out, HLT.out, HB5.out⟩
          case measure => simp [intOf]; omega
      | false =>
        have HINc := Lib.hid (fun w' h => HIN.out X Y w' (by omega) (by omega) h)
        rw [hin] at HINc
        have hnx := HST.out
        rw [hin] at hnx
        simp only [Bool.false_and, cond_false] at hnx
        have HV := Lib.hid (show mocS B xs s 0 = none from HM0.out.trans hnx)
        clear hnx
        go_upto_region 7 with (fail)
        generalize wr.alloc (.cells #[.int .i64 X, .int .i64 Y] 91) = wb at HBB HBOX HBLKB ⊢
        obtain ⟨q0, q1⟩ := HBOX.out
        have hzb := HBB.out.size
        have r0 := (HBB.out.cell (p := ⟨w.heap.size, 0, none⟩) (by simp; omega)).trans y0
        have r1 := (HBB.out.cell (p := ⟨w.heap.size, 1, none⟩) (by simp; omega)).trans y1
        go_wp2_with fail
        refine (HINc.out wb (HC.out.below (HBW.out.trans (HBB.out.mono hszgs)))).mono ?_
        rintro e w5 ⟨rfl, hb5⟩
        have HB5 := Lib.hid (HB.out.trans ((HBB.out.trans (hb5.mono hzb)).mono hszr))
        have hgx := (lt_of_blk HBLKB.out)
        have q0 := (hb5.cell (p := ⟨wr.heap.size, 0, none⟩) (by simp; omega)).trans q0
        have q1 := (hb5.cell (p := ⟨wr.heap.size, 1, none⟩) (by simp; omega)).trans q1
        have r0 := (hb5.cell (p := ⟨w.heap.size, 0, none⟩) (by simp; omega)).trans r0
        have r1 := (hb5.cell (p := ⟨w.heap.size, 1, none⟩) (by simp; omega)).trans r1
        clear hb5
        go_wp2
        go_ret2
        rw [HV.out]
        exact ⟨rfl, HBA.out.trans (HB5.out.mono hszA)⟩
    · obtain rfl : k = s.length := by omega
      have hv : mocS B xs s 0 = some m := by rw [HM0.out, List.drop_length]; rfl
      have HV := Lib.hid hv
      clear hbl hv
      go_wp2
      go_ret2
      rw [HV.out]
      exact ⟨rfl, HBA.out.trans (HB.out.mono hszA)⟩

end Go.Proofs.YtajmdgcnnipdoaaGreatDoor

/- MocS: the walk of MaskOfCells, the reference's, in a valid region. -/
namespace Go.Proofs.YtajmdgcnnipdoaaGreatDoor
open Go.RowKit

attribute [local go_sem ↓] Go.wp_at_zero Go.wp_at_succ


set_option maxRecDepth 100000 in
set_option maxHeartbeats 6400000 in
theorem specMoc (B : Nat) (ad : Option Addr) (c : Nat) (xs : List Int) (sa : Option Addr) (cs : Nat) (s : List Cl) (w : World) (hr : Reg (B : Int) xs) (hs : s.length ≤ 100) (hbd : ∀ d ∈ s, (0 ≤ d.x ∧ d.x ≤ 50) ∧ 0 ≤ d.y ∧ d.y ≤ 50) (hc : CellsAt w ad (ints xs)) (hcs : CellsAt w sa (cls s)) :
    Calls Tryz.prog 145 #[.agg #[.int .i64 B, .slice ad xs.length c], .slice sa s.length cs] w fun e w' => e = .returned (.tuple #[.int .i64 (ofMoc (mocS B xs s 0)).1, .bool (ofMoc (mocS B xs s 0)).2]) ∧ Below w.heap.size w w' := by
  have hl6 : xs.length ≤ 6 := hr.2.1.2
  have hB6 : B ≤ 6 := by have := hr.1.2; omega
  have hB1 : 1 ≤ B := by have := hr.1.1; omega
  have hreg := fun w (h : CellsAt w ad (ints xs)) => specReg (B : Int) ad c xs w (by omega) h
  rw [decide_eq_true hr] at hreg
  have HREG := Lib.hid hreg
  have HIN := Lib.hid (fun X Y w' hX hY h => specIn B X Y ad c xs w' hr hX hY h)
  have HBIT := Lib.hid (fun d h => inR_bit (c := d) hr h)
  have HC := Lib.hid hc
  have HCS := Lib.hid hcs
  have HBD := Lib.hid hbd
  clear hreg hc hcs hr hbd
  obtain ⟨wA, hwA⟩ : ∃ wA, wA = w.alloc (.cells #[.int .i64 B, .slice ad xs.length c] 26) := ⟨_, rfl⟩
  have hbA : Below w.heap.size w wA := by rw [hwA]; exact (Below.refl _ _).alloc (Nat.le_refl _) _
  have hzA : wA.heap.size = w.heap.size + 1 := by rw [hwA]; simp
  have hblkA : wA.heap[w.heap.size]? = some (.cells #[.int .i64 B, .slice ad xs.length c] 26 (0, 0)) := by rw [hwA]; exact heap_alloc_new w _
  have HBA := Lib.hid hbA
  have HBLKA := Lib.hid hblkA
  have HWA := Lib.hid hwA
  have hszA := hbA.size
  clear hbA hblkA hwA
  go_enter Tryz.func145, Tryz.ntmps145
  go_wp2
  rw [← HWA.out]
  go_loopw [6, 7] (fun mv i wr => ∃ k m : Nat, k ≤ s.length ∧ i = .int .i64 k ∧ mv = .int .i64 m ∧ mocS B xs s 0 = mocS B xs (s.drop k) m ∧ m < 68719476736 ∧ Below wA.heap.size wA wr) (fun _ i _ => s.length - (intOf i).toNat)
  case atStart => exact ⟨0, 0, Nat.zero_le _, rfl, rfl, by rw [List.drop_zero], by decide, Below.refl _ _⟩
  case round =>
    obtain ⟨k, m, hk, rfl, rfl, hm0, hm36, hbl⟩ := hrel
    have HM0 := Lib.hid hm0
    have HB := Lib.hid hbl
    have hszr := hbl.size
    have hszrA := HB.out.size
    clear hm0
    by_cases hlt : k < s.length
    · obtain ⟨gs, os, rfl, hgs, hcc⟩ := cl_open HCS.out (by omega)
      obtain ⟨v0, v1⟩ := hcc k hlt
      have hbw := HBA.out.trans (hbl.mono hszA)
      have x0 := (hbw.cell (p := ⟨gs, os + k * 2, none⟩) hgs).trans v0
      have x1 := (hbw.cell (p := ⟨gs, os + k * 2 + 1, none⟩) hgs).trans v1
      have hbk := HBD.out _ (List.getElem_mem hlt)
      obtain ⟨X, Y, hd, hX50, hY50⟩ : ∃ X Y : Nat, s[k] = ⟨(X : Int), (Y : Int)⟩ ∧ X ≤ 50 ∧ Y ≤ 50 := by
        refine ⟨s[k].x.toNat, s[k].y.toNat, ?_, by omega, by omega⟩
        rw [Int.toNat_of_nonneg hbk.1.1, Int.toNat_of_nonneg hbk.2.1]
      rw [hd] at x0 x1
      simp only at x0 x1
      have hblk := (hbl.block w.heap.size (by omega)).trans HBLKA.out
      have y0 : wr.cell? ⟨w.heap.size, 0, none⟩ = some (.int .i64 B) := by rw [cell_of_row wr _ 0 _ _ _ hblk]; rfl
      have y1 : wr.cell? ⟨w.heap.size, 1, none⟩ = some (.slice ad xs.length c) := by rw [cell_of_row wr _ 1 _ _ _ hblk]; rfl
      have HBW := Lib.hid hbw
      have HBLK := Lib.hid hblk
      obtain ⟨p1, hp1⟩ : ∃ p1, p1 = Y * B := ⟨_, rfl⟩
      have hp1b : p1 ≤ 50 * 6 := by rw [hp1]; exact Nat.mul_le_mul hY50 hB6
      obtain ⟨b, hb⟩ : ∃ b, b = p1 + X := ⟨_, rfl⟩
      have hbit : pbit B ⟨(X : Int), (Y : Int)⟩ = b := by rw [hb, hp1]; rfl
      have e1 : (Y : Int) * (B : Int) = (p1 : Int) := by rw [hp1]; norm_cast
      have e2 : (p1 : Int) + (X : Int) = (b : Int) := by rw [hb]; norm_cast
      have t1 : IntKind.i64.wrap (p1 : Int) = (p1 : Int) := IntWalk.i64_in _ (by omega)
      have t2 : IntKind.i64.wrap (b : Int) = (b : Int) := IntWalk.i64_in _ (by omega)
      have hbb : b ≤ 400 := by omega
      have hst := mocS_drop (B := B) (xs := xs) (s := s) (k := k) (m := m) hlt
      rw [hd] at hst
      simp only [Int.toNat_natCast] at hst
      rw [hbit] at hst
      have HBITc := Lib.hid (fun h => (HBIT.out (⟨(X : Int), (Y : Int)⟩ : Cl) h).1)
      rw [hbit] at HBITc
      have HST := Lib.hid hst
      have i1 : (k : Int) < (s.length : Int) := by omega
      clear hst hp1 hb hbit
      clear v0 v1 hcc hbk hd hbw hblk hbl
      have hszgs := HBW.out.size
      have hin0 := HIN.out X Y
      cases hin : inR B xs X Y with
      | true =>
        have HINc := Lib.hid (fun w' h => HIN.out X Y w' (by omega) (by omega) h)
        rw [hin] at HINc
        clear hin0
        cases htb : m.testBit b with
        | true =>
          have hnx := HST.out
          rw [hin, htb] at hnx
          simp only [Bool.not_true, Bool.and_false, cond_false] at hnx
          have HV := Lib.hid (show mocS B xs s 0 = none from HM0.out.trans hnx)
          clear hnx
          have hb36 := HBITc.out hin
          have hsh := and_shr_one m b (Nat.lt_trans hm36 (by decide))
          rw [htb, if_pos rfl] at hsh
          have X0 := cell_regrown x0
          have X1h := cell_regrown x1
          have Y0 := cell_regrown y0
          have Y1 := cell_regrown y1
          have HCALL := Lib.hid (fun d os => Calls.regrown_of (d := d) (os := os) (HINc.out (Go.Sort.grow (redrawn wr d) os) (HC.out.below (HBW.out.trans ((below_regrown wr d os).mono hszgs)))))
          clear x0 x1
          go_wp2
          refine wp_region_quiet_below (by kernel_rfl) (by kernel_rfl) ?_
          repeat (go_big_quiet_step (exact HCALL.out _ _))
          refine wpQuiet_nil ?_
          intro _ hw'
          obtain ⟨⟨dq, osq⟩, hw''⟩ := hw'
          subst hw''
          have hb5r := below_regrown wr dq osq
          have z0 := Y0 dq osq
          have z1 := Y1 dq osq
          have u0 := X0 dq osq
          have u1 := X1h dq osq
          generalize Go.Sort.grow (redrawn wr dq) osq = w5 at hb5r z0 z1 u0 u1 ⊢
          have HB5 := Lib.hid (HB.out.trans (hb5r.mono hszr))
          clear hb5r y0 y1 X0 X1h Y0 Y1
          go_wp2
          go_ret2
          rw [HV.out]
          exact ⟨rfl, HBA.out.trans (HB5.out.mono hszA)⟩
        | false =>
          have hb36 := HBITc.out hin
          obtain ⟨pb, hpb⟩ : ∃ pb, pb = 2 ^ b := ⟨_, rfl⟩
          have hpb1 : pb < 68719476736 := by rw [hpb]; exact Nat.lt_of_lt_of_le (Nat.pow_lt_pow_right (by decide) hb36) (by decide)
          have hor : m ||| pb = m + pb := by rw [hpb]; exact or_two_pow htb
          have hlt0 : m + pb < 68719476736 := by rw [← hor, hpb]; exact Nat.lt_of_lt_of_le (Nat.or_lt_two_pow (n := 36) (Nat.lt_of_lt_of_le hm36 (by decide)) (Nat.pow_lt_pow_right (by decide) hb36)) (by decide)
          have hpw : wrap64 (2 ^ b) = (pb : Int) := by
            have h1 : ((2 : Int) ^ b) = ((2 ^ b : Nat) : Int) := by norm_cast
            rw [h1, ← hpb]
            exact wrap_nat hpb1
          have hnx := HST.out
          rw [hin, htb, ← hpb] at hnx
          simp only [Bool.not_false, Bool.and_true, cond_true] at hnx
          have horI : bits .or .i64 (m : Int) (pb : Int) = ((m + pb : Nat) : Int) := by rw [i64_or_nat m pb (Nat.lt_trans hm36 (by decide)) (Nat.lt_trans hpb1 (by decide)), hor]
          clear hpb hor
          obtain ⟨m2, hm2⟩ : ∃ m2, m2 = m + pb := ⟨_, rfl⟩
          have es : (m : Int) + (pb : Int) = (m2 : Int) := by rw [hm2]; norm_cast
          rw [← hm2] at hlt0 hnx horI
          have HNX := Lib.hid hnx
          have HLT := Lib.hid hlt0
          have tm2 : wrap64 (m2 : Int) = (m2 : Int) := wrap_nat hlt0
          have tm3 : IntKind.i64.wrap (m2 : Int) = (m2 : Int) := by rw [IntWalk.i64_left]; exact tm2
          clear hnx hm2 hlt0 hpb1
          have hsh := and_shr_one m b (Nat.lt_trans hm36 (by decide))
          rw [htb, if_neg (by simp)] at hsh
          have X0 := cell_regrown x0
          have X1h := cell_regrown x1
          have Y0 := cell_regrown y0
          have Y1 := cell_regrown y1
          have HCALL := Lib.hid (fun d os => Calls.regrown_of (d := d) (os := os) (HINc.out (Go.Sort.grow (redrawn wr d) os) (HC.out.below (HBW.out.trans ((below_regrown wr d os).mono hszgs)))))
          clear x0 x1
          go_wp2
          refine wp_region_quiet_below (by kernel_rfl) (by kernel_rfl) ?_
          repeat (go_big_quiet_step (exact HCALL.out _ _))
          refine wpQuiet_nil ?_
          intro _ hw'
          obtain ⟨⟨dq, osq⟩, hw''⟩ := hw'
          subst hw''
          have hb5r := below_regrown wr dq osq
          have z0 := Y0 dq osq
          have z1 := Y1 dq osq
          have u0 := X0 dq osq
          have u1 := X1h dq osq
          generalize Go.Sort.grow (redrawn wr dq) osq = w5 at hb5r z0 z1 u0 u1 ⊢
          have HB5 := Lib.hid (HB.out.trans (hb5r.mono hszr))
          clear hb5r y0 y1 X0 X1h Y0 Y1
          go_wp2
          go_big_quiet (fail)
          go_wp2
          go_roundw
          case rel => exact ⟨k + 1, m2, by omega, by go_num, rfl, HM0.out.trans HNX.out, HLT.out, below_drewN HB5.out _⟩
          case measure => simp [intOf]; omega
      | false =>
        have HINc := Lib.hid (fun w' h => HIN.out X Y w' (by omega) (by omega) h)
        rw [hin] at HINc
        clear hin0
        have hnx := HST.out
        rw [hin] at hnx
        simp only [Bool.false_and, cond_false] at hnx
        have HV := Lib.hid (show mocS B xs s 0 = none from HM0.out.trans hnx)
        clear hnx
        have X0 := cell_regrown x0
        have X1h := cell_regrown x1
        have Y0 := cell_regrown y0
        have Y1 := cell_regrown y1
        have HCALL := Lib.hid (fun d os => Calls.regrown_of (d := d) (os := os) (HINc.out (Go.Sort.grow (redrawn wr d) os) (HC.out.below (HBW.out.trans ((below_regrown wr d os).mono hszgs)))))
        clear x0 x1
        go_wp2
        refine wp_region_quiet_below (by kernel_rfl) (by kernel_rfl) ?_
        repeat (go_big_quiet_step (exact HCALL.out _ _))
        refine wpQuiet_nil ?_
        intro _ hw'
        obtain ⟨⟨dq, osq⟩, hw''⟩ := hw'
        subst hw''
        have hb5r := below_regrown wr dq osq
        have z0 := Y0 dq osq
        have z1 := Y1 dq osq
        have u0 := X0 dq osq
        have u1 := X1h dq osq
        generalize Go.Sort.grow (redrawn wr dq) osq = w5 at hb5r z0 z1 u0 u1 ⊢
        have HB5 := Lib.hid (HB.out.trans (hb5r.mono hszr))
        clear hb5r y0 y1 X0 X1h Y0 Y1
        go_wp2
        go_ret2
        rw [HV.out]
        exact ⟨rfl, HBA.out.trans (HB5.out.mono hszA)⟩
    · obtain rfl : k = s.length := by omega
      have hv : mocS B xs s 0 = some m := by rw [HM0.out, List.drop_length]; rfl
      have HV := Lib.hid hv
      have hblk := (hbl.block w.heap.size (by omega)).trans HBLKA.out
      have y0 : wr.cell? ⟨w.heap.size, 0, none⟩ = some (.int .i64 B) := by rw [cell_of_row wr _ 0 _ _ _ hblk]; rfl
      have y1 : wr.cell? ⟨w.heap.size, 1, none⟩ = some (.slice ad xs.length c) := by rw [cell_of_row wr _ 1 _ _ _ hblk]; rfl
      clear hblk hbl hv
      go_wp2_with fail
      refine (HREG.out wr (HC.out.below (HBA.out.trans (HB.out.mono hszA)))).mono ?_
      rintro e w5 ⟨rfl, hb5⟩
      have HB5 := Lib.hid (HB.out.trans (hb5.mono hszr))
      clear hb5
      go_wp2
      go_ret2
      rw [HV.out]
      exact ⟨rfl, HBA.out.trans (HB5.out.mono hszA)⟩

end Go.Proofs.YtajmdgcnnipdoaaGreatDoor
