/- FFS: the walks of the reference's IsTiling over a region, IsFaultFree, l15All, FindFaultFree and CountFaultFree. -/
import Derived.Test.YtajmdgcnnipdoaaGreatDoorAllFFI
import Derived.Test.YtajmdgcnnipdoaaGreatDoorAllSS
import Derived.Deep.DrawnRows
namespace Go.Proofs.YtajmdgcnnipdoaaGreatDoor
open Go.RowKit

attribute [local go_sem ↓] Go.wp_at_zero Go.wp_at_succ

set_option maxRecDepth 100000 in
set_option maxHeartbeats 3200000 in
theorem specTil (b : Int) (ad : Option Addr) (c : Nat) (xs : List Int) (sa : Option Addr) (cs : Nat) (ps : List (List Cl)) (al : Option Addr) (cl : Nat) (l : List Int) (w : World) (hn : xs.length ≤ 1048576) (hnp : ps.length ≤ 1048576) (hl : ∀ p ∈ ps, p.length ≤ 1048576) (hnl : l.length ≤ 1048576) (hc : CellsAt w ad (ints xs)) (hcp : ShpsAt w sa ps) (hcl : CellsAt w al (ints l)) :
    Calls Tryz.prog 14 #[.agg #[.int .i64 b, .slice ad xs.length c], .slice sa ps.length cs, .slice al l.length cl] w fun e w' => e = .returned (.bool (tilR b xs ps l)) ∧ Below w.heap.size w w' := by
  have HCL := Lib.hid hcl
  clear hcl
  have HREG := Lib.hid (fun w' h => specReg b ad c xs w' hn h)
  have HPC := Lib.hid (fun w' h => specPieces sa cs ps w' hnp hl h)
  have HC := Lib.hid hc
  have HCP := Lib.hid hcp
  clear hc hcp hl
  obtain ⟨wA, hwA⟩ : ∃ wA, wA = w.alloc (.cells #[.int .i64 b, .slice ad xs.length c] 26) := ⟨_, rfl⟩
  have hbA : Below w.heap.size w wA := by rw [hwA]; exact (Below.refl _ _).alloc (Nat.le_refl _) _
  have hzA : wA.heap.size = w.heap.size + 1 := by rw [hwA]; simp
  have hblkA : wA.heap[w.heap.size]? = some (.cells #[.int .i64 b, .slice ad xs.length c] 26 (0, 0)) := by rw [hwA]; exact heap_alloc_new w _
  have HBA := Lib.hid hbA
  have HBLKA := Lib.hid hblkA
  have HWA := Lib.hid hwA
  have hszA := hbA.size
  clear hbA hblkA hwA
  by_cases hr : Reg b xs
  · by_cases hp : Pcs ps
    · have hbn : b = (b.toNat : Int) := by have := hr.1.1; omega
      obtain ⟨B, hB⟩ : ∃ B, B = b.toNat := ⟨_, rfl⟩
      rw [← hB] at hbn
      rw [decide_eq_true hr] at HREG
      rw [decide_eq_true hp] at HPC
      have hrB : Reg (B : Int) xs := by rw [← hbn]; exact hr
      have hal0 := fun w' h1 h2 => specAll B ad c xs sa cs ps w' hrB hp h1 h2
      have hmk0 := fun w' h1 => specMask B ad c xs w' hrB h1
      rw [← hbn] at hal0 hmk0
      have HAL := Lib.hid hal0
      have HMK := Lib.hid hmk0
      have hlen := allL_length hrB hp
      have HSM := Lib.hid (allL_mk hrB hp)
      have hml : regMask b xs < 68719476736 := by have := regMask_lt hr; omega
      have hf : tilR b xs ps l = covL (allL B xs ps) (regMask b xs) l := by rw [hbn]; exact tilR_yes hrB hp
      rw [hf]
      clear hal0 hmk0 hrB hr hp hbn hB hf
      generalize allL B xs ps = A at HAL hlen HSM ⊢
      generalize regMask b xs = n1 at HMK hml ⊢
      have hlA : A.length ≤ 1048576 := by omega
      go_enter Tryz.func14, Tryz.ntmps14
      go_wp2_with fail
      rw [← HWA.out]
      refine (HREG.out wA (HC.out.below HBA.out)).mono ?_
      rintro e w1 ⟨rfl, hb1⟩
      have HB1 := Lib.hid (HBA.out.trans (hb1.mono hszA))
      have HBX1 := Lib.hid hb1
      have hsz1 := HB1.out.size
      have hs1A := hb1.size
      clear hb1
      go_wp2_with fail
      refine (HPC.out w1 (HCP.out.below HB1.out)).mono ?_
      rintro e w2 ⟨rfl, hb2⟩
      have HB2 := Lib.hid (HB1.out.trans (hb2.mono hsz1))
      have HBX2 := Lib.hid (HBX1.out.trans (hb2.mono hs1A))
      have hsz2 := HB2.out.size
      have hs2A := HBX2.out.size
      clear hb2
      have hblk2 := (HBX2.out.block w.heap.size (by omega)).trans HBLKA.out
      have x20 : w2.cell? ⟨w.heap.size, 0, none⟩ = some (.int .i64 b) := by rw [cell_of_row w2 _ 0 _ _ _ hblk2]; rfl
      have x21 : w2.cell? ⟨w.heap.size, 1, none⟩ = some (.slice ad xs.length c) := by rw [cell_of_row w2 _ 1 _ _ _ hblk2]; rfl
      clear hblk2
      go_wp2_with fail
      refine (HAL.out w2 (HC.out.below HB2.out) (HCP.out.below HB2.out)).mono ?_
      rintro e w3 ⟨aa, ca, rfl, ho3, hb3⟩
      have HB3 := Lib.hid (HB2.out.trans (hb3.mono hsz2))
      have HB3X := Lib.hid (HBX2.out.trans (hb3.mono hs2A))
      have hsz3 := HB3.out.size
      have hs3A := HB3X.out.size
      have HAW := Lib.hid (ownsRow_cellsAt ho3)
      have HLW := Lib.hid (HCL.out.below HB3.out)
      clear hb3 ho3 x20 x21
      go_wp2
      go_loopw [8, 9] (fun uv i wr => ∃ k U : Nat, k ≤ l.length ∧ i = .int .i64 k ∧ uv = .int .i64 U ∧ U = usedTo l k ∧ U < 68719476736 ∧ covTo A l k = true ∧ Below w3.heap.size w3 wr) (fun _ i _ => l.length - (intOf i).toNat)
      case atStart => exact ⟨0, 0, Nat.zero_le _, rfl, rfl, rfl, by decide, rfl, Below.refl _ _⟩
      case round =>
        obtain ⟨k, U, hk, rfl, rfl, hU, hUl, hap, hb⟩ := hrel
        have HAP := Lib.hid hap
        have HB := Lib.hid hb
        have HUU := Lib.hid hU
        have hszr := hb.size
        clear hap hb hU
        by_cases hlt : k < l.length
        · obtain ⟨g, off, rfl, hg, hcc⟩ := HLW.out.open (by rw [ints_length]; omega)
          have x0 := (HB.out.cell (p := ⟨g, off + k, none⟩) hg).trans (hcc k _ (ints_at l k hlt))
          have i1 : (k : Int) < (l.length : Int) := by omega
          have hst0 := covStep_at A l k hlt
          have hnx0 := usedTo_at l k hlt
          rw [← HUU.out] at hst0 hnx0
          have HHC0 := Lib.hid (fun w' h => spec7Has aa ca A l[k] w' hlA h)
          have HST := Lib.hid hst0
          have HNX := Lib.hid hnx0
          clear hst0 hnx0
          have hjs : ∀ j, k = j + 1 → ∃ h : j < l.length, l.getD (k - 1) 0 = l[j] ∧ l[j] ∈ A ∧ ∀ i, l[j].toNat.testBit i = true → U.testBit i = true := fun j hj => by
            have hjl : j < l.length := by omega
            have hc := HAP.out
            rw [hj] at hc
            obtain ⟨c1, c2⟩ := cov_prev hc hjl
            rw [← hj, ← HUU.out] at c2
            exact ⟨hjl, by rw [hj, Nat.add_sub_cancel, getD_at l j hjl], c1, c2⟩
          have HJS := Lib.hid hjs
          clear hjs
          generalize l[k] = v at x0 HHC0 HST HNX
          by_cases hin : v ∈ A
          · have hsm := HSM.out _ hin
            have HHC := HHC0
            rw [decide_eq_true hin] at HHC HST
            clear HHC0
            obtain ⟨u, rfl⟩ : ∃ u : Nat, v = (u : Int) := ⟨v.toNat, by have := hsm.1; omega⟩
            have hu0 : 0 < u := by have := hsm.1; omega
            have hu : u < 68719476736 := by have := hsm.2; omega
            rw [Int.toNat_natCast] at HST HNX
            have hand := i64_and_nat U u (by omega) (by omega)
            have hor := i64_or_nat U u (by omega) (by omega)
            have hm0 : U ||| u < 68719476736 := Nat.or_lt_two_pow (n := 36) hUl hu
            obtain ⟨q, hq⟩ : ∃ q, q = U &&& u := ⟨_, rfl⟩
            obtain ⟨m2, hm2⟩ : ∃ m2, m2 = U ||| u := ⟨_, rfl⟩
            rw [← hm2] at hor hm0 HNX
            rw [← hq] at hand HST
            have HLT := Lib.hid hm0
            have HQ := Lib.hid hq
            clear hq hm2 hin hsm hm0
            by_cases hz : q = 0
            · subst hz
              have hz1 : (((0 : Nat) : Int) != 0) = false := rfl
              rcases Nat.eq_zero_or_pos k with h0 | h0
              · have g0 : decide ((0 : Int) < (k : Int)) = false := decide_eq_false (by omega)
                have g0n : decide (0 < k) = false := decide_eq_false (by omega)
                clear HJS HQ
                have hap2 : covTo A l (k + 1) = true := by rw [covTo, HAP.out, HST.out]; simp [h0]
                have HAP2 := Lib.hid hap2
                clear hap2
                clear h0 hu hu0
                have X0 := cell_regrown x0
                have HCALL := Lib.hid (fun d os => Calls.regrown_of (d := d) (os := os) (HHC.out (Go.Sort.grow (redrawn wr d) os) (HAW.out.below (HB.out.trans ((below_regrown wr d os).mono hszr)))))
                clear x0
                go_wp2
                refine wp_region_quiet_below (by kernel_rfl) (by kernel_rfl) ?_
                repeat (go_big_quiet_step (exact HCALL.out _ _))
                refine wpQuiet_nil ?_
                intro _ hw'
                obtain ⟨⟨dq, osq⟩, hw''⟩ := hw'
                subst hw''
                have hb5r := below_regrown wr dq osq
                have x0 := X0 dq osq
                generalize Go.Sort.grow (redrawn wr dq) osq = w5 at hb5r x0 ⊢
                have HB5 := Lib.hid (HB.out.trans (hb5r.mono hszr))
                clear hb5r X0
                go_wp2
                go_roundw
                case rel => exact ⟨k + 1, m2, by omega, by go_num, rfl, HNX.out, HLT.out, HAP2.out, HB5.out⟩
                case measure => simp [intOf]; omega
              · obtain ⟨j, hj⟩ : ∃ j, k = j + 1 := ⟨k - 1, by omega⟩
                obtain ⟨hjl, hpj, hpA, hpU⟩ := HJS.out j hj
                have g0 : decide ((0 : Int) < (k : Int)) = true := decide_eq_true (by omega)
                have g0n : decide (0 < k) = true := decide_eq_true (by omega)
                have tk : wrap64 ((k : Int) - 1) = (j : Int) := by rw [hj]; push_cast; rw [Int.add_sub_cancel]; exact wrap_nat (by omega)
                have tk2 : IntKind.i64.wrap ((k : Int) - 1) = (j : Int) := by rw [IntWalk.i64_left]; exact tk
                have i2 : (j : Int) < (l.length : Int) := by omega
                rw [hpj] at HST
                have x1 := (HB.out.cell (p := ⟨g, off + j, none⟩) hg).trans (hcc j _ (ints_at l j hjl))
                have hsm := HSM.out _ hpA
                clear hpj HJS hpA
                generalize l[j] = pv at x1 HST hsm hpU
                obtain ⟨p, rfl⟩ : ∃ p : Nat, pv = (p : Int) := ⟨pv.toNat, by have := hsm.1; omega⟩
                have hp0 : 0 < p := by have := hsm.1; omega
                have hp : p < 68719476736 := by have := hsm.2; omega
                rw [Int.toNat_natCast] at HST hpU
                have hne := low_ne hp0 (Nat.lt_trans hp (by decide)) hu0 (Nat.lt_trans hu (by decide)) hpU HQ.out.symm
                have hl1 := low_lt hp0 (Nat.lt_trans hp (by decide))
                have hl2 := low_lt hu0 (Nat.lt_trans hu (by decide))
                have HLOWp := Lib.hid (fun w' => specLow p w' (by omega) (by omega))
                have HLOWu := Lib.hid (fun w' => specLow u w' (by omega) (by omega))
                have HJ := Lib.hid hj
                have hk0 : ¬ k = 0 := by omega
                clear hj hsm hpU hp0 hp hu0 hu HQ
                generalize lowB p = a at HLOWp HST hne hl1
                generalize lowB u = b at HLOWu HST hne hl2
                by_cases hpv : a < b
                · have gv : decide ((b : Int) < (a : Int)) = false := decide_eq_false (by omega)
                  have gvn : decide (b < a) = false := decide_eq_false (by omega)
                  have hap2 : covTo A l (k + 1) = true := by rw [covTo, HAP.out, HST.out]; simp [hpv]
                  have HAP2 := Lib.hid hap2
                  clear hap2
                  clear hpv hk0 hne
                  have X0 := cell_regrown x0
                  have X1 := cell_regrown x1
                  have HLP := Lib.hid (fun d os => Calls.regrown_of (d := d) (os := os) (HLOWp.out (Go.Sort.grow (redrawn wr d) os)))
                  have HLU := Lib.hid (fun d os => Calls.regrown_of (d := d) (os := os) (HLOWu.out (Go.Sort.grow (redrawn wr d) os)))
                  have HCALL := Lib.hid (fun d os => Calls.regrown_of (d := d) (os := os) (HHC.out (Go.Sort.grow (redrawn wr d) os) (HAW.out.below (HB.out.trans ((below_regrown wr d os).mono hszr)))))
                  clear x0 x1
                  go_wp2
                  refine wp_region_quiet_below (by kernel_rfl) (by kernel_rfl) ?_
                  repeat (go_big_quiet_step ((go_at_call 68; exact HCALL.out _ _)))
                  go_big_quiet_step (exact HLU.out _ _)
                  repeat (go_big_quiet_step (fail))
                  go_big_quiet_step (exact HLP.out _ _)
                  repeat (go_big_quiet_step (fail))
                  refine wpQuiet_nil ?_
                  intro _ hw'
                  obtain ⟨⟨dq, osq⟩, hw''⟩ := hw'
                  subst hw''
                  have hb5r := below_regrown wr dq osq
                  have x0 := X0 dq osq
                  generalize Go.Sort.grow (redrawn wr dq) osq = w5 at hb5r x0 ⊢
                  have HB5 := Lib.hid (HB.out.trans (hb5r.mono hszr))
                  clear hb5r X0 X1
                  go_wp2
                  go_roundw
                  case rel => exact ⟨k + 1, m2, by omega, by go_num, rfl, HNX.out, HLT.out, HAP2.out, HB5.out⟩
                  case measure => simp [intOf]; omega
                · have gv : decide ((b : Int) < (a : Int)) = true := decide_eq_true (by omega)
                  have gvn : decide (b < a) = true := decide_eq_true (by omega)
                  have hst := HST.out
                  rw [decide_eq_false hpv, decide_eq_false hk0] at hst
                  have HV := Lib.hid (covTo_false (l := l) (A := A) (by rw [covTo, HAP.out, hst]; rfl : covTo A l (k + 1) = false) (by omega : k + 1 ≤ l.length))
                  clear hst
                  clear hpv hk0 hne
                  have X0 := cell_regrown x0
                  have X1 := cell_regrown x1
                  have HLP := Lib.hid (fun d os => Calls.regrown_of (d := d) (os := os) (HLOWp.out (Go.Sort.grow (redrawn wr d) os)))
                  have HLU := Lib.hid (fun d os => Calls.regrown_of (d := d) (os := os) (HLOWu.out (Go.Sort.grow (redrawn wr d) os)))
                  have HCALL := Lib.hid (fun d os => Calls.regrown_of (d := d) (os := os) (HHC.out (Go.Sort.grow (redrawn wr d) os) (HAW.out.below (HB.out.trans ((below_regrown wr d os).mono hszr)))))
                  clear x0 x1
                  go_wp2
                  refine wp_region_quiet_below (by kernel_rfl) (by kernel_rfl) ?_
                  repeat (go_big_quiet_step ((go_at_call 68; exact HCALL.out _ _)))
                  go_big_quiet_step (exact HLU.out _ _)
                  repeat (go_big_quiet_step (fail))
                  go_big_quiet_step (exact HLP.out _ _)
                  repeat (go_big_quiet_step (fail))
                  refine wpQuiet_nil ?_
                  intro _ hw'
                  obtain ⟨⟨dq, osq⟩, hw''⟩ := hw'
                  subst hw''
                  have hb5r := below_regrown wr dq osq
                  have x0 := X0 dq osq
                  generalize Go.Sort.grow (redrawn wr dq) osq = w5 at hb5r x0 ⊢
                  have HB5 := Lib.hid (HB.out.trans (hb5r.mono hszr))
                  clear hb5r X0 X1
                  go_wp2
                  go_ret
                  rw [covL_false HV.out]
                  exact ⟨rfl, HB3.out.trans (HB5.out.mono hsz3)⟩
            · have hz1 : ((q : Int) != 0) = true := by simp; omega
              have hst := HST.out
              rw [decide_eq_false hz] at hst
              have HV := Lib.hid (covTo_false (l := l) (A := A) (by rw [covTo, HAP.out, hst]; rfl : covTo A l (k + 1) = false) (by omega : k + 1 ≤ l.length))
              clear hst
              clear hz HJS HQ
              have X0 := cell_regrown x0
              have HCALL := Lib.hid (fun d os => Calls.regrown_of (d := d) (os := os) (HHC.out (Go.Sort.grow (redrawn wr d) os) (HAW.out.below (HB.out.trans ((below_regrown wr d os).mono hszr)))))
              clear x0
              go_wp2
              refine wp_region_quiet_below (by kernel_rfl) (by kernel_rfl) ?_
              repeat (go_big_quiet_step (exact HCALL.out _ _))
              refine wpQuiet_nil ?_
              intro _ hw'
              obtain ⟨⟨dq, osq⟩, hw''⟩ := hw'
              subst hw''
              have hb5r := below_regrown wr dq osq
              have x0 := X0 dq osq
              generalize Go.Sort.grow (redrawn wr dq) osq = w5 at hb5r x0 ⊢
              have HB5 := Lib.hid (HB.out.trans (hb5r.mono hszr))
              clear hb5r X0
              go_wp2
              go_ret
              rw [covL_false HV.out]
              exact ⟨rfl, HB3.out.trans (HB5.out.mono hsz3)⟩
          · have HHC := HHC0
            rw [decide_eq_false hin] at HHC HST
            clear HHC0 HJS hin
            have HV := Lib.hid (covTo_false (l := l) (A := A) (by rw [covTo, HAP.out, HST.out]; rfl : covTo A l (k + 1) = false) (by omega : k + 1 ≤ l.length))
            have X0 := cell_regrown x0
            have HCALL := Lib.hid (fun d os => Calls.regrown_of (d := d) (os := os) (HHC.out (Go.Sort.grow (redrawn wr d) os) (HAW.out.below (HB.out.trans ((below_regrown wr d os).mono hszr)))))
            clear x0
            go_wp2
            refine wp_region_quiet_below (by kernel_rfl) (by kernel_rfl) ?_
            repeat (go_big_quiet_step (exact HCALL.out _ _))
            refine wpQuiet_nil ?_
            intro _ hw'
            obtain ⟨⟨dq, osq⟩, hw''⟩ := hw'
            subst hw''
            have hb5r := below_regrown wr dq osq
            have x0 := X0 dq osq
            generalize Go.Sort.grow (redrawn wr dq) osq = w5 at hb5r x0 ⊢
            have HB5 := Lib.hid (HB.out.trans (hb5r.mono hszr))
            clear hb5r X0
            go_wp2
            go_ret
            rw [covL_false HV.out]
            exact ⟨rfl, HB3.out.trans (HB5.out.mono hsz3)⟩
        · obtain rfl : k = l.length := by omega
          have z0 := ((HB3X.out.trans (HB.out.mono hs3A)).block w.heap.size (by omega)).trans HBLKA.out
          have x0 : wr.cell? ⟨w.heap.size, 0, none⟩ = some (.int .i64 b) := by rw [cell_of_row wr _ 0 _ _ _ z0]; rfl
          have x1 : wr.cell? ⟨w.heap.size, 1, none⟩ = some (.slice ad xs.length c) := by rw [cell_of_row wr _ 1 _ _ _ z0]; rfl
          have HMKW := Lib.hid (HMK.out wr (HC.out.below (HB3.out.trans (HB.out.mono hsz3))))
          clear z0
          by_cases hun : U = n1
          · have HV := Lib.hid (show covL A n1 l = true from by unfold covL; rw [HAP.out, ← HUU.out, decide_eq_true hun]; rfl)
            subst hun
            have he : ((U : Int) == (U : Int)) = true := by simp
            go_wp2_with fail
            refine HMKW.out.mono ?_
            rintro e w7 ⟨rfl, hb7⟩
            have HB7 := Lib.hid (HB.out.trans (hb7.mono hszr))
            clear hb7
            go_wp2
            go_ret
            rw [HV.out]
            exact ⟨by first | rfl | simp, HB3.out.trans (HB7.out.mono hsz3)⟩
          · have HV := Lib.hid (show covL A n1 l = false from by unfold covL; rw [HAP.out, ← HUU.out, decide_eq_false hun]; rfl)
            have he : ((U : Int) == (n1 : Int)) = false := by simp; omega
            have hen : (U == n1) = false := by simp; omega
            clear hun
            go_wp2_with fail
            refine HMKW.out.mono ?_
            rintro e w7 ⟨rfl, hb7⟩
            have HB7 := Lib.hid (HB.out.trans (hb7.mono hszr))
            clear hb7
            go_wp2
            go_ret
            rw [HV.out]
            exact ⟨by first | rfl | simp, HB3.out.trans (HB7.out.mono hsz3)⟩
    · rw [decide_eq_true hr] at HREG
      rw [decide_eq_false hp] at HPC
      rw [tilR_no (fun q => hp q.2)]
      clear hr hp
      go_enter Tryz.func14, Tryz.ntmps14
      go_wp2_with fail
      rw [← HWA.out]
      refine (HREG.out wA (HC.out.below HBA.out)).mono ?_
      rintro e w1 ⟨rfl, hb1⟩
      have HB1 := Lib.hid (HBA.out.trans (hb1.mono hszA))
      have HBX1 := Lib.hid hb1
      have hsz1 := HB1.out.size
      have hs1A := hb1.size
      clear hb1
      go_wp2_with fail
      refine (HPC.out w1 (HCP.out.below HB1.out)).mono ?_
      rintro e w2 ⟨rfl, hb2⟩
      have HB2 := Lib.hid (HB1.out.trans (hb2.mono hsz1))
      have HBX2 := Lib.hid (HBX1.out.trans (hb2.mono hs1A))
      have hsz2 := HB2.out.size
      have hs2A := HBX2.out.size
      clear hb2
      go_wp2
      go_ret
      exact ⟨rfl, HB2.out⟩
  · rw [decide_eq_false hr] at HREG
    rw [tilR_no (fun q => hr q.1)]
    clear hr
    go_enter Tryz.func14, Tryz.ntmps14
    go_wp2_with fail
    rw [← HWA.out]
    refine (HREG.out wA (HC.out.below HBA.out)).mono ?_
    rintro e w1 ⟨rfl, hb1⟩
    have HB1 := Lib.hid (HBA.out.trans (hb1.mono hszA))
    have HBX1 := Lib.hid hb1
    have hsz1 := HB1.out.size
    have hs1A := hb1.size
    clear hb1
    go_wp2
    go_ret
    exact ⟨rfl, HB1.out⟩

set_option maxRecDepth 100000 in
set_option maxHeartbeats 3200000 in
theorem specL15 (b : Int) (ad : Option Addr) (c : Nat) (xs : List Int) (sa : Option Addr) (cs : Nat) (ps : List (List Cl)) (w : World) (hn : xs.length ≤ 1048576) (hnp : ps.length ≤ 1048576) (hl : ∀ p ∈ ps, p.length ≤ 1048576) (hc : CellsAt w ad (ints xs)) (hcp : ShpsAt w sa ps) :
    Calls Tryz.prog 74 #[.agg #[.int .i64 b, .slice ad xs.length c], .slice sa ps.length cs] w fun e w' => ∃ ad' cap', e = .returned (.slice ad' ((regF b xs ps).take 500).length cap') ∧ OwnMat w' w.heap.size (.slice ad' ((regF b xs ps).take 500).length cap') ((regF b xs ps).take 500) ∧ Below w.heap.size w w' := by
  have HREG := Lib.hid (fun w' h => specReg b ad c xs w' hn h)
  have HPC := Lib.hid (fun w' h => specPieces sa cs ps w' hnp hl h)
  have HC := Lib.hid hc
  have HCP := Lib.hid hcp
  clear hc hcp hl
  obtain ⟨wA, hwA⟩ : ∃ wA, wA = w.alloc (.cells #[.int .i64 b, .slice ad xs.length c] 26) := ⟨_, rfl⟩
  have hbA : Below w.heap.size w wA := by rw [hwA]; exact (Below.refl _ _).alloc (Nat.le_refl _) _
  have hzA : wA.heap.size = w.heap.size + 1 := by rw [hwA]; simp
  have hblkA : wA.heap[w.heap.size]? = some (.cells #[.int .i64 b, .slice ad xs.length c] 26 (0, 0)) := by rw [hwA]; exact heap_alloc_new w _
  have HBA := Lib.hid hbA
  have HBLKA := Lib.hid hblkA
  have HWA := Lib.hid hwA
  have hszA := hbA.size
  clear hbA hblkA hwA
  by_cases hr : Reg b xs
  · by_cases hp : Pcs ps
    · have hbn : b = (b.toNat : Int) := by have := hr.1.1; omega
      obtain ⟨B, hB⟩ : ∃ B, B = b.toNat := ⟨_, rfl⟩
      rw [← hB] at hbn
      rw [decide_eq_true hr] at HREG
      rw [decide_eq_true hp] at HPC
      have hrB : Reg (B : Int) xs := by rw [← hbn]; exact hr
      have hal0 := fun w' h1 h2 => specAll B ad c xs sa cs ps w' hrB hp h1 h2
      have hmk0 := fun w' h1 => specMask B ad c xs w' hrB h1
      rw [← hbn] at hal0 hmk0
      have HAL := Lib.hid hal0
      have HMK := Lib.hid hmk0
      have hlen := allL_length hrB hp
      have HSM := Lib.hid (allL_mk hrB hp)
      have hml : regMask b xs < 68719476736 := by have := regMask_lt hr; omega
      have hf : regF b xs ps = srchF (allL B xs ps) (regMask b xs) (regMask b xs) := by rw [hbn]; exact regF_yes hrB hp
      rw [hf]
      clear hal0 hmk0 hrB hr hp hbn hB hf
      generalize allL B xs ps = A at HAL hlen HSM ⊢
      generalize regMask b xs = M at HMK hml ⊢
      have HCU := Lib.hid (fun aa ca w1 h1 => specSearch aa ca A (by omega) HSM.out M M 500 w1 (Nat.le_refl _) hml (by omega) (by omega) h1)
      generalize (srchF A M M).take 500 = T at HCU ⊢
      go_enter Tryz.func74, Tryz.ntmps74
      go_wp2_with fail
      rw [← HWA.out]
      refine (HREG.out wA (HC.out.below HBA.out)).mono ?_
      rintro e w1 ⟨rfl, hb1⟩
      have HB1 := Lib.hid (HBA.out.trans (hb1.mono hszA))
      have HBX1 := Lib.hid hb1
      have hsz1 := HB1.out.size
      have hs1A := hb1.size
      clear hb1
      go_wp2_with fail
      refine (HPC.out w1 (HCP.out.below HB1.out)).mono ?_
      rintro e w2 ⟨rfl, hb2⟩
      have HB2 := Lib.hid (HB1.out.trans (hb2.mono hsz1))
      have HBX2 := Lib.hid (HBX1.out.trans (hb2.mono hs1A))
      have hsz2 := HB2.out.size
      have hs2A := HBX2.out.size
      clear hb2
      have hblk2 := (HBX2.out.block w.heap.size (by omega)).trans HBLKA.out
      have x20 : w2.cell? ⟨w.heap.size, 0, none⟩ = some (.int .i64 b) := by rw [cell_of_row w2 _ 0 _ _ _ hblk2]; rfl
      have x21 : w2.cell? ⟨w.heap.size, 1, none⟩ = some (.slice ad xs.length c) := by rw [cell_of_row w2 _ 1 _ _ _ hblk2]; rfl
      clear hblk2
      have hwlt : w.heap.size < w2.heap.size := by omega
      have HC1 := Lib.hid (HC.out.below HB2.out)
      have HCP1 := Lib.hid (HCP.out.below HB2.out)
      go_wp2
      go_region_held3 (fun w' => w'.cell? ⟨w.heap.size, 0, none⟩ = some (.int .i64 b) ∧ w'.cell? ⟨w.heap.size, 1, none⟩ = some (.slice ad xs.length c)) (first | (go_keep; done) | exact ⟨((hb3'.trans (hb4'.mono hsz3)).cell (p := ⟨w.heap.size, 0, none⟩) (by show w.heap.size < _; omega)).trans x20, ((hb3'.trans (hb4'.mono hsz3)).cell (p := ⟨w.heap.size, 1, none⟩) (by show w.heap.size < _; omega)).trans x21⟩ | exact ⟨(hb3'.cell (p := ⟨w.heap.size, 0, none⟩) (by show w.heap.size < _; omega)).trans x20, (hb3'.cell (p := ⟨w.heap.size, 1, none⟩) (by show w.heap.size < _; omega)).trans x21⟩ | exact ⟨((hb3'.trans ((hb4'.trans (hb5'.mono hsz4)).mono hsz3)).cell (p := ⟨w.heap.size, 0, none⟩) (by show w.heap.size < _; omega)).trans x20, ((hb3'.trans ((hb4'.trans (hb5'.mono hsz4)).mono hsz3)).cell (p := ⟨w.heap.size, 1, none⟩) (by show w.heap.size < _; omega)).trans x21⟩)
        (first
          | (go_at_call 67; refine (HAL.out _ (by exact HC1.out) (by exact HCP1.out)).mono ?_; rintro e w3 ⟨a3, c3, rfl, ho3, hb3⟩; have hb3' : Below w2.heap.size w2 w3 := (by first | exact hb3 | exact (Below.refl _ _).drew.trans hb3); have hsz3 := hb3'.size; have HA3 := Lib.hid (ownsRow_cellsAt ho3); have HC3 := Lib.hid (HC1.out.below hb3'))
          | (go_at_call 70; refine (HMK.out _ (by exact HC3.out)).mono ?_; rintro e w4 ⟨rfl, hb4⟩; have hb4' : Below w3.heap.size w3 w4 := (by first | exact hb4 | exact (Below.refl _ _).drew.trans hb4); have hsz4 := hb4'.size; have HA4 := Lib.hid (HA3.out.below hb4'))
          | (go_at_call 101; refine (HCU.out a3 c3 _ (by exact HA4.out)).mono ?_; rintro e w5 ⟨a5, c5, rfl, hm5, hb5⟩; have hb5' : Below w4.heap.size w4 w5 := (by first | exact hb5 | exact (Below.refl _ _).drew.trans hb5); have hm5' : OwnMat w5 w4.heap.size _ _ := hm5))
      have HB5 := Lib.hid (HB2.out.trans ((hb3'.trans ((hb4'.trans (hb5'.mono hsz4)).mono hsz3)).mono hsz2))
      have HM5 := Lib.hid (hm5'.rebase (show w.heap.size ≤ w4.heap.size by omega))
      clear hm5' hb3' hb4' hb5' x20 x21
      go_wp2
      go_ret
      exact ⟨a5, c5, rfl, HM5.out, HB5.out⟩
    · rw [decide_eq_true hr] at HREG
      rw [decide_eq_false hp] at HPC
      rw [regF_no (fun q => hp q.2), show ([] : List (List Int)).take 500 = [] from rfl]
      clear hr hp
      go_enter Tryz.func74, Tryz.ntmps74
      go_wp2_with fail
      rw [← HWA.out]
      refine (HREG.out wA (HC.out.below HBA.out)).mono ?_
      rintro e w1 ⟨rfl, hb1⟩
      have HB1 := Lib.hid (HBA.out.trans (hb1.mono hszA))
      have HBX1 := Lib.hid hb1
      have hsz1 := HB1.out.size
      have hs1A := hb1.size
      clear hb1
      go_wp2_with fail
      refine (HPC.out w1 (HCP.out.below HB1.out)).mono ?_
      rintro e w2 ⟨rfl, hb2⟩
      have HB2 := Lib.hid (HB1.out.trans (hb2.mono hsz1))
      have HBX2 := Lib.hid (HBX1.out.trans (hb2.mono hs1A))
      have hsz2 := HB2.out.size
      have hs2A := HBX2.out.size
      clear hb2
      have HE := Lib.hid (ownsRow_rebase (ownsRow_empty w2 24 1) hsz2)
      go_wp2
      go_ret
      exact ⟨_, _, rfl, ⟨[], HE.out, RowsIn.nil _ _⟩, HB2.out.alloc hsz2 _⟩
  · rw [decide_eq_false hr] at HREG
    rw [regF_no (fun q => hr q.1), show ([] : List (List Int)).take 500 = [] from rfl]
    clear hr
    go_enter Tryz.func74, Tryz.ntmps74
    go_wp2_with fail
    rw [← HWA.out]
    refine (HREG.out wA (HC.out.below HBA.out)).mono ?_
    rintro e w1 ⟨rfl, hb1⟩
    have HB1 := Lib.hid (HBA.out.trans (hb1.mono hszA))
    have HBX1 := Lib.hid hb1
    have hsz1 := HB1.out.size
    have hs1A := hb1.size
    clear hb1
    have HE := Lib.hid (ownsRow_rebase (ownsRow_empty w1 24 1) hsz1)
    go_wp2
    go_ret
    exact ⟨_, _, rfl, ⟨[], HE.out, RowsIn.nil _ _⟩, HB1.out.alloc hsz1 _⟩

theorem regT_facts (b : Int) (xs : List Int) (ps : List (List Cl)) : ∀ l ∈ (regF b xs ps).take 500, (∀ v ∈ l, (Lit.int .i64 v).wf = true) ∧ l.length ≤ 36 := by
  intro l hl
  have hm := List.mem_of_mem_take hl
  refine ⟨?_, regF_len b xs ps l hm⟩
  by_cases h : Reg b xs ∧ Pcs ps
  · obtain ⟨hr, hp⟩ := h
    obtain ⟨B, rfl⟩ := Int.eq_ofNat_of_zero_le (by have := hr.1.1; omega : 0 ≤ b)
    rw [regF_yes hr hp] at hm
    exact srchF_wf (allL_mk hr hp) _ _ l hm
  · rw [regF_no h] at hm
    simp at hm

set_option maxRecDepth 100000 in
set_option maxHeartbeats 3200000 in
theorem specFFF (b : Int) (ad : Option Addr) (c : Nat) (xs : List Int) (sa : Option Addr) (cs : Nat) (ps : List (List Cl)) (w : World) (hn : xs.length ≤ 1048576) (hnp : ps.length ≤ 1048576) (hl : ∀ p ∈ ps, p.length ≤ 1048576) (hc : CellsAt w ad (ints xs)) (hcp : ShpsAt w sa ps) :
    Calls Tryz.prog 17 #[.agg #[.int .i64 b, .slice ad xs.length c], .slice sa ps.length cs] w (FoundAt w (ffL b xs ps)) := by
  have HC := Lib.hid hc
  have HCP := Lib.hid hcp
  clear hc hcp
  unfold FoundAt
  obtain ⟨T, hT⟩ : ∃ T, T = (regF b xs ps).take 500 := ⟨_, rfl⟩
  have hfacts := regT_facts b xs ps
  have hT500 : T.length ≤ 500 := by rw [hT, List.length_take]; exact Nat.min_le_left _ _
  have hff : ffL b xs ps = ffTo b xs T T.length := by rw [hT]; rfl
  rw [← hT] at hfacts
  have hlx0 := fun w' h1 h2 => specL15 b ad c xs sa cs ps w' hn hnp hl h1 h2
  rw [← hT] at hlx0
  have HLX := Lib.hid hlx0
  have HFACT := Lib.hid hfacts
  rw [hff]
  clear hfacts hT hff hlx0 hl
  obtain ⟨wA, hwA⟩ : ∃ wA, wA = w.alloc (.cells #[.int .i64 b, .slice ad xs.length c] 26) := ⟨_, rfl⟩
  have hbA : Below w.heap.size w wA := by rw [hwA]; exact (Below.refl _ _).alloc (Nat.le_refl _) _
  have hzA : wA.heap.size = w.heap.size + 1 := by rw [hwA]; simp
  have hblkA : wA.heap[w.heap.size]? = some (.cells #[.int .i64 b, .slice ad xs.length c] 26 (0, 0)) := by rw [hwA]; exact heap_alloc_new w _
  have HBA := Lib.hid hbA
  have HBLKA := Lib.hid hblkA
  have HWA := Lib.hid hwA
  have hszA := hbA.size
  clear hbA hblkA hwA
  go_enter Tryz.func17, Tryz.ntmps17
  go_wp2_with fail
  rw [← HWA.out]
  refine (HLX.out wA (HC.out.below HBA.out) (HCP.out.below HBA.out)).mono ?_
  rintro e w5 ⟨a5, c5, rfl, hm5, hb5⟩
  have HB5 := Lib.hid (HBA.out.trans (hb5.mono hszA))
  have hb5A : Below wA.heap.size wA w5 := hb5
  have HO5 := Lib.hid (hm5.rebase (show w.heap.size ≤ wA.heap.size by omega))
  have hsz5 := HB5.out.size
  have hs5A := hb5A.size
  have HBLK5 := Lib.hid ((hb5A.block w.heap.size (by omega)).trans HBLKA.out)
  have HC5 := Lib.hid (HC.out.below HB5.out)
  clear hb5 hb5A hm5
  go_wp2
  go_loopw [7] (fun i wr => ∃ k : Nat, k ≤ T.length ∧ i = .int .i64 k ∧ ffTo b xs T k = [] ∧ Below w5.heap.size w5 wr) (fun i _ => T.length - (intOf i).toNat)
  case atStart => exact ⟨0, Nat.zero_le _, rfl, rfl, Below.refl _ _⟩
  case round =>
    obtain ⟨k, hk, rfl, hnone, hb⟩ := hrel
    have HN0 := Lib.hid hnone
    have HB := Lib.hid hb
    have hszr := hb.size
    clear hnone hb
    by_cases hlt : k < T.length
    · skip
      obtain ⟨g, ai, ci, rfl, ⟨_, hg⟩, y0, hrow⟩ := OwnMat.row HO5.out hlt
      have y1 := (HB.out.cell (p := ⟨g, k, none⟩) hg).trans y0
      have h36 := (HFACT.out _ (List.getElem_mem hlt)).2
      have hlk : T[k].length ≤ 1048576 := Nat.le_trans h36 (by decide)
      have hfl := fun w' h1 h2 => specFaults b ad ai c ci xs (T[k]'hlt) w' hn hlk (HFACT.out _ (List.getElem_mem hlt)).1 h1 h2
      have HYES := Lib.hid (ffTo_yes (b := b) (xs := xs) hlt)
      have HNO := Lib.hid (ffTo_no (b := b) (xs := xs) hlt)
      have HRW := Lib.hid hrow
      have HRC := Lib.hid ((ownsRow_cellsAt hrow).below HB.out)
      have HFL := Lib.hid hfl
      have z0 := (HB.out.block w.heap.size (by omega)).trans HBLK5.out
      have x0 : wr.cell? ⟨w.heap.size, 0, none⟩ = some (.int .i64 b) := by rw [cell_of_row wr _ 0 _ _ _ z0]; rfl
      have x1 : wr.cell? ⟨w.heap.size, 1, none⟩ = some (.slice ad xs.length c) := by rw [cell_of_row wr _ 1 _ _ _ z0]; rfl
      have i1 : (k : Int) < (T.length : Int) := by omega
      clear hfl hrow y0 z0 hlk
      have HPF := Lib.hid (ffTo_prefix b xs T (show k + 1 ≤ T.length from hlt))
      generalize T[k] = l at y1 h36 HFL HYES HNO HRW HRC
      generalize faultsL b xs l = fl at HFL HYES HNO
      have HCW := Lib.hid (HC5.out.below HB.out)
      go_wp2
      go_region_held3 (fun w' => w'.cell? ⟨w.heap.size, 0, none⟩ = some (.int .i64 b) ∧ w'.cell? ⟨w.heap.size, 1, none⟩ = some (.slice ad xs.length c) ∧ w'.cell? ⟨g, k, none⟩ = some (.slice ai l.length ci)) (first | (go_keep; done) | exact ⟨(hb6.cell (p := ⟨w.heap.size, 0, none⟩) (by show w.heap.size < _; omega)).trans x0, (hb6.cell (p := ⟨w.heap.size, 1, none⟩) (by show w.heap.size < _; omega)).trans x1, (hb6.cell (p := ⟨g, k, none⟩) (by show g < _; omega)).trans y1⟩)
        (first | (go_at_call 12; refine (HFL.out _ (by exact HCW.out) (by exact HRC.out)).mono ?_; rintro e w6 ⟨a6, c6, rfl, _, hb6⟩; have hb6 : Below wr.heap.size wr w6 := (by first | exact hb6 | exact (Below.refl _ _).drew.trans hb6)))
      have HB6 := Lib.hid (HB.out.trans (hb6.mono hszr))
      have hsz6 := HB6.out.size
      have hs6r := hb6.size
      have y6 := (hb6.cell (p := ⟨g, k, none⟩) (by show g < _; omega)).trans y1
      clear hb6 x0 x1 y1
      by_cases h0 : fl.length = 0
      · have e0 : ((fl.length : Int) == 0) = true := by simp [h0]
        have hy := HYES.out h0
        rw [HN0.out, List.nil_append] at hy
        have hpf := HPF.out
        rw [hy] at hpf
        obtain ⟨rest, hrest⟩ := hpf
        have HF1 := Lib.hid (show firstT (ffTo b xs T T.length) = l by rw [← hrest]; rfl)
        have HF2 := Lib.hid (show someT (ffTo b xs T T.length) = true by rw [← hrest]; rfl)
        have HR6 := Lib.hid (ownsRow_far_below HRW.out HB6.out (Nat.le_refl _))
        clear hy hrest HYES HNO h0
        go_wp2
        go_ret2
        rw [HF1.out, HF2.out]
        exact ⟨ai, ci, rfl, HR6.out, HB5.out.trans (HB6.out.mono hsz5)⟩
      · have e0 : ((fl.length : Int) == 0) = false := by rw [beq_eq_false_iff_ne]; omega
        have HN := Lib.hid (HNO.out h0)
        clear HYES HNO h0 y6
        go_wp2
        go_roundw
        case rel => exact ⟨k + 1, by omega, by go_num, by rw [HN.out]; exact HN0.out, HB6.out⟩
        case measure => simp [intOf]; omega
    · obtain rfl : k = T.length := by omega
      have HE := Lib.hid (ownsRow_rebase (ownsRow_empty wr 3 1) (show w.heap.size ≤ wr.heap.size by omega))
      go_wp2
      go_ret2
      rw [HN0.out]
      exact ⟨_, _, rfl, HE.out, (HB5.out.trans (HB.out.mono hsz5)).alloc (by omega) _⟩

set_option maxRecDepth 100000 in
set_option maxHeartbeats 3200000 in
theorem specCFF (b : Int) (ad : Option Addr) (c : Nat) (xs : List Int) (sa : Option Addr) (cs : Nat) (ps : List (List Cl)) (w : World) (hn : xs.length ≤ 1048576) (hnp : ps.length ≤ 1048576) (hl : ∀ p ∈ ps, p.length ≤ 1048576) (hc : CellsAt w ad (ints xs)) (hcp : ShpsAt w sa ps) :
    Calls Tryz.prog 19 #[.agg #[.int .i64 b, .slice ad xs.length c], .slice sa ps.length cs] w fun e w' => e = .returned (.int .i64 (cffR b xs ps)) ∧ Below w.heap.size w w' := by
  obtain ⟨T, hT⟩ : ∃ T, T = (regF b xs ps).take 500 := ⟨_, rfl⟩
  have hfacts := regT_facts b xs ps
  have hT500 : T.length ≤ 500 := by rw [hT, List.length_take]; exact Nat.min_le_left _ _
  have hff : ffL b xs ps = ffTo b xs T T.length := by rw [hT]; rfl
  rw [← hT] at hfacts
  have hlx0 := fun w' h1 h2 => specL15 b ad c xs sa cs ps w' hn hnp hl h1 h2
  rw [← hT] at hlx0
  have HLX := Lib.hid hlx0
  have HFACT := Lib.hid hfacts
  clear hfacts hT hlx0
  have HREG := Lib.hid (fun w' h => specReg b ad c xs w' hn h)
  have HPC := Lib.hid (fun w' h => specPieces sa cs ps w' hnp hl h)
  have HC := Lib.hid hc
  have HCP := Lib.hid hcp
  clear hc hcp hl
  obtain ⟨wA, hwA⟩ : ∃ wA, wA = w.alloc (.cells #[.int .i64 b, .slice ad xs.length c] 26) := ⟨_, rfl⟩
  have hbA : Below w.heap.size w wA := by rw [hwA]; exact (Below.refl _ _).alloc (Nat.le_refl _) _
  have hzA : wA.heap.size = w.heap.size + 1 := by rw [hwA]; simp
  have hblkA : wA.heap[w.heap.size]? = some (.cells #[.int .i64 b, .slice ad xs.length c] 26 (0, 0)) := by rw [hwA]; exact heap_alloc_new w _
  have HBA := Lib.hid hbA
  have HBLKA := Lib.hid hblkA
  have HWA := Lib.hid hwA
  have hszA := hbA.size
  clear hbA hblkA hwA
  by_cases hr : Reg b xs
  · by_cases hp : Pcs ps
    · rw [decide_eq_true hr] at HREG
      rw [decide_eq_true hp] at HPC
      have hv : cffR b xs ps = ((ffTo b xs T T.length).length : Nat) := by rw [← hff]; exact if_pos ⟨hr, hp⟩
      rw [hv]
      clear hr hp hv hff
      go_enter Tryz.func19, Tryz.ntmps19
      go_wp2_with fail
      rw [← HWA.out]
      refine (HREG.out wA (HC.out.below HBA.out)).mono ?_
      rintro e w1 ⟨rfl, hb1⟩
      have HB1 := Lib.hid (HBA.out.trans (hb1.mono hszA))
      have HBX1 := Lib.hid hb1
      have hsz1 := HB1.out.size
      have hs1A := hb1.size
      clear hb1
      go_wp2_with fail
      refine (HPC.out w1 (HCP.out.below HB1.out)).mono ?_
      rintro e w2 ⟨rfl, hb2⟩
      have HB2 := Lib.hid (HB1.out.trans (hb2.mono hsz1))
      have HBX2 := Lib.hid (HBX1.out.trans (hb2.mono hs1A))
      have hsz2 := HB2.out.size
      have hs2A := HBX2.out.size
      clear hb2
      have hblk2 := (HBX2.out.block w.heap.size (by omega)).trans HBLKA.out
      have x20 : w2.cell? ⟨w.heap.size, 0, none⟩ = some (.int .i64 b) := by rw [cell_of_row w2 _ 0 _ _ _ hblk2]; rfl
      have x21 : w2.cell? ⟨w.heap.size, 1, none⟩ = some (.slice ad xs.length c) := by rw [cell_of_row w2 _ 1 _ _ _ hblk2]; rfl
      clear hblk2
      go_wp2_with fail
      refine (HLX.out w2 (HC.out.below HB2.out) (HCP.out.below HB2.out)).mono ?_
      rintro e w5 ⟨a5, c5, rfl, hm5, hb5⟩
      have HB5 := Lib.hid (HB2.out.trans (hb5.mono hsz2))
      have hb5A : Below wA.heap.size wA w5 := HBX2.out.trans (hb5.mono hs2A)
      have HO5 := Lib.hid (hm5.rebase (show w.heap.size ≤ w2.heap.size by omega))
      have hsz5 := HB5.out.size
      have hs5A := hb5A.size
      have HBLK5 := Lib.hid ((hb5A.block w.heap.size (by omega)).trans HBLKA.out)
      have HC5 := Lib.hid (HC.out.below HB5.out)
      clear hb5 hb5A hm5
      clear x20 x21
      go_wp2
      go_loopw [5, 7] (fun v i wr => ∃ k : Nat, k ≤ T.length ∧ i = .int .i64 k ∧ v = .int .i64 ((ffTo b xs T k).length : Nat) ∧ Below w5.heap.size w5 wr) (fun _ i _ => T.length - (intOf i).toNat)
      case atStart => exact ⟨0, Nat.zero_le _, rfl, rfl, Below.refl _ _⟩
      case round =>
        obtain ⟨k, hk, rfl, rfl, hb⟩ := hrel
        have HB := Lib.hid hb
        have hszr := hb.size
        have hlff := ffTo_le b xs T k
        clear hb
        by_cases hlt : k < T.length
        · skip
          obtain ⟨g, ai, ci, rfl, ⟨_, hg⟩, y0, hrow⟩ := OwnMat.row HO5.out hlt
          have y1 := (HB.out.cell (p := ⟨g, k, none⟩) hg).trans y0
          have h36 := (HFACT.out _ (List.getElem_mem hlt)).2
          have hlk : T[k].length ≤ 1048576 := Nat.le_trans h36 (by decide)
          have hfl := fun w' h1 h2 => specFaults b ad ai c ci xs (T[k]'hlt) w' hn hlk (HFACT.out _ (List.getElem_mem hlt)).1 h1 h2
          have HYES := Lib.hid (ffTo_yes (b := b) (xs := xs) hlt)
          have HNO := Lib.hid (ffTo_no (b := b) (xs := xs) hlt)
          have HRW := Lib.hid hrow
          have HRC := Lib.hid ((ownsRow_cellsAt hrow).below HB.out)
          have HFL := Lib.hid hfl
          have z0 := (HB.out.block w.heap.size (by omega)).trans HBLK5.out
          have x0 : wr.cell? ⟨w.heap.size, 0, none⟩ = some (.int .i64 b) := by rw [cell_of_row wr _ 0 _ _ _ z0]; rfl
          have x1 : wr.cell? ⟨w.heap.size, 1, none⟩ = some (.slice ad xs.length c) := by rw [cell_of_row wr _ 1 _ _ _ z0]; rfl
          have i1 : (k : Int) < (T.length : Int) := by omega
          clear hfl hrow y0 z0 hlk
          generalize T[k] = l at y1 h36 HFL HYES HNO HRW HRC
          generalize faultsL b xs l = fl at HFL HYES HNO
          have HCW := Lib.hid (HC5.out.below HB.out)
          go_wp2
          go_region_held3 (fun w' => w'.cell? ⟨w.heap.size, 0, none⟩ = some (.int .i64 b) ∧ w'.cell? ⟨w.heap.size, 1, none⟩ = some (.slice ad xs.length c) ∧ w'.cell? ⟨g, k, none⟩ = some (.slice ai l.length ci)) (first | (go_keep; done) | exact ⟨(hb6.cell (p := ⟨w.heap.size, 0, none⟩) (by show w.heap.size < _; omega)).trans x0, (hb6.cell (p := ⟨w.heap.size, 1, none⟩) (by show w.heap.size < _; omega)).trans x1, (hb6.cell (p := ⟨g, k, none⟩) (by show g < _; omega)).trans y1⟩)
            (first | (go_at_call 12; refine (HFL.out _ (by exact HCW.out) (by exact HRC.out)).mono ?_; rintro e w6 ⟨a6, c6, rfl, _, hb6⟩; have hb6 : Below wr.heap.size wr w6 := (by first | exact hb6 | exact (Below.refl _ _).drew.trans hb6)))
          have HB6 := Lib.hid (HB.out.trans (hb6.mono hszr))
          have hsz6 := HB6.out.size
          have hs6r := hb6.size
          clear hb6 x0 x1 y1
          by_cases h0 : fl.length = 0
          · have e0 : ((fl.length : Int) == 0) = true := by simp [h0]
            have HY := Lib.hid (show (ffTo b xs T (k + 1)).length = (ffTo b xs T k).length + 1 by rw [HYES.out h0, List.length_append, List.length_singleton])
            clear HYES HNO h0
            go_wp2
            go_roundw
            case rel => exact ⟨k + 1, by omega, by go_num, by rw [HY.out]; go_num, HB6.out⟩
            case measure => simp [intOf]; omega
          · have e0 : ((fl.length : Int) == 0) = false := by rw [beq_eq_false_iff_ne]; omega
            have HN := Lib.hid (HNO.out h0)
            clear HYES HNO h0
            go_wp2
            go_roundw
            case rel => exact ⟨k + 1, by omega, by go_num, by rw [HN.out], HB6.out⟩
            case measure => simp [intOf]; omega
        · obtain rfl : k = T.length := by omega
          go_wp2
          go_ret
          exact ⟨rfl, HB5.out.trans (HB.out.mono hsz5)⟩
    · rw [decide_eq_true hr] at HREG
      rw [decide_eq_false hp] at HPC
      rw [show cffR b xs ps = -1 from if_neg (fun q => hp q.2)]
      clear hr hp
      go_enter Tryz.func19, Tryz.ntmps19
      go_wp2_with fail
      rw [← HWA.out]
      refine (HREG.out wA (HC.out.below HBA.out)).mono ?_
      rintro e w1 ⟨rfl, hb1⟩
      have HB1 := Lib.hid (HBA.out.trans (hb1.mono hszA))
      have HBX1 := Lib.hid hb1
      have hsz1 := HB1.out.size
      have hs1A := hb1.size
      clear hb1
      go_wp2_with fail
      refine (HPC.out w1 (HCP.out.below HB1.out)).mono ?_
      rintro e w2 ⟨rfl, hb2⟩
      have HB2 := Lib.hid (HB1.out.trans (hb2.mono hsz1))
      have HBX2 := Lib.hid (HBX1.out.trans (hb2.mono hs1A))
      have hsz2 := HB2.out.size
      have hs2A := HBX2.out.size
      clear hb2
      go_wp2
      go_ret
      exact ⟨rfl, HB2.out⟩
  · rw [decide_eq_false hr] at HREG
    rw [show cffR b xs ps = -1 from if_neg (fun q => hr q.1)]
    clear hr
    go_enter Tryz.func19, Tryz.ntmps19
    go_wp2_with fail
    rw [← HWA.out]
    refine (HREG.out wA (HC.out.below HBA.out)).mono ?_
    rintro e w1 ⟨rfl, hb1⟩
    have HB1 := Lib.hid (HBA.out.trans (hb1.mono hszA))
    have HBX1 := Lib.hid hb1
    have hsz1 := HB1.out.size
    have hs1A := hb1.size
    clear hb1
    go_wp2
    go_ret
    exact ⟨rfl, HB1.out⟩
end Go.Proofs.YtajmdgcnnipdoaaGreatDoor
