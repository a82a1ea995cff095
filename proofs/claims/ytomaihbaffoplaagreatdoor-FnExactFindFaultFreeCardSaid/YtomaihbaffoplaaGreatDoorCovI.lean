/- CovI: the walks of isCover and of what it asks. -/
import Derived.Test.YtomaihbaffoplaaGreatDoorAllLow
import Derived.Lib.QuietBelow
import Derived.BigQuiet
import Derived.IntWalk
namespace Go.Proofs.YtomaihbaffoplaaGreatDoor
open Go.RowKit

attribute [local go_sem ↓] Go.wp_at_zero Go.wp_at_succ

set_option maxRecDepth 100000 in
set_option maxHeartbeats 1600000 in
theorem spec7Has (ad : Option Addr) (c : Nat) (l : List Int) (x : Int) (w : World) (hn : l.length ≤ 1048576) (hc : CellsAt w ad (ints l)) :
    Calls Tryz.prog 39 #[.slice ad l.length c, .int .i64 x] w fun e w' => e = .returned (.bool (decide (x ∈ l))) ∧ Below w.heap.size w w' := by
  have HC := Lib.hid hc
  clear hc
  go_enter Tryz.func39, Tryz.ntmps39
  go_wp2
  go_loopw [5] (fun i wr => ∃ k : Nat, k ≤ l.length ∧ i = .int .i64 k ∧ (∀ v ∈ l.take k, v ≠ x) ∧ Below w.heap.size w wr) (fun i _ => l.length - (intOf i).toNat)
  case atStart => exact ⟨0, by omega, rfl, by simp, Below.refl _ _⟩
  case round =>
    obtain ⟨k, hk, rfl, hall, hb⟩ := hrel
    have HA := Lib.hid hall
    have HB := Lib.hid hb
    clear hall
    by_cases hlt : k < l.length
    · obtain ⟨g, off, rfl, hg, hcc⟩ := HC.out.open (by rw [ints_length]; omega)
      have x0 := (hb.cell (p := ⟨g, off + k, none⟩) hg).trans (hcc k _ (ints_at l k hlt))
      have HTK := Lib.hid (List.take_succ_eq_append_getElem hlt)
      have HMEM := Lib.hid (List.getElem_mem hlt)
      have i1 : (k : Int) < (l.length : Int) := by omega
      clear hcc hb
      generalize l[k] = v at x0 HMEM HTK
      by_cases hz : v = x
      · subst hz
        have HV := Lib.hid (show decide (v ∈ l) = true from decide_eq_true HMEM.out)
        go_wp2
        go_ret
        rw [HV.out]
        exact ⟨rfl, HB.out⟩
      · have hz1 : (v == x) = false := by simp; omega
        have HZ := Lib.hid hz
        clear hz
        go_wp2
        go_roundw
        case rel =>
          refine ⟨k + 1, by omega, by go_num, ?_, HB.out⟩
          rw [HTK.out]
          intro v hv
          rcases List.mem_append.1 hv with hv | hv
          · exact HA.out v hv
          · rw [List.mem_singleton.1 hv]
            exact HZ.out
        case measure => simp [intOf]; omega
    · obtain rfl : k = l.length := by omega
      rw [List.take_length] at HA
      have HV := Lib.hid (show decide (x ∈ l) = false from decide_eq_false fun h => HA.out x h rfl)
      go_wp2
      go_ret
      rw [HV.out]
      exact ⟨rfl, HB.out⟩

set_option maxRecDepth 100000 in
set_option maxHeartbeats 1600000 in
theorem implHasInt (ad : Option Addr) (c : Nat) (l : List Int) (x : Int) (w : World) (hn : l.length ≤ 1048576) (hc : CellsAt w ad (ints l)) :
    Calls Tryz.prog 58 #[.slice ad l.length c, .int .i64 x] w fun e w' => e = .returned (.bool (decide (x ∈ l))) ∧ Below w.heap.size w w' := by
  have HC := Lib.hid hc
  clear hc
  go_enter Tryz.func58, Tryz.ntmps58
  go_wp2
  go_loopw [9] (fun i wr => ∃ k : Nat, k ≤ l.length ∧ i = .int .i64 k ∧ (∀ v ∈ l.take k, v ≠ x) ∧ Below w.heap.size w wr) (fun i _ => l.length - (intOf i).toNat)
  case atStart => exact ⟨0, by omega, rfl, by simp, Below.refl _ _⟩
  case round =>
    obtain ⟨k, hk, rfl, hall, hb⟩ := hrel
    have HA := Lib.hid hall
    have HB := Lib.hid hb
    clear hall
    by_cases hlt : k < l.length
    · obtain ⟨g, off, rfl, hg, hcc⟩ := HC.out.open (by rw [ints_length]; omega)
      have x0 := (hb.cell (p := ⟨g, off + k, none⟩) hg).trans (hcc k _ (ints_at l k hlt))
      have HTK := Lib.hid (List.take_succ_eq_append_getElem hlt)
      have HMEM := Lib.hid (List.getElem_mem hlt)
      have i1 : (k : Int) < (l.length : Int) := by omega
      clear hcc hb
      generalize l[k] = v at x0 HMEM HTK
      by_cases hz : v = x
      · subst hz
        have HV := Lib.hid (show decide (v ∈ l) = true from decide_eq_true HMEM.out)
        go_wp2
        go_ret
        rw [HV.out]
        exact ⟨rfl, HB.out⟩
      · have hz1 : (v == x) = false := by simp; omega
        have HZ := Lib.hid hz
        clear hz
        go_wp2
        go_roundw
        case rel =>
          refine ⟨k + 1, by omega, by go_num, ?_, HB.out⟩
          rw [HTK.out]
          intro v hv
          rcases List.mem_append.1 hv with hv | hv
          · exact HA.out v hv
          · rw [List.mem_singleton.1 hv]
            exact HZ.out
        case measure => simp [intOf]; omega
    · obtain rfl : k = l.length := by omega
      rw [List.take_length] at HA
      have HV := Lib.hid (show decide (x ∈ l) = false from decide_eq_false fun h => HA.out x h rfl)
      go_wp2
      go_ret
      rw [HV.out]
      exact ⟨rfl, HB.out⟩

theorem covL_false {A l : List Int} {n1 : Nat} (h : covTo A l l.length = false) : covL A n1 l = false := by unfold covL; rw [h]; rfl

set_option maxRecDepth 100000 in
set_option maxHeartbeats 3200000 in
theorem implCover (aa : Option Addr) (ca : Nat) (A : List Int) (n1 : Nat) (al : Option Addr) (cl : Nat) (l : List Int) (w : World) (hlA : A.length ≤ 1048576) (hs : ∀ v ∈ A, Mk v) (hn : l.length ≤ 1048576) (hT : Tab w) (ha : CellsAt w aa (ints A)) (hc : CellsAt w al (ints l)) :
    Calls Tryz.prog 44 #[.slice aa A.length ca, .int .i64 n1, .slice al l.length cl] w fun e w' => e = .returned (.bool (covL A n1 l)) ∧ Below w.heap.size w w' := by
  have HAW := Lib.hid ha
  have HLW := Lib.hid hc
  have HSM := Lib.hid hs
  have HT := Lib.hid hT
  clear hc ha hs hT
  go_enter Tryz.func44, Tryz.ntmps44
  go_wp2
  go_loopw [7, 12] (fun uv i wr => ∃ k U : Nat, k ≤ l.length ∧ i = .int .i64 k ∧ uv = .int .i64 U ∧ U = usedTo l k ∧ U < 68719476736 ∧ covTo A l k = true ∧ Below w.heap.size w wr) (fun _ i _ => l.length - (intOf i).toNat)
  case atStart => exact ⟨0, 0, Nat.zero_le _, rfl, rfl, rfl, by decide, rfl, Below.refl _ _⟩
  case round =>
    obtain ⟨k, U, hk, rfl, rfl, hU, hUl, hap, hb⟩ := hrel
    have HAP := Lib.hid hap
    have HB := Lib.hid hb
    have HUU := Lib.hid hU
    have hszr := hb.size
    clear hap hb hU
    by_cases hlt : k < l.length
    · obtain ⟨g, off, rfl, hg, hcc⟩ := HLW.out.open (by rw [ints_length]; omega)
      have x0 := (HB.out.cell (p := ⟨g, off + k, none⟩) hg).trans (hcc k _ (ints_at l k hlt))
      have i1 : (k : Int) < (l.length : Int) := by omega
      have hst0 := covStep_at A l k hlt
      have hnx0 := usedTo_at l k hlt
      rw [← HUU.out] at hst0 hnx0
      have HHC0 := Lib.hid (fun w' h => implHasInt aa ca A l[k] w' hlA h)
      have HST := Lib.hid hst0
      have HNX := Lib.hid hnx0
      clear hst0 hnx0
      have hjs : ∀ j, k = j + 1 → ∃ h : j < l.length, l.getD (k - 1) 0 = l[j] ∧ l[j] ∈ A ∧ ∀ i, l[j].toNat.testBit i = true → U.testBit i = true := fun j hj => by
        have hjl : j < l.length := by omega
        have hc := HAP.out
        rw [hj] at hc
        obtain ⟨c1, c2⟩ := cov_prev hc hjl
        rw [← hj, ← HUU.out] at c2
        exact ⟨hjl, by rw [hj, Nat.add_sub_cancel, getD_at l j hjl], c1, c2⟩
      have HJS := Lib.hid hjs
      clear hjs
      generalize l[k] = v at x0 HHC0 HST HNX
      by_cases hin : v ∈ A
      · have hsm := HSM.out _ hin
        have HHC := HHC0
        rw [decide_eq_true hin] at HHC HST
        clear HHC0
        obtain ⟨u, rfl⟩ : ∃ u : Nat, v = (u : Int) := ⟨v.toNat, by have := hsm.1; omega⟩
        have hu0 : 0 < u := by have := hsm.1; omega
        have hu : u < 68719476736 := by have := hsm.2; omega
        rw [Int.toNat_natCast] at HST HNX
        have hand := i64_and_nat U u (by omega) (by omega)
        have hor := i64_or_nat U u (by omega) (by omega)
        have hm0 : U ||| u < 68719476736 := Nat.or_lt_two_pow (n := 36) hUl hu
        obtain ⟨q, hq⟩ : ∃ q, q = U &&& u := ⟨_, rfl⟩
        obtain ⟨m2, hm2⟩ : ∃ m2, m2 = U ||| u := ⟨_, rfl⟩
        rw [← hm2] at hor hm0 HNX
        rw [← hq] at hand HST
        have HLT := Lib.hid hm0
        have HQ := Lib.hid hq
        clear hq hm2 hin hsm hm0
        by_cases hz : q = 0
        · subst hz
          have hz1 : (((0 : Nat) : Int) != 0) = false := rfl
          rcases Nat.eq_zero_or_pos k with h0 | h0
          · have g0 : decide ((0 : Int) < (k : Int)) = false := decide_eq_false (by omega)
            have g0n : decide (0 < k) = false := decide_eq_false (by omega)
            clear HJS HQ
            have hap2 : covTo A l (k + 1) = true := by rw [covTo, HAP.out, HST.out]; simp [h0]
            have HAP2 := Lib.hid hap2
            clear hap2
            clear h0 hu hu0
            go_wp2_with fail
            refine (HHC.out wr (HAW.out.below HB.out)).mono ?_
            rintro e w5 ⟨rfl, hb5⟩
            have HB5 := Lib.hid (HB.out.trans (hb5.mono hszr))
            have hsz5 := HB5.out.size
            clear hb5
            go_wp2
            go_roundw
            case rel => exact ⟨k + 1, m2, by omega, by go_num, rfl, HNX.out, HLT.out, HAP2.out, HB5.out⟩
            case measure => simp [intOf]; omega
          · obtain ⟨j, hj⟩ : ∃ j, k = j + 1 := ⟨k - 1, by omega⟩
            obtain ⟨hjl, hpj, hpA, hpU⟩ := HJS.out j hj
            have g0 : decide ((0 : Int) < (k : Int)) = true := decide_eq_true (by omega)
            have g0n : decide (0 < k) = true := decide_eq_true (by omega)
            have tk : wrap64 ((k : Int) - 1) = (j : Int) := by rw [hj]; push_cast; rw [Int.add_sub_cancel]; exact wrap_nat (by omega)
            have tk2 : IntKind.i64.wrap ((k : Int) - 1) = (j : Int) := by rw [IntWalk.i64_left]; exact tk
            have i2 : (j : Int) < (l.length : Int) := by omega
            rw [hpj] at HST
            have x1 := (HB.out.cell (p := ⟨g, off + j, none⟩) hg).trans (hcc j _ (ints_at l j hjl))
            have hsm := HSM.out _ hpA
            clear hpj HJS hpA
            generalize l[j] = pv at x1 HST hsm hpU
            obtain ⟨p, rfl⟩ : ∃ p : Nat, pv = (p : Int) := ⟨pv.toNat, by have := hsm.1; omega⟩
            have hp0 : 0 < p := by have := hsm.1; omega
            have hp : p < 68719476736 := by have := hsm.2; omega
            rw [Int.toNat_natCast] at HST hpU
            have hne := low_ne hp0 (Nat.lt_trans hp (by decide)) hu0 (Nat.lt_trans hu (by decide)) hpU HQ.out.symm
            have hl1 := low_lt hp0 (Nat.lt_trans hp (by decide))
            have hl2 := low_lt hu0 (Nat.lt_trans hu (by decide))
            have HLOWp := Lib.hid (fun w' ht => implLow p w' (by omega) (by omega) ht)
            have HLOWu := Lib.hid (fun w' ht => implLow u w' (by omega) (by omega) ht)
            have HJ := Lib.hid hj
            have hk0 : ¬ k = 0 := by omega
            clear hj hsm hpU hp0 hp hu0 hu HQ
            generalize lowB p = a at HLOWp HST hne hl1
            generalize lowB u = b at HLOWu HST hne hl2
            by_cases hpv : a < b
            · have gv : decide ((b : Int) ≤ (a : Int)) = false := decide_eq_false (by omega)
              have gvn : decide (b ≤ a) = false := decide_eq_false (by omega)
              have hap2 : covTo A l (k + 1) = true := by rw [covTo, HAP.out, HST.out]; simp [hpv]
              have HAP2 := Lib.hid hap2
              clear hap2
              clear hpv hk0 hne
              go_wp2_with fail
              refine (HHC.out wr (HAW.out.below HB.out)).mono ?_
              rintro e w5 ⟨rfl, hb5⟩
              have HB5 := Lib.hid (HB.out.trans (hb5.mono hszr))
              have hsz5 := HB5.out.size
              have x1 := (hb5.cell (p := ⟨g, off + j, none⟩) (by simp; omega)).trans x1
              have HLP := Lib.hid (HLOWp.out w5 (HT.out.below HB5.out))
              clear hb5
              go_wp2_with fail
              refine HLP.out.mono ?_
              rintro e w6 ⟨rfl, hb6⟩
              have HB6 := Lib.hid (HB5.out.trans (hb6.mono hsz5))
              have hsz6 := HB6.out.size
              have HLU := Lib.hid (HLOWu.out w6 (HT.out.below HB6.out))
              clear hb6
              go_wp2_with fail
              refine HLU.out.mono ?_
              rintro e w7 ⟨rfl, hb7⟩
              have HB7 := Lib.hid (HB6.out.trans (hb7.mono hsz6))
              clear hb7
              go_wp2
              go_roundw
              case rel => exact ⟨k + 1, m2, by omega, by go_num, rfl, HNX.out, HLT.out, HAP2.out, HB7.out⟩
              case measure => simp [intOf]; omega
            · have gv : decide ((b : Int) ≤ (a : Int)) = true := decide_eq_true (by omega)
              have gvn : decide (b ≤ a) = true := decide_eq_true (by omega)
              have hst := HST.out
              rw [decide_eq_false hpv, decide_eq_false hk0] at hst
              have HV := Lib.hid (covTo_false (l := l) (A := A) (by rw [covTo, HAP.out, hst]; rfl : covTo A l (k + 1) = false) (by omega : k + 1 ≤ l.length))
              clear hst
              clear hpv hk0 hne
              go_wp2_with fail
              refine (HHC.out wr (HAW.out.below HB.out)).mono ?_
              rintro e w5 ⟨rfl, hb5⟩
              have HB5 := Lib.hid (HB.out.trans (hb5.mono hszr))
              have hsz5 := HB5.out.size
              have x1 := (hb5.cell (p := ⟨g, off + j, none⟩) (by simp; omega)).trans x1
              have HLP := Lib.hid (HLOWp.out w5 (HT.out.below HB5.out))
              clear hb5
              go_wp2_with fail
              refine HLP.out.mono ?_
              rintro e w6 ⟨rfl, hb6⟩
              have HB6 := Lib.hid (HB5.out.trans (hb6.mono hsz5))
              have hsz6 := HB6.out.size
              have HLU := Lib.hid (HLOWu.out w6 (HT.out.below HB6.out))
              clear hb6
              go_wp2_with fail
              refine HLU.out.mono ?_
              rintro e w7 ⟨rfl, hb7⟩
              have HB7 := Lib.hid (HB6.out.trans (hb7.mono hsz6))
              clear hb7
              go_wp2
              go_ret
              rw [covL_false HV.out]
              exact ⟨rfl, HB7.out⟩
        · have hz1 : ((q : Int) != 0) = true := by simp; omega
          have hst := HST.out
          rw [decide_eq_false hz] at hst
          have HV := Lib.hid (covTo_false (l := l) (A := A) (by rw [covTo, HAP.out, hst]; rfl : covTo A l (k + 1) = false) (by omega : k + 1 ≤ l.length))
          clear hst
          clear hz HJS HQ
          go_wp2_with fail
          refine (HHC.out wr (HAW.out.below HB.out)).mono ?_
          rintro e w5 ⟨rfl, hb5⟩
          have HB5 := Lib.hid (HB.out.trans (hb5.mono hszr))
          have hsz5 := HB5.out.size
          clear hb5
          go_wp2
          go_ret
          rw [covL_false HV.out]
          exact ⟨rfl, HB5.out⟩
      · have HHC := HHC0
        rw [decide_eq_false hin] at HHC HST
        clear HHC0 HJS hin
        have HV := Lib.hid (covTo_false (l := l) (A := A) (by rw [covTo, HAP.out, HST.out]; rfl : covTo A l (k + 1) = false) (by omega : k + 1 ≤ l.length))
        go_wp2_with fail
        refine (HHC.out wr (HAW.out.below HB.out)).mono ?_
        rintro e w5 ⟨rfl, hb5⟩
        have HB5 := Lib.hid (HB.out.trans (hb5.mono hszr))
        have hsz5 := HB5.out.size
        clear hb5
        go_wp2
        go_ret
        rw [covL_false HV.out]
        exact ⟨rfl, HB5.out⟩
    · obtain rfl : k = l.length := by omega
      by_cases hun : U = n1
      · have HV := Lib.hid (show covL A n1 l = true from by unfold covL; rw [HAP.out, ← HUU.out, decide_eq_true hun]; rfl)
        subst hun
        have he : ((U : Int) == (U : Int)) = true := by simp
        go_wp2
        go_ret
        rw [HV.out]
        exact ⟨rfl, HB.out⟩
      · have HV := Lib.hid (show covL A n1 l = false from by unfold covL; rw [HAP.out, ← HUU.out, decide_eq_false hun]; rfl)
        have he : ((U : Int) == (n1 : Int)) = false := by simp; omega
        have hen : (U == n1) = false := by simp; omega
        clear hun
        go_wp2
        go_ret
        rw [HV.out]
        exact ⟨rfl, HB.out⟩
end Go.Proofs.YtomaihbaffoplaaGreatDoor
