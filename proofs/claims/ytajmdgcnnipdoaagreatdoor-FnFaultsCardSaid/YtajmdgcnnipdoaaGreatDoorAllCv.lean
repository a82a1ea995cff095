/- AllCv: parts laid together: CovI, Cover. -/
import Derived.Test.YtajmdgcnnipdoaaGreatDoorAllLow
import Derived.Lib.QuietBelow
import Derived.BigQuiet
import Derived.IntWalk
import Derived.Deep.DrawnRows
import Derived.Test.YtajmdgcnnipdoaaGreatDoorAllTor
import Derived.Test.YtajmdgcnnipdoaaGreatDoorAllPl

/- CovI: the walks of isCover and of what it asks. -/
namespace Go.Proofs.YtajmdgcnnipdoaaGreatDoor
open Go.RowKit

attribute [local go_sem ↓] Go.wp_at_zero Go.wp_at_succ

set_option maxRecDepth 100000 in
set_option maxHeartbeats 1600000 in
theorem spec7Has (ad : Option Addr) (c : Nat) (l : List Int) (x : Int) (w : World) (hn : l.length ≤ 1048576) (hc : CellsAt w ad (ints l)) :
    Calls Tryz.prog 68 #[.slice ad l.length c, .int .i64 x] w fun e w' => e = .returned (.bool (decide (x ∈ l))) ∧ Below w.heap.size w w' := by
  have HC := Lib.hid hc
  clear hc
  go_enter Tryz.func68, Tryz.ntmps68
  go_wp2
  go_loopw [5] (fun i wr => ∃ k : Nat, k ≤ l.length ∧ i = .int .i64 k ∧ (∀ v ∈ l.take k, v ≠ x) ∧ Below w.heap.size w wr) (fun i _ => l.length - (intOf i).toNat)
  case atStart => exact ⟨0, by omega, rfl, by simp, Below.refl _ _⟩
  case round =>
    obtain ⟨k, hk, rfl, hall, hb⟩ := hrel
    have HA := Lib.hid hall
    have HB := Lib.hid hb
    clear hall
    by_cases hlt : k < l.length
    · obtain ⟨g, off, rfl, hg, hcc⟩ := HC.out.open (by rw [ints_length]; omega)
      have x0 := (hb.cell (p := ⟨g, off + k, none⟩) hg).trans (hcc k _ (ints_at l k hlt))
      have HTK := Lib.hid (List.take_succ_eq_append_getElem hlt)
      have HMEM := Lib.hid (List.getElem_mem hlt)
      have i1 : (k : Int) < (l.length : Int) := by omega
      clear hcc hb
      generalize l[k] = v at x0 HMEM HTK
      by_cases hz : v = x
      · subst hz
        have HV := Lib.hid (show decide (v ∈ l) = true from decide_eq_true HMEM.out)
        go_wp2
        go_ret
        rw [HV.out]
        exact ⟨rfl, HB.out⟩
      · have hz1 : (v == x) = false := by simp; omega
        have HZ := Lib.hid hz
        clear hz
        go_wp2
        go_roundw
        case rel =>
          refine ⟨k + 1, by omega, by go_num, ?_, HB.out⟩
          rw [HTK.out]
          intro v hv
          rcases List.mem_append.1 hv with hv | hv
          · exact HA.out v hv
          · rw [List.mem_singleton.1 hv]
            exact HZ.out
        case measure => simp [intOf]; omega
    · obtain rfl : k = l.length := by omega
      rw [List.take_length] at HA
      have HV := Lib.hid (show decide (x ∈ l) = false from decide_eq_false fun h => HA.out x h rfl)
      go_wp2
      go_ret
      rw [HV.out]
      exact ⟨rfl, HB.out⟩

set_option maxRecDepth 100000 in
set_option maxHeartbeats 1600000 in
theorem implHasInt (ad : Option Addr) (c : Nat) (l : List Int) (x : Int) (w : World) (hn : l.length ≤ 1048576) (hc : CellsAt w ad (ints l)) :
    Calls Tryz.prog 136 #[.slice ad l.length c, .int .i64 x] w fun e w' => e = .returned (.bool (decide (x ∈ l))) ∧ Below w.heap.size w w' := by
  have HC := Lib.hid hc
  clear hc
  go_enter Tryz.func136, Tryz.ntmps136
  go_wp2
  go_loopw [9] (fun i wr => ∃ k : Nat, k ≤ l.length ∧ i = .int .i64 k ∧ (∀ v ∈ l.take k, v ≠ x) ∧ Below w.heap.size w wr) (fun i _ => l.length - (intOf i).toNat)
  case atStart => exact ⟨0, by omega, rfl, by simp, Below.refl _ _⟩
  case round =>
    obtain ⟨k, hk, rfl, hall, hb⟩ := hrel
    have HA := Lib.hid hall
    have HB := Lib.hid hb
    clear hall
    by_cases hlt : k < l.length
    · obtain ⟨g, off, rfl, hg, hcc⟩ := HC.out.open (by rw [ints_length]; omega)
      have x0 := (hb.cell (p := ⟨g, off + k, none⟩) hg).trans (hcc k _ (ints_at l k hlt))
      have HTK := Lib.hid (List.take_succ_eq_append_getElem hlt)
      have HMEM := Lib.hid (List.getElem_mem hlt)
      have i1 : (k : Int) < (l.length : Int) := by omega
      clear hcc hb
      generalize l[k] = v at x0 HMEM HTK
      by_cases hz : v = x
      · subst hz
        have HV := Lib.hid (show decide (v ∈ l) = true from decide_eq_true HMEM.out)
        go_wp2
        go_ret
        rw [HV.out]
        exact ⟨rfl, HB.out⟩
      · have hz1 : (v == x) = false := by simp; omega
        have HZ := Lib.hid hz
        clear hz
        go_wp2
        go_roundw
        case rel =>
          refine ⟨k + 1, by omega, by go_num, ?_, HB.out⟩
          rw [HTK.out]
          intro v hv
          rcases List.mem_append.1 hv with hv | hv
          · exact HA.out v hv
          · rw [List.mem_singleton.1 hv]
            exact HZ.out
        case measure => simp [intOf]; omega
    · obtain rfl : k = l.length := by omega
      rw [List.take_length] at HA
      have HV := Lib.hid (show decide (x ∈ l) = false from decide_eq_false fun h => HA.out x h rfl)
      go_wp2
      go_ret
      rw [HV.out]
      exact ⟨rfl, HB.out⟩

theorem covL_false {A l : List Int} {n1 : Nat} (h : covTo A l l.length = false) : covL A n1 l = false := by unfold covL; rw [h]; rfl

set_option maxRecDepth 100000 in
set_option maxHeartbeats 3200000 in
theorem implCover (aa : Option Addr) (ca : Nat) (A : List Int) (n1 : Nat) (al : Option Addr) (cl : Nat) (l : List Int) (w : World) (hlA : A.length ≤ 1048576) (hs : ∀ v ∈ A, Mk v) (hn : l.length ≤ 1048576) (hT : Tab w) (ha : CellsAt w aa (ints A)) (hc : CellsAt w al (ints l)) :
    Calls Tryz.prog 94 #[.slice aa A.length ca, .int .i64 n1, .slice al l.length cl] w fun e w' => e = .returned (.bool (covL A n1 l)) ∧ Below w.heap.size w w' := by
  have HAW := Lib.hid ha
  have HLW := Lib.hid hc
  have HSM := Lib.hid hs
  have HT := Lib.hid hT
  clear hc ha hs hT
  go_enter Tryz.func94, Tryz.ntmps94
  go_wp2
  go_loopw [7, 12] (fun uv i wr => ∃ k U : Nat, k ≤ l.length ∧ i = .int .i64 k ∧ uv = .int .i64 U ∧ U = usedTo l k ∧ U < 68719476736 ∧ covTo A l k = true ∧ Below w.heap.size w wr) (fun _ i _ => l.length - (intOf i).toNat)
  case atStart => exact ⟨0, 0, Nat.zero_le _, rfl, rfl, rfl, by decide, rfl, Below.refl _ _⟩
  case round =>
    obtain ⟨k, U, hk, rfl, rfl, hU, hUl, hap, hb⟩ := hrel
    have HAP := Lib.hid hap
    have HB := Lib.hid hb
    have HUU := Lib.hid hU
    have hszr := hb.size
    clear hap hb hU
    by_cases hlt : k < l.length
    · obtain ⟨g, off, rfl, hg, hcc⟩ := HLW.out.open (by rw [ints_length]; omega)
      have x0 := (HB.out.cell (p := ⟨g, off + k, none⟩) hg).trans (hcc k _ (ints_at l k hlt))
      have i1 : (k : Int) < (l.length : Int) := by omega
      have hst0 := covStep_at A l k hlt
      have hnx0 := usedTo_at l k hlt
      rw [← HUU.out] at hst0 hnx0
      have HHC0 := Lib.hid (fun w' h => implHasInt aa ca A l[k] w' hlA h)
      have HST := Lib.hid hst0
      have HNX := Lib.hid hnx0
      clear hst0 hnx0
      have hjs : ∀ j, k = j + 1 → ∃ h : j < l.length, l.getD (k - 1) 0 = l[j] ∧ l[j] ∈ A ∧ ∀ i, l[j].toNat.testBit i = true → U.testBit i = true := fun j hj => by
        have hjl : j < l.length := by omega
        have hc := HAP.out
        rw [hj] at hc
        obtain ⟨c1, c2⟩ := cov_prev hc hjl
        rw [← hj, ← HUU.out] at c2
        exact ⟨hjl, by rw [hj, Nat.add_sub_cancel, getD_at l j hjl], c1, c2⟩
      have HJS := Lib.hid hjs
      clear hjs
      generalize l[k] = v at x0 HHC0 HST HNX
      by_cases hin : v ∈ A
      · have hsm := HSM.out _ hin
        have HHC := HHC0
        rw [decide_eq_true hin] at HHC HST
        clear HHC0
        obtain ⟨u, rfl⟩ : ∃ u : Nat, v = (u : Int) := ⟨v.toNat, by have := hsm.1; omega⟩
        have hu0 : 0 < u := by have := hsm.1; omega
        have hu : u < 68719476736 := by have := hsm.2; omega
        rw [Int.toNat_natCast] at HST HNX
        have hand := i64_and_nat U u (by omega) (by omega)
        have hor := i64_or_nat U u (by omega) (by omega)
        have hm0 : U ||| u < 68719476736 := Nat.or_lt_two_pow (n := 36) hUl hu
        obtain ⟨q, hq⟩ : ∃ q, q = U &&& u := ⟨_, rfl⟩
        obtain ⟨m2, hm2⟩ : ∃ m2, m2 = U ||| u := ⟨_, rfl⟩
        rw [← hm2] at hor hm0 HNX
        rw [← hq] at hand HST
        have HLT := Lib.hid hm0
        have HQ := Lib.hid hq
        clear hq hm2 hin hsm hm0
        by_cases hz : q = 0
        · subst hz
          have hz1 : (((0 : Nat) : Int) != 0) = false := rfl
          rcases Nat.eq_zero_or_pos k with h0 | h0
          · have g0 : decide ((0 : Int) < (k : Int)) = false := decide_eq_false (by omega)
            have g0n : decide (0 < k) = false := decide_eq_false (by omega)
            clear HJS HQ
            have hap2 : covTo A l (k + 1) = true := by rw [covTo, HAP.out, HST.out]; simp [h0]
            have HAP2 := Lib.hid hap2
            clear hap2
            clear h0 hu hu0
            go_wp2_with fail
            refine (HHC.out wr (HAW.out.below HB.out)).mono ?_
            rintro e w5 ⟨rfl, hb5⟩
            have HB5 := Lib.hid (HB.out.trans (hb5.mono hszr))
            have hsz5 := HB5.out.size
            clear hb5
            go_wp2
            go_roundw
            case rel => exact ⟨k + 1, m2, by omega, by go_num, rfl, HNX.out, HLT.out, HAP2.out, HB5.out⟩
            case measure => simp [intOf]; omega
          · obtain ⟨j, hj⟩ : ∃ j, k = j + 1 := ⟨k - 1, by omega⟩
            obtain ⟨hjl, hpj, hpA, hpU⟩ := HJS.out j hj
            have g0 : decide ((0 : Int) < (k : Int)) = true := decide_eq_true (by omega)
            have g0n : decide (0 < k) = true := decide_eq_true (by omega)
            have tk : wrap64 ((k : Int) - 1) = (j : Int) := by rw [hj]; push_cast; rw [Int.add_sub_cancel]; exact wrap_nat (by omega)
            have tk2 : IntKind.i64.wrap ((k : Int) - 1) = (j : Int) := by rw [IntWalk.i64_left]; exact tk
            have i2 : (j : Int) < (l.length : Int) := by omega
            rw [hpj] at HST
            have x1 := (HB.out.cell (p := ⟨g, off + j, none⟩) hg).trans (hcc j _ (ints_at l j hjl))
            have hsm := HSM.out _ hpA
            clear hpj HJS hpA
            generalize l[j] = pv at x1 HST hsm hpU
            obtain ⟨p, rfl⟩ : ∃ p : Nat, pv = (p : Int) := ⟨pv.toNat, by have := hsm.1; omega⟩
            have hp0 : 0 < p := by have := hsm.1; omega
            have hp : p < 68719476736 := by have := hsm.2; omega
            rw [Int.toNat_natCast] at HST hpU
            have hne := low_ne hp0 (Nat.lt_trans hp (by decide)) hu0 (Nat.lt_trans hu (by decide)) hpU HQ.out.symm
            have hl1 := low_lt hp0 (Nat.lt_trans hp (by decide))
            have hl2 := low_lt hu0 (Nat.lt_trans hu (by decide))
            have HLOWp := Lib.hid (fun w' ht => implLow p w' (by omega) (by omega) ht)
            have HLOWu := Lib.hid (fun w' ht => implLow u w' (by omega) (by omega) ht)
            have HJ := Lib.hid hj
            have hk0 : ¬ k = 0 := by omega
            clear hj hsm hpU hp0 hp hu0 hu HQ
            generalize lowB p = a at HLOWp HST hne hl1
            generalize lowB u = b at HLOWu HST hne hl2
            by_cases hpv : a < b
            · have gv : decide ((b : Int) ≤ (a : Int)) = false := decide_eq_false (by omega)
              have gvn : decide (b ≤ a) = false := decide_eq_false (by omega)
              have hap2 : covTo A l (k + 1) = true := by rw [covTo, HAP.out, HST.out]; simp [hpv]
              have HAP2 := Lib.hid hap2
              clear hap2
              clear hpv hk0 hne
              go_wp2_with fail
              refine (HHC.out wr (HAW.out.below HB.out)).mono ?_
              rintro e w5 ⟨rfl, hb5⟩
              have HB5 := Lib.hid (HB.out.trans (hb5.mono hszr))
              have hsz5 := HB5.out.size
              have x1 := (hb5.cell (p := ⟨g, off + j, none⟩) (by simp; omega)).trans x1
              have HLP := Lib.hid (HLOWp.out w5 (HT.out.below HB5.out))
              clear hb5
              go_wp2_with fail
              refine HLP.out.mono ?_
              rintro e w6 ⟨rfl, hb6⟩
              have HB6 := Lib.hid (HB5.out.trans (hb6.mono hsz5))
              have hsz6 := HB6.out.size
              have HLU := Lib.hid (HLOWu.out w6 (HT.out.below HB6.out))
              clear hb6
              go_wp2_with fail
              refine HLU.out.mono ?_
              rintro e w7 ⟨rfl, hb7⟩
              have HB7 := Lib.hid (HB6.out.trans (hb7.mono hsz6))
              clear hb7
              go_wp2
              go_roundw
              case rel => exact ⟨k + 1, m2, by omega, by go_num, rfl, HNX.out, HLT.out, HAP2.out, HB7.out⟩
              case measure => simp [intOf]; omega
            · have gv : decide ((b : Int) ≤ (a : Int)) = true := decide_eq_true (by omega)
              have gvn : decide (b ≤ a) = true := decide_eq_true (by omega)
              have hst := HST.out
              rw [decide_eq_false hpv, decide_eq_false hk0] at hst
              have HV := Lib.hid (covTo_false (l := l) (A := A) (by rw [covTo, HAP.out, hst]; rfl : covTo A l (k + 1) = false) (by omega : k + 1 ≤ l.length))
              clear hst
              clear hpv hk0 hne
              go_wp2_with fail
              refine (HHC.out wr (HAW.out.below HB.out)).mono ?_
              rintro e w5 ⟨rfl, hb5⟩
              have HB5 := Lib.hid (HB.out.trans (hb5.mono hszr))
              have hsz5 := HB5.out.size
              have x1 := (hb5.cell (p := ⟨g, off + j, none⟩) (by simp; omega)).trans x1
              have HLP := Lib.hid (HLOWp.out w5 (HT.out.below HB5.out))
              clear hb5
              go_wp2_with fail
              refine HLP.out.mono ?_
              rintro e w6 ⟨rfl, hb6⟩
              have HB6 := Lib.hid (HB5.out.trans (hb6.mono hsz5))
              have hsz6 := HB6.out.size
              have HLU := Lib.hid (HLOWu.out w6 (HT.out.below HB6.out))
              clear hb6
              go_wp2_with fail
              refine HLU.out.mono ?_
              rintro e w7 ⟨rfl, hb7⟩
              have HB7 := Lib.hid (HB6.out.trans (hb7.mono hsz6))
              clear hb7
              go_wp2
              go_ret
              rw [covL_false HV.out]
              exact ⟨rfl, HB7.out⟩
        · have hz1 : ((q : Int) != 0) = true := by simp; omega
          have hst := HST.out
          rw [decide_eq_false hz] at hst
          have HV := Lib.hid (covTo_false (l := l) (A := A) (by rw [covTo, HAP.out, hst]; rfl : covTo A l (k + 1) = false) (by omega : k + 1 ≤ l.length))
          clear hst
          clear hz HJS HQ
          go_wp2_with fail
          refine (HHC.out wr (HAW.out.below HB.out)).mono ?_
          rintro e w5 ⟨rfl, hb5⟩
          have HB5 := Lib.hid (HB.out.trans (hb5.mono hszr))
          have hsz5 := HB5.out.size
          clear hb5
          go_wp2
          go_ret
          rw [covL_false HV.out]
          exact ⟨rfl, HB5.out⟩
      · have HHC := HHC0
        rw [decide_eq_false hin] at HHC HST
        clear HHC0 HJS hin
        have HV := Lib.hid (covTo_false (l := l) (A := A) (by rw [covTo, HAP.out, HST.out]; rfl : covTo A l (k + 1) = false) (by omega : k + 1 ≤ l.length))
        go_wp2_with fail
        refine (HHC.out wr (HAW.out.below HB.out)).mono ?_
        rintro e w5 ⟨rfl, hb5⟩
        have HB5 := Lib.hid (HB.out.trans (hb5.mono hszr))
        have hsz5 := HB5.out.size
        clear hb5
        go_wp2
        go_ret
        rw [covL_false HV.out]
        exact ⟨rfl, HB5.out⟩
    · obtain rfl : k = l.length := by omega
      by_cases hun : U = n1
      · have HV := Lib.hid (show covL A n1 l = true from by unfold covL; rw [HAP.out, ← HUU.out, decide_eq_true hun]; rfl)
        subst hun
        have he : ((U : Int) == (U : Int)) = true := by simp
        go_wp2
        go_ret
        rw [HV.out]
        exact ⟨rfl, HB.out⟩
      · have HV := Lib.hid (show covL A n1 l = false from by unfold covL; rw [HAP.out, ← HUU.out, decide_eq_false hun]; rfl)
        have he : ((U : Int) == (n1 : Int)) = false := by simp; omega
        have hen : (U == n1) = false := by simp; omega
        clear hun
        go_wp2
        go_ret
        rw [HV.out]
        exact ⟨rfl, HB.out⟩
end Go.Proofs.YtajmdgcnnipdoaaGreatDoor

/- Cover: the walks of IsTorusTiling, the reference's and the program's. -/
namespace Go.Proofs.YtajmdgcnnipdoaaGreatDoor
open Go.RowKit

attribute [local go_sem ↓] Go.wp_at_zero Go.wp_at_succ

/-- Whether masks tile a torus. -/
def ttR (x y : Int) (ps : List (List Cl)) (l : List Int) : Bool := decide ((1 ≤ x ∧ x ≤ 5 ∧ 1 ≤ y ∧ y ≤ 5) ∧ Pcs ps) && covL (torAll x.toNat y.toNat ps) (2 ^ (x.toNat * y.toNat) - 1) l
theorem ttR_yes {W H : Nat} {ps : List (List Cl)} {l : List Int} (hW : 1 ≤ W ∧ W ≤ 5) (hH : 1 ≤ H ∧ H ≤ 5) (hp : Pcs ps) : ttR W H ps l = covL (torAll W H ps) (2 ^ (W * H) - 1) l := by
  unfold ttR
  rw [decide_eq_true (⟨⟨by omega, by omega, by omega, by omega⟩, hp⟩ : (1 ≤ (W : Int) ∧ (W : Int) ≤ 5 ∧ 1 ≤ (H : Int) ∧ (H : Int) ≤ 5) ∧ Pcs ps), Int.toNat_natCast, Int.toNat_natCast, Bool.true_and]
theorem ttR_no {x y : Int} {ps : List (List Cl)} {l : List Int} (h : ¬ ((1 ≤ x ∧ x ≤ 5 ∧ 1 ≤ y ∧ y ≤ 5) ∧ Pcs ps)) : ttR x y ps l = false := by
  unfold ttR
  rw [decide_eq_false h, Bool.false_and]

set_option maxRecDepth 100000 in
set_option maxHeartbeats 3200000 in
theorem implTT_yes (W H : Nat) (hW : 1 ≤ W ∧ W ≤ 5) (hH : 1 ≤ H ∧ H ≤ 5) (sa : Option Addr) (cs : Nat) (ps : List (List Cl)) (al : Option Addr) (cl : Nat) (l : List Int) (w : World) (hp : Pcs ps) (hT : Tab w) (_hnp : ps.length ≤ 1048576) (_hl : ∀ p ∈ ps, p.length ≤ 1048576) (hnl : l.length ≤ 1048576) (hcp : ShpsAt w sa ps) (hcl : CellsAt w al (ints l)) :
    Calls Tryz.prog 41 #[.int .i64 W, .int .i64 H, .slice sa ps.length cs, .slice al l.length cl] w fun e w' => e = .returned (.bool (ttR W H ps l)) ∧ Below w.heap.size w w' := by
  obtain ⟨n, pn, n1, hnd, hn25, hpd, hpn, hn1, hn1p, t1, t2, t3⟩ := tor_all hW hH
  have hmk : ∀ v ∈ torAll W H ps, Mk v := fun v hv => (torAll_mk (by omega) (by omega) ps v hv).mk (by omega)
  have hlen := torAll_length (by omega : W * H ≤ 25) hp.2.2
  have hd : ttR W H ps l = covL (torAll W H ps) n1 l := by rw [ttR_yes hW hH hp, hn1]
  rw [hd]
  have HSM := Lib.hid hmk
  have HCP := Lib.hid hcp
  have HCL := Lib.hid hcl
  have HAL := Lib.hid (implTAll_yes W H hW hH sa cs ps w hp hcp)
  have HT := Lib.hid hT
  clear hmk hcp hcl hp _hl hd hpd hn1 hT hnd
  generalize torAll W H ps = A at HSM HAL hlen ⊢
  go_enter Tryz.func41, Tryz.ntmps41
  go_wp2_with fail
  refine HAL.out.mono ?_
  rintro e w1 ⟨aa, ca, rfl, ho1, hb1⟩
  have HB1 := Lib.hid hb1
  have hsz1 := hb1.size
  have HCV := Lib.hid (implCover aa ca A n1 al cl l w1 (by omega) HSM.out hnl (HT.out.below hb1) (ownsRow_cellsAt ho1) (HCL.out.below hb1))
  clear ho1 hb1
  go_wp2_with fail
  refine HCV.out.mono ?_
  rintro e w2 ⟨rfl, hb2⟩
  have HB2 := Lib.hid (HB1.out.trans (hb2.mono hsz1))
  clear hb2
  go_wp2
  go_ret
  exact ⟨rfl, HB2.out⟩

set_option maxRecDepth 100000 in
set_option maxHeartbeats 3200000 in
theorem implTT_no (x y : Int) (sa : Option Addr) (cs : Nat) (ps : List (List Cl)) (al : Option Addr) (cl : Nat) (l : List Int) (w : World) (h : ¬ ((1 ≤ x ∧ x ≤ 5 ∧ 1 ≤ y ∧ y ≤ 5) ∧ Pcs ps)) (hnp : ps.length ≤ 1048576) (hl : ∀ p ∈ ps, p.length ≤ 1048576) (_hnl : l.length ≤ 1048576) (hcp : ShpsAt w sa ps) (_hcl : CellsAt w al (ints l)) :
    Calls Tryz.prog 41 #[.int .i64 x, .int .i64 y, .slice sa ps.length cs, .slice al l.length cl] w fun e w' => e = .returned (.bool (ttR x y ps l)) ∧ Below w.heap.size w w' := by
  rw [ttR_no h]
  have HAL := Lib.hid (implTAll_no x y sa cs ps w h hnp hl hcp)
  clear hcp _hcl hl h
  go_enter Tryz.func41, Tryz.ntmps41
  go_wp2_with fail
  refine HAL.out.mono ?_
  rintro e w1 ⟨rfl, hb1⟩
  have HB1 := Lib.hid hb1
  clear hb1
  go_wp2
  go_ret
  exact ⟨rfl, HB1.out⟩

set_option maxRecDepth 100000 in
set_option maxHeartbeats 3200000 in
theorem specTT_yes (W H : Nat) (hW : 1 ≤ W ∧ W ≤ 5) (hH : 1 ≤ H ∧ H ≤ 5) (sa : Option Addr) (cs : Nat) (ps : List (List Cl)) (al : Option Addr) (cl : Nat) (l : List Int) (w : World) (hp : Pcs ps) (hnp : ps.length ≤ 1048576) (hl : ∀ p ∈ ps, p.length ≤ 1048576) (hnl : l.length ≤ 1048576) (hcp : ShpsAt w sa ps) (hcl : CellsAt w al (ints l)) :
    Calls Tryz.prog 42 #[.int .i64 W, .int .i64 H, .slice sa ps.length cs, .slice al l.length cl] w fun e w' => e = .returned (.bool (ttR W H ps l)) ∧ Below w.heap.size w w' := by
  obtain ⟨n, pn, n1, hnd, hn25, hpd, hpn, hn1, hn1p, t1, t2, t3⟩ := tor_all hW hH
  have hmk : ∀ v ∈ torAll W H ps, Mk v := fun v hv => (torAll_mk (by omega) (by omega) ps v hv).mk (by omega)
  have hlen := torAll_length (by omega : W * H ≤ 25) hp.2.2
  have hd : ttR W H ps l = covL (torAll W H ps) n1 l := by rw [ttR_yes hW hH hp, hn1]
  rw [hd]
  have HSM := Lib.hid hmk
  have HCP := Lib.hid hcp
  have HCL := Lib.hid hcl
  have hpc := specPieces sa cs ps w hnp hl hcp
  rw [decide_eq_true hp] at hpc
  have HPC := Lib.hid hpc
  have HAL := Lib.hid (fun w' h => specTAll W H hW hH sa cs ps w' hp h)
  have HF := Lib.hid (l16Fine_yes (W : Int) (H : Int) w (by omega) (by omega) (by omega) (by omega))
  clear hmk hcp hcl hp hl hd hpd hn1 hpc hnd
  generalize torAll W H ps = A at HSM HAL hlen ⊢
  have hlA : A.length ≤ 1048576 := by omega
  go_enter Tryz.func42, Tryz.ntmps42
  go_wp2_with fail
  refine HF.out.mono ?_
  rintro e w' ⟨rfl, rfl⟩
  go_wp2_with fail
  refine HPC.out.mono ?_
  rintro e w1 ⟨rfl, hb1⟩
  have HB1 := Lib.hid hb1
  have hsz1 := hb1.size
  clear hb1
  go_wp2_with fail
  refine (HAL.out w1 (HCP.out.below HB1.out)).mono ?_
  rintro e w3 ⟨aa, ca, rfl, ho3, hb3⟩
  have HB3 := Lib.hid (HB1.out.trans (hb3.mono hsz1))
  have hsz3 := HB3.out.size
  have HAW := Lib.hid (ownsRow_cellsAt ho3)
  have HLW := Lib.hid (HCL.out.below HB3.out)
  clear hb3 ho3
  go_wp2
  go_loopw [10, 11] (fun uv i wr => ∃ k U : Nat, k ≤ l.length ∧ i = .int .i64 k ∧ uv = .int .i64 U ∧ U = usedTo l k ∧ U < 68719476736 ∧ covTo A l k = true ∧ Below w3.heap.size w3 wr) (fun _ i _ => l.length - (intOf i).toNat)
  case atStart => exact ⟨0, 0, Nat.zero_le _, rfl, rfl, rfl, by decide, rfl, Below.refl _ _⟩
  case round =>
    obtain ⟨k, U, hk, rfl, rfl, hU, hUl, hap, hb⟩ := hrel
    have HAP := Lib.hid hap
    have HB := Lib.hid hb
    have HUU := Lib.hid hU
    have hszr := hb.size
    clear hap hb hU
    by_cases hlt : k < l.length
    · obtain ⟨g, off, rfl, hg, hcc⟩ := HLW.out.open (by rw [ints_length]; omega)
      have x0 := (HB.out.cell (p := ⟨g, off + k, none⟩) hg).trans (hcc k _ (ints_at l k hlt))
      have i1 : (k : Int) < (l.length : Int) := by omega
      have hst0 := covStep_at A l k hlt
      have hnx0 := usedTo_at l k hlt
      rw [← HUU.out] at hst0 hnx0
      have HHC0 := Lib.hid (fun w' h => spec7Has aa ca A l[k] w' hlA h)
      have HST := Lib.hid hst0
      have HNX := Lib.hid hnx0
      clear hst0 hnx0
      have hjs : ∀ j, k = j + 1 → ∃ h : j < l.length, l.getD (k - 1) 0 = l[j] ∧ l[j] ∈ A ∧ ∀ i, l[j].toNat.testBit i = true → U.testBit i = true := fun j hj => by
        have hjl : j < l.length := by omega
        have hc := HAP.out
        rw [hj] at hc
        obtain ⟨c1, c2⟩ := cov_prev hc hjl
        rw [← hj, ← HUU.out] at c2
        exact ⟨hjl, by rw [hj, Nat.add_sub_cancel, getD_at l j hjl], c1, c2⟩
      have HJS := Lib.hid hjs
      clear hjs
      generalize l[k] = v at x0 HHC0 HST HNX
      by_cases hin : v ∈ A
      · have hsm := HSM.out _ hin
        have HHC := HHC0
        rw [decide_eq_true hin] at HHC HST
        clear HHC0
        obtain ⟨u, rfl⟩ : ∃ u : Nat, v = (u : Int) := ⟨v.toNat, by have := hsm.1; omega⟩
        have hu0 : 0 < u := by have := hsm.1; omega
        have hu : u < 68719476736 := by have := hsm.2; omega
        rw [Int.toNat_natCast] at HST HNX
        have hand := i64_and_nat U u (by omega) (by omega)
        have hor := i64_or_nat U u (by omega) (by omega)
        have hm0 : U ||| u < 68719476736 := Nat.or_lt_two_pow (n := 36) hUl hu
        obtain ⟨q, hq⟩ : ∃ q, q = U &&& u := ⟨_, rfl⟩
        obtain ⟨m2, hm2⟩ : ∃ m2, m2 = U ||| u := ⟨_, rfl⟩
        rw [← hm2] at hor hm0 HNX
        rw [← hq] at hand HST
        have HLT := Lib.hid hm0
        have HQ := Lib.hid hq
        clear hq hm2 hin hsm hm0
        by_cases hz : q = 0
        · subst hz
          have hz1 : (((0 : Nat) : Int) != 0) = false := rfl
          rcases Nat.eq_zero_or_pos k with h0 | h0
          · have g0 : decide ((0 : Int) < (k : Int)) = false := decide_eq_false (by omega)
            have g0n : decide (0 < k) = false := decide_eq_false (by omega)
            clear HJS HQ
            have hap2 : covTo A l (k + 1) = true := by rw [covTo, HAP.out, HST.out]; simp [h0]
            have HAP2 := Lib.hid hap2
            clear hap2
            clear h0 hu hu0
            have X0 := cell_regrown x0
            have HCALL := Lib.hid (fun d os => Calls.regrown_of (d := d) (os := os) (HHC.out (Go.Sort.grow (redrawn wr d) os) (HAW.out.below (HB.out.trans ((below_regrown wr d os).mono hszr)))))
            clear x0
            go_wp2
            refine wp_region_quiet_below (by kernel_rfl) (by kernel_rfl) ?_
            repeat (go_big_quiet_step (exact HCALL.out _ _))
            refine wpQuiet_nil ?_
            intro _ hw'
            obtain ⟨⟨dq, osq⟩, hw''⟩ := hw'
            subst hw''
            have hb5r := below_regrown wr dq osq
            have x0 := X0 dq osq
            generalize Go.Sort.grow (redrawn wr dq) osq = w5 at hb5r x0 ⊢
            have HB5 := Lib.hid (HB.out.trans (hb5r.mono hszr))
            clear hb5r X0
            go_wp2
            go_roundw
            case rel => exact ⟨k + 1, m2, by omega, by go_num, rfl, HNX.out, HLT.out, HAP2.out, HB5.out⟩
            case measure => simp [intOf]; omega
          · obtain ⟨j, hj⟩ : ∃ j, k = j + 1 := ⟨k - 1, by omega⟩
            obtain ⟨hjl, hpj, hpA, hpU⟩ := HJS.out j hj
            have g0 : decide ((0 : Int) < (k : Int)) = true := decide_eq_true (by omega)
            have g0n : decide (0 < k) = true := decide_eq_true (by omega)
            have tk : wrap64 ((k : Int) - 1) = (j : Int) := by rw [hj]; push_cast; rw [Int.add_sub_cancel]; exact wrap_nat (by omega)
            have tk2 : IntKind.i64.wrap ((k : Int) - 1) = (j : Int) := by rw [IntWalk.i64_left]; exact tk
            have i2 : (j : Int) < (l.length : Int) := by omega
            rw [hpj] at HST
            have x1 := (HB.out.cell (p := ⟨g, off + j, none⟩) hg).trans (hcc j _ (ints_at l j hjl))
            have hsm := HSM.out _ hpA
            clear hpj HJS hpA
            generalize l[j] = pv at x1 HST hsm hpU
            obtain ⟨p, rfl⟩ : ∃ p : Nat, pv = (p : Int) := ⟨pv.toNat, by have := hsm.1; omega⟩
            have hp0 : 0 < p := by have := hsm.1; omega
            have hp : p < 68719476736 := by have := hsm.2; omega
            rw [Int.toNat_natCast] at HST hpU
            have hne := low_ne hp0 (Nat.lt_trans hp (by decide)) hu0 (Nat.lt_trans hu (by decide)) hpU HQ.out.symm
            have hl1 := low_lt hp0 (Nat.lt_trans hp (by decide))
            have hl2 := low_lt hu0 (Nat.lt_trans hu (by decide))
            have HLOWp := Lib.hid (fun w' => specLow p w' (by omega) (by omega))
            have HLOWu := Lib.hid (fun w' => specLow u w' (by omega) (by omega))
            have HJ := Lib.hid hj
            have hk0 : ¬ k = 0 := by omega
            clear hj hsm hpU hp0 hp hu0 hu HQ
            generalize lowB p = a at HLOWp HST hne hl1
            generalize lowB u = b at HLOWu HST hne hl2
            by_cases hpv : a < b
            · have gv : decide ((b : Int) < (a : Int)) = false := decide_eq_false (by omega)
              have gvn : decide (b < a) = false := decide_eq_false (by omega)
              have hap2 : covTo A l (k + 1) = true := by rw [covTo, HAP.out, HST.out]; simp [hpv]
              have HAP2 := Lib.hid hap2
              clear hap2
              clear hpv hk0 hne
              have X0 := cell_regrown x0
              have X1 := cell_regrown x1
              have HLP := Lib.hid (fun d os => Calls.regrown_of (d := d) (os := os) (HLOWp.out (Go.Sort.grow (redrawn wr d) os)))
              have HLU := Lib.hid (fun d os => Calls.regrown_of (d := d) (os := os) (HLOWu.out (Go.Sort.grow (redrawn wr d) os)))
              have HCALL := Lib.hid (fun d os => Calls.regrown_of (d := d) (os := os) (HHC.out (Go.Sort.grow (redrawn wr d) os) (HAW.out.below (HB.out.trans ((below_regrown wr d os).mono hszr)))))
              clear x0 x1
              go_wp2
              refine wp_region_quiet_below (by kernel_rfl) (by kernel_rfl) ?_
              repeat (go_big_quiet_step ((go_at_call 68; exact HCALL.out _ _)))
              go_big_quiet_step (exact HLU.out _ _)
              repeat (go_big_quiet_step (fail))
              go_big_quiet_step (exact HLP.out _ _)
              repeat (go_big_quiet_step (fail))
              refine wpQuiet_nil ?_
              intro _ hw'
              obtain ⟨⟨dq, osq⟩, hw''⟩ := hw'
              subst hw''
              have hb5r := below_regrown wr dq osq
              have x0 := X0 dq osq
              generalize Go.Sort.grow (redrawn wr dq) osq = w5 at hb5r x0 ⊢
              have HB5 := Lib.hid (HB.out.trans (hb5r.mono hszr))
              clear hb5r X0 X1
              go_wp2
              go_roundw
              case rel => exact ⟨k + 1, m2, by omega, by go_num, rfl, HNX.out, HLT.out, HAP2.out, HB5.out⟩
              case measure => simp [intOf]; omega
            · have gv : decide ((b : Int) < (a : Int)) = true := decide_eq_true (by omega)
              have gvn : decide (b < a) = true := decide_eq_true (by omega)
              have hst := HST.out
              rw [decide_eq_false hpv, decide_eq_false hk0] at hst
              have HV := Lib.hid (covTo_false (l := l) (A := A) (by rw [covTo, HAP.out, hst]; rfl : covTo A l (k + 1) = false) (by omega : k + 1 ≤ l.length))
              clear hst
              clear hpv hk0 hne
              have X0 := cell_regrown x0
              have X1 := cell_regrown x1
              have HLP := Lib.hid (fun d os => Calls.regrown_of (d := d) (os := os) (HLOWp.out (Go.Sort.grow (redrawn wr d) os)))
              have HLU := Lib.hid (fun d os => Calls.regrown_of (d := d) (os := os) (HLOWu.out (Go.Sort.grow (redrawn wr d) os)))
              have HCALL := Lib.hid (fun d os => Calls.regrown_of (d := d) (os := os) (HHC.out (Go.Sort.grow (redrawn wr d) os) (HAW.out.below (HB.out.trans ((below_regrown wr d os).mono hszr)))))
              clear x0 x1
              go_wp2
              refine wp_region_quiet_below (by kernel_rfl) (by kernel_rfl) ?_
              repeat (go_big_quiet_step ((go_at_call 68; exact HCALL.out _ _)))
              go_big_quiet_step (exact HLU.out _ _)
              repeat (go_big_quiet_step (fail))
              go_big_quiet_step (exact HLP.out _ _)
              repeat (go_big_quiet_step (fail))
              refine wpQuiet_nil ?_
              intro _ hw'
              obtain ⟨⟨dq, osq⟩, hw''⟩ := hw'
              subst hw''
              have hb5r := below_regrown wr dq osq
              have x0 := X0 dq osq
              generalize Go.Sort.grow (redrawn wr dq) osq = w5 at hb5r x0 ⊢
              have HB5 := Lib.hid (HB.out.trans (hb5r.mono hszr))
              clear hb5r X0 X1
              go_wp2
              go_ret
              rw [covL_false HV.out]
              exact ⟨rfl, HB3.out.trans (HB5.out.mono hsz3)⟩
        · have hz1 : ((q : Int) != 0) = true := by simp; omega
          have hst := HST.out
          rw [decide_eq_false hz] at hst
          have HV := Lib.hid (covTo_false (l := l) (A := A) (by rw [covTo, HAP.out, hst]; rfl : covTo A l (k + 1) = false) (by omega : k + 1 ≤ l.length))
          clear hst
          clear hz HJS HQ
          have X0 := cell_regrown x0
          have HCALL := Lib.hid (fun d os => Calls.regrown_of (d := d) (os := os) (HHC.out (Go.Sort.grow (redrawn wr d) os) (HAW.out.below (HB.out.trans ((below_regrown wr d os).mono hszr)))))
          clear x0
          go_wp2
          refine wp_region_quiet_below (by kernel_rfl) (by kernel_rfl) ?_
          repeat (go_big_quiet_step (exact HCALL.out _ _))
          refine wpQuiet_nil ?_
          intro _ hw'
          obtain ⟨⟨dq, osq⟩, hw''⟩ := hw'
          subst hw''
          have hb5r := below_regrown wr dq osq
          have x0 := X0 dq osq
          generalize Go.Sort.grow (redrawn wr dq) osq = w5 at hb5r x0 ⊢
          have HB5 := Lib.hid (HB.out.trans (hb5r.mono hszr))
          clear hb5r X0
          go_wp2
          go_ret
          rw [covL_false HV.out]
          exact ⟨rfl, HB3.out.trans (HB5.out.mono hsz3)⟩
      · have HHC := HHC0
        rw [decide_eq_false hin] at HHC HST
        clear HHC0 HJS hin
        have HV := Lib.hid (covTo_false (l := l) (A := A) (by rw [covTo, HAP.out, HST.out]; rfl : covTo A l (k + 1) = false) (by omega : k + 1 ≤ l.length))
        have X0 := cell_regrown x0
        have HCALL := Lib.hid (fun d os => Calls.regrown_of (d := d) (os := os) (HHC.out (Go.Sort.grow (redrawn wr d) os) (HAW.out.below (HB.out.trans ((below_regrown wr d os).mono hszr)))))
        clear x0
        go_wp2
        refine wp_region_quiet_below (by kernel_rfl) (by kernel_rfl) ?_
        repeat (go_big_quiet_step (exact HCALL.out _ _))
        refine wpQuiet_nil ?_
        intro _ hw'
        obtain ⟨⟨dq, osq⟩, hw''⟩ := hw'
        subst hw''
        have hb5r := below_regrown wr dq osq
        have x0 := X0 dq osq
        generalize Go.Sort.grow (redrawn wr dq) osq = w5 at hb5r x0 ⊢
        have HB5 := Lib.hid (HB.out.trans (hb5r.mono hszr))
        clear hb5r X0
        go_wp2
        go_ret
        rw [covL_false HV.out]
        exact ⟨rfl, HB3.out.trans (HB5.out.mono hsz3)⟩
    · obtain rfl : k = l.length := by omega
      by_cases hun : U = n1
      · have HV := Lib.hid (show covL A n1 l = true from by unfold covL; rw [HAP.out, ← HUU.out, decide_eq_true hun]; rfl)
        subst hun
        have he : ((U : Int) == (U : Int)) = true := by simp
        go_wp2
        go_ret
        rw [HV.out]
        exact ⟨rfl, HB3.out.trans (HB.out.mono hsz3)⟩
      · have HV := Lib.hid (show covL A n1 l = false from by unfold covL; rw [HAP.out, ← HUU.out, decide_eq_false hun]; rfl)
        have he : ((U : Int) == (n1 : Int)) = false := by simp; omega
        have hen : (U == n1) = false := by simp; omega
        clear hun
        go_wp2
        go_ret
        rw [HV.out]
        exact ⟨rfl, HB3.out.trans (HB.out.mono hsz3)⟩

set_option maxRecDepth 100000 in
set_option maxHeartbeats 3200000 in
theorem specTT_no (x y : Int) (sa : Option Addr) (cs : Nat) (ps : List (List Cl)) (al : Option Addr) (cl : Nat) (l : List Int) (w : World) (h : ¬ ((1 ≤ x ∧ x ≤ 5 ∧ 1 ≤ y ∧ y ≤ 5) ∧ Pcs ps)) (hnp : ps.length ≤ 1048576) (hl : ∀ p ∈ ps, p.length ≤ 1048576) (_hnl : l.length ≤ 1048576) (hcp : ShpsAt w sa ps) (_hcl : CellsAt w al (ints l)) :
    Calls Tryz.prog 42 #[.int .i64 x, .int .i64 y, .slice sa ps.length cs, .slice al l.length cl] w fun e w' => e = .returned (.bool (ttR x y ps l)) ∧ Below w.heap.size w w' := by
  rw [ttR_no h]
  by_cases hf : 1 ≤ x ∧ x ≤ 5 ∧ 1 ≤ y ∧ y ≤ 5
  · have hs : ¬ Pcs ps := fun q => h ⟨hf, q⟩
    obtain ⟨h1, h2, h3, h4⟩ := hf
    have hpc := specPieces sa cs ps w hnp hl hcp
    rw [decide_eq_false hs] at hpc
    have HPC := Lib.hid hpc
    have HF := Lib.hid (l16Fine_yes x y w (by omega) (by omega) (by omega) (by omega))
    clear hs h hcp hpc hl _hcl
    go_enter Tryz.func42, Tryz.ntmps42
    go_wp2_with fail
    refine HF.out.mono ?_
    rintro e w' ⟨rfl, rfl⟩
    go_wp2_with fail
    refine HPC.out.mono ?_
    rintro e w1 ⟨rfl, hb1⟩
    have HB1 := Lib.hid hb1
    clear hb1
    go_wp2
    go_ret
    exact ⟨rfl, HB1.out⟩
  · have HF := Lib.hid (l16Fine_no x y w hf)
    clear h hcp hf hl _hcl
    go_enter Tryz.func42, Tryz.ntmps42
    go_wp2_with fail
    refine HF.out.mono ?_
    rintro e w' ⟨rfl, rfl⟩
    go_wp2
    go_ret
    exact ⟨rfl, Below.refl _ _⟩

end Go.Proofs.YtajmdgcnnipdoaaGreatDoor
