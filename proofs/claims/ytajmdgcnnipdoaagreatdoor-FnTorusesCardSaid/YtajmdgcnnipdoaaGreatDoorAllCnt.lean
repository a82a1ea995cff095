/- AllCnt: parts laid together: SCount, CountT. -/
import Derived.Test.YtajmdgcnnipdoaaGreatDoorAllPl
import Derived.Test.YtajmdgcnnipdoaaGreatDoorAllLow
import Derived.BigQuiet
import Derived.IntWalk
import Derived.Deep.DrawnRows
import Derived.Test.YtajmdgcnnipdoaaGreatDoorAllTor
import Derived.Test.YtajmdgcnnipdoaaGreatDoorAllFill
import Derived.Deep.RegionHeld3
import Derived.BigRegion

/- SCount: the walk of l8Count: how many tilings there are, at most some. -/
namespace Go.Proofs.YtajmdgcnnipdoaaGreatDoor
open Go.RowKit

attribute [local go_sem ↓] Go.wp_at_zero Go.wp_at_succ

set_option maxRecDepth 100000 in
set_option maxHeartbeats 3200000 in
theorem specCount_pos (aa : Option Addr) (ca : Nat) (A : List Int) (f : Nat) (hlA : A.length ≤ 1048576) (hs : ∀ v ∈ A, Mk v)
    (ih : ∀ (free most : Nat) (w : World), free ≤ f → free < 68719476736 → 1 ≤ most → most ≤ 2000 → CellsAt w aa (ints A) → Calls Tryz.prog 102 #[.slice aa A.length ca, .int .i64 free, .int .i64 most] w fun e w' => e = .returned (.int .i64 (min most (srchF A f free).length : Nat)) ∧ Below w.heap.size w w')
    (free most : Nat) (w : World) (h0 : 0 < free) (hf : free ≤ f + 1) (h36 : free < 68719476736) (hm1 : 1 ≤ most) (hm : most ≤ 2000) (hc : CellsAt w aa (ints A)) :
    Calls Tryz.prog 102 #[.slice aa A.length ca, .int .i64 free, .int .i64 most] w fun e w' => e = .returned (.int .i64 (min most (srchF A (f + 1) free).length : Nat)) ∧ Below w.heap.size w w' := by
  rw [srchF_pos A f (by omega)]
  have hmono := fun k (hk : k ≤ A.length) => goS_len A (srchF A f) free hk
  have HMONO := Lib.hid hmono
  have HIH := Lib.hid ih
  have HSM := Lib.hid hs
  have HC := Lib.hid hc
  have HLW := Lib.hid (fun w' => specLow free w' h0 h36)
  have HST := Lib.hid (fun k (hk : k < A.length) (hy : fitsB free A[k] = true) => goS_yes (rec := srchF A f) hk hy)
  have HSN := Lib.hid (fun k (hk : k < A.length) (hy : fitsB free A[k] = false) => goS_no (rec := srchF A f) hk hy)
  have HFB := Lib.hid (fitsB_def free)
  have hl64 := low_lt h0 (Nat.lt_trans h36 (by decide))
  clear hmono ih hs hc
  generalize hT : goS A (srchF A f) free A.length = T at HMONO ⊢
  have HT := Lib.hid hT
  clear hT
  generalize lowB free = low at HLW hl64 HFB
  have z1 : ((free : Int) == 0) = false := by simp; omega
  go_enter Tryz.func102, Tryz.ntmps102
  go_wp2_with fail
  refine (HLW.out w).mono ?_
  rintro e w0 ⟨rfl, hb0⟩
  have HB0 := Lib.hid hb0
  have hsz0 := hb0.size
  clear hb0
  go_wp2
  go_loopw [7, 9] (fun nv i wr => ∃ k n : Nat, k ≤ A.length ∧ i = .int .i64 k ∧ nv = .int .i64 n ∧ n ≤ most ∧ n = min most (goS A (srchF A f) free k).length ∧ Below w0.heap.size w0 wr) (fun _ i _ => A.length - (intOf i).toNat)
  case atStart => exact ⟨0, 0, Nat.zero_le _, rfl, rfl, Nat.zero_le _, by rw [goS]; simp, Below.refl _ _⟩
  case round =>
    obtain ⟨k, n, hk, rfl, rfl, hnm, hn, hb⟩ := hrel
    have HB := Lib.hid hb
    have HN := Lib.hid hn
    have hszr := hb.size
    clear hb hn
    by_cases hlt : k < A.length
    · have i1 : (k : Int) < (A.length : Int) := by omega
      by_cases hnl : n < most
      · have i2 : (n : Int) < (most : Int) := by omega
        obtain ⟨g, off, rfl, hg, hcc⟩ := HC.out.open (by rw [ints_length]; omega)
        have x0 := (HB.out.cell (p := ⟨g, off + k, none⟩) (by simp; omega)).trans ((HB0.out.cell (p := ⟨g, off + k, none⟩) hg).trans (hcc k _ (ints_at A k hlt)))
        have hsm := HSM.out _ (List.getElem_mem hlt)
        have HYES := Lib.hid (HST.out k hlt)
        have HNO := Lib.hid (HSN.out k hlt)
        have HFB1 := Lib.hid (HFB.out A[k])
        clear hcc
        generalize A[k] = v at x0 hsm HYES HNO HFB1
        obtain ⟨u, rfl⟩ : ∃ u : Nat, v = (u : Int) := ⟨v.toNat, by have := hsm.1; omega⟩
        have hu0 : 0 < u := by have := hsm.1; omega
        have hu : u < 68719476736 := by have := hsm.2; omega
        have hand := i64_and_nat u free (by omega) (by omega)
        have hfb := HFB1.out
        rw [Int.toNat_natCast] at hfb HYES
        clear hsm HFB1
        cases htb : u.testBit low with
        | true =>
          rw [htb, Bool.true_and] at hfb
          by_cases hq : u &&& free = u
          · rw [hq] at hand
            rw [decide_eq_true hq] at hfb
            have hle := fits_sub hq
            obtain ⟨fr2, hfr⟩ : ∃ fr2 : Nat, free = fr2 + u := ⟨free - u, by omega⟩
            have hyes := HYES.out hfb
            rw [show free - u = fr2 by omega] at hyes
            have HY := Lib.hid hyes
            have hfr36 : fr2 < 68719476736 := Nat.lt_of_le_of_lt (show fr2 ≤ free by rw [hfr]; exact Nat.le_add_right _ _) h36
            have hff : fr2 ≤ f := by omega
            have HCAL := Lib.hid (fun w' h => HIH.out fr2 (most - n) w' hff hfr36 (by omega) (by omega) h)
            obtain ⟨rm, hrm⟩ : ∃ rm, rm = most - n := ⟨_, rfl⟩
            rw [← hrm] at HCAL
            obtain ⟨cn, hcn⟩ : ∃ cn, cn = min rm (srchF A f fr2).length := ⟨_, rfl⟩
            rw [← hcn] at HCAL
            have hcm : cn ≤ 2000 := by omega
            have hnew : n + cn = min most (goS A (srchF A f) free (k + 1)).length := by
              rw [HY.out, List.length_append, List.length_map]
              have := HN.out
              omega
            have HNEW := Lib.hid hnew
            have hnc : n + cn ≤ most := by omega
            have hrm2 : rm ≤ 2000 := by omega
            have s1 : (free : Int) - (u : Int) = (fr2 : Int) := by omega
            have s2 : (most : Int) - (n : Int) = (rm : Int) := by omega
            obtain ⟨nc, hnd⟩ : ∃ nc, nc = n + cn := ⟨_, rfl⟩
            have s3 : (n : Int) + (cn : Int) = (nc : Int) := by omega
            rw [← hnd] at HNEW hnc
            have s4 : wrap64 (nc : Int) = (nc : Int) := wrap_nat (Nat.lt_of_le_of_lt (Nat.le_trans hnc hm) (by decide))
            have s5 : IntKind.i64.wrap (nc : Int) = (nc : Int) := by rw [IntWalk.i64_left]; exact s4
            clear hnd
            clear hnew hcn hrm hq hfb hyes hle hfr
            have hsh := and_shr_one u low (Nat.lt_trans hu (by decide))
            rw [htb, if_pos rfl] at hsh
            go_wp2
            go_big_quiet (fail)
            have y0 := (below_drewN (Below.refl wr.heap.size wr) nq).cell (p := ⟨g, off + k, none⟩) (by have := HB0.out.size; simp; omega)
            have y0 := y0.trans x0
            go_wp2_with fail
            refine (HCAL.out _ (HC.out.below ((HB0.out.trans (HB.out.mono hsz0)).trans ((below_drewN (Below.refl wr.heap.size wr) nq).mono (Nat.le_trans hsz0 hszr))))).mono ?_
            rintro e w5 ⟨rfl, hb5⟩
            have HB5 := Lib.hid ((below_drewN HB.out nq).trans (hb5.mono hszr))
            clear hb5
            go_wp2
            go_roundw
            case rel => exact ⟨k + 1, nc, by omega, by go_num, rfl, hnc, HNEW.out, HB5.out⟩
            case measure => simp [intOf]; omega
          · rw [decide_eq_false hq] at hfb
            obtain ⟨q, hqd⟩ : ∃ q, q = u &&& free := ⟨_, rfl⟩
            rw [← hqd] at hand hq
            have HSAME := Lib.hid (HNO.out hfb)
            have he : ((q : Int) == (u : Int)) = false := by simp; omega
            have hen : (q == u) = false := by simp; omega
            clear hqd hq hfb
            have hsh := and_shr_one u low (Nat.lt_trans hu (by decide))
            rw [htb, if_pos rfl] at hsh
            go_wp2
            go_big_quiet (fail)
            go_wp2
            go_roundw
            case rel => exact ⟨k + 1, n, by omega, by go_num, rfl, hnm, by rw [HSAME.out]; exact HN.out, below_drewN HB.out _⟩
            case measure => simp [intOf]; omega
        | false =>
          have hsh := and_shr_one u low (Nat.lt_trans hu (by decide))
          rw [htb, if_neg (by simp)] at hsh
          rw [htb, Bool.false_and] at hfb
          have HSAME := Lib.hid (HNO.out hfb)
          clear hfb
          go_wp2
          go_big_quiet (fail)
          go_wp2
          go_roundw
          case rel => exact ⟨k + 1, n, by omega, by go_num, rfl, hnm, by rw [HSAME.out]; exact HN.out, below_drewN HB.out _⟩
          case measure => simp [intOf]; omega
      · have hmk := HMONO.out k hk
        have HV := Lib.hid (show n = min most T.length by have := HN.out; omega)
        clear hmk
        go_wp2
        go_ret
        rw [← HV.out]
        exact ⟨rfl, HB0.out.trans (HB.out.mono hsz0)⟩
    · obtain rfl : k = A.length := by omega
      rw [HT.out] at HN
      go_wp2
      go_ret
      rw [← HN.out]
      exact ⟨rfl, HB0.out.trans (HB.out.mono hsz0)⟩

set_option maxRecDepth 100000 in
set_option maxHeartbeats 1600000 in
theorem specCount (aa : Option Addr) (ca : Nat) (A : List Int) (hlA : A.length ≤ 1048576) (hs : ∀ v ∈ A, Mk v) : ∀ (f free most : Nat) (w : World), free ≤ f → free < 68719476736 → 1 ≤ most → most ≤ 2000 → CellsAt w aa (ints A) →
    Calls Tryz.prog 102 #[.slice aa A.length ca, .int .i64 free, .int .i64 most] w fun e w' => e = .returned (.int .i64 (min most (srchF A f free).length : Nat)) ∧ Below w.heap.size w w' := by
  have zero : ∀ (f most : Nat) (w : World), 1 ≤ most → Calls Tryz.prog 102 #[.slice aa A.length ca, .int .i64 (0 : Nat), .int .i64 most] w fun e w' => e = .returned (.int .i64 (min most (srchF A f 0).length : Nat)) ∧ Below w.heap.size w w' := by
    intro f most w h1
    rw [srchF_zero, show min most ([[]] : List (List Int)).length = 1 by simp; omega]
    go_enter Tryz.func102, Tryz.ntmps102
    go_wp2
    go_ret
    exact ⟨rfl, Below.refl _ _⟩
  intro f
  induction f with
  | zero =>
    intro free most w hf _ h1 _ _
    obtain rfl : free = 0 := by omega
    exact zero 0 most w h1
  | succ f ih =>
    intro free most w hf h36 h1 hm hc
    rcases Nat.eq_zero_or_pos free with h0 | h0
    · subst h0
      exact zero _ most w h1
    · exact specCount_pos aa ca A f hlA hs ih free most w h0 hf h36 h1 hm hc
end Go.Proofs.YtajmdgcnnipdoaaGreatDoor

/- CountT: the walks of CountTorusTilings, the reference's and the program's. -/
namespace Go.Proofs.YtajmdgcnnipdoaaGreatDoor
open Go.RowKit

attribute [local go_sem ↓] Go.wp_at_zero Go.wp_at_succ

set_option maxRecDepth 100000 in
set_option maxHeartbeats 3200000 in
theorem implCT_yes (W H : Nat) (hW : 1 ≤ W ∧ W ≤ 5) (hH : 1 ≤ H ∧ H ≤ 5) (sa : Option Addr) (cs : Nat) (ps : List (List Cl)) (w : World) (hp : Pcs ps) (hT : Tab w) (hcp : ShpsAt w sa ps) :
    Calls Tryz.prog 47 #[.int .i64 W, .int .i64 H, .slice sa ps.length cs] w fun e w' => e = .returned (.int .i64 (ctR W H ps)) ∧ Below w.heap.size w w' := by
  have hd : ctR W H ps = ((min 2000 (torF W H ps).length : Nat) : Int) := if_pos ⟨⟨by omega, by omega, by omega, by omega⟩, hp⟩
  rw [hd, torF_yes hW hH hp]
  obtain ⟨n, pn, n1, ⟨hn1, hn25, hpn, hn1p⟩, t1, t2, t3, t4, t5, t6, t7⟩ := tor_all2 hW hH
  rw [← hn1]
  have hmk : ∀ v ∈ torAll W H ps, Mk v := fun v hv => (torAll_mk (by omega) (by omega) ps v hv).mk (by omega)
  have hlen := torAll_length (by omega : W * H ≤ 25) hp.2.2
  have HSM := Lib.hid hmk
  have HAL := Lib.hid (implTAll_yes W H hW hH sa cs ps w hp hcp)
  have HT := Lib.hid hT
  clear hmk hcp hp hd hn1 hT
  generalize torAll W H ps = A at HSM HAL hlen ⊢
  have HN1 := Lib.hid (show n1 < 68719476736 by omega)
  have hcn : min 2000 (srchF A n1 n1).length ≤ 2000 := Nat.min_le_left _ _
  have HCU := Lib.hid (fun aa ca w1 h1 h2 => implCountUpTo aa ca A n1 2000 w1 (by omega) HSM.out HN1.out (by omega) (by omega) h1 h2)
  generalize min 2000 (srchF A n1 n1).length = cn at HCU hcn ⊢
  go_enter Tryz.func47, Tryz.ntmps47
  go_wp2_with fail
  refine HAL.out.mono ?_
  rintro e w1 ⟨aa, ca, rfl, ho1, hb1⟩
  have HB1 := Lib.hid hb1
  have hsz1 := hb1.size
  have HCV := Lib.hid (HCU.out aa ca w1 (HT.out.below hb1) (ownsRow_cellsAt ho1))
  clear ho1 hb1
  go_wp2_with fail
  refine HCV.out.mono ?_
  rintro e w2 ⟨rfl, hb2⟩
  have HB2 := Lib.hid (HB1.out.trans (hb2.mono hsz1))
  clear hb2
  go_wp2
  go_ret
  exact ⟨rfl, HB2.out⟩

set_option maxRecDepth 100000 in
set_option maxHeartbeats 3200000 in
theorem implCT_no (x y : Int) (sa : Option Addr) (cs : Nat) (ps : List (List Cl)) (w : World) (h : ¬ TorOk x y ps) (hnp : ps.length ≤ 1048576) (hl : ∀ p ∈ ps, p.length ≤ 1048576) (hcp : ShpsAt w sa ps) :
    Calls Tryz.prog 47 #[.int .i64 x, .int .i64 y, .slice sa ps.length cs] w fun e w' => e = .returned (.int .i64 (ctR x y ps)) ∧ Below w.heap.size w w' := by
  rw [show ctR x y ps = -1 from if_neg h]
  have HAL := Lib.hid (implTAll_no x y sa cs ps w h hnp hl hcp)
  clear hcp hl h
  go_enter Tryz.func47, Tryz.ntmps47
  go_wp2_with fail
  refine HAL.out.mono ?_
  rintro e w1 ⟨rfl, hb1⟩
  have HB1 := Lib.hid hb1
  clear hb1
  go_wp2
  go_ret
  exact ⟨rfl, HB1.out⟩

set_option maxRecDepth 100000 in
set_option maxHeartbeats 3200000 in
theorem specCT_yes (W H : Nat) (hW : 1 ≤ W ∧ W ≤ 5) (hH : 1 ≤ H ∧ H ≤ 5) (sa : Option Addr) (cs : Nat) (ps : List (List Cl)) (w : World) (hp : Pcs ps) (hnp : ps.length ≤ 1048576) (hl : ∀ p ∈ ps, p.length ≤ 1048576) (hcp : ShpsAt w sa ps) :
    Calls Tryz.prog 50 #[.int .i64 W, .int .i64 H, .slice sa ps.length cs] w fun e w' => e = .returned (.int .i64 (ctR W H ps)) ∧ Below w.heap.size w w' := by
  have hd : ctR W H ps = ((min 2000 (torF W H ps).length : Nat) : Int) := if_pos ⟨⟨by omega, by omega, by omega, by omega⟩, hp⟩
  rw [hd, torF_yes hW hH hp]
  obtain ⟨n, pn, n1, ⟨hn1, hn25, hpn, hn1p⟩, t1, t2, t3, t4, t5, t6, t7⟩ := tor_all2 hW hH
  rw [← hn1]
  have hmk : ∀ v ∈ torAll W H ps, Mk v := fun v hv => (torAll_mk (by omega) (by omega) ps v hv).mk (by omega)
  have hlen := torAll_length (by omega : W * H ≤ 25) hp.2.2
  have HSM := Lib.hid hmk
  have HCP := Lib.hid hcp
  have hpc := specPieces sa cs ps w hnp hl hcp
  rw [decide_eq_true hp] at hpc
  have HPC := Lib.hid hpc
  have HAL := Lib.hid (fun w' h => specTAll W H hW hH sa cs ps w' hp h)
  have HF := Lib.hid (l16Fine_yes (W : Int) (H : Int) w (by omega) (by omega) (by omega) (by omega))
  clear hmk hcp hp hl hd hn1 hpc
  generalize torAll W H ps = A at HSM HAL hlen ⊢
  have HN1 := Lib.hid (show n1 < 68719476736 by omega)
  have hcn : min 2000 (srchF A n1 n1).length ≤ 2000 := Nat.min_le_left _ _
  have HCU := Lib.hid (fun aa ca w1 h1 => specCount aa ca A (by omega) HSM.out n1 n1 2000 w1 (Nat.le_refl _) HN1.out (by omega) (by omega) h1)
  generalize min 2000 (srchF A n1 n1).length = cn at HCU hcn ⊢
  go_enter Tryz.func50, Tryz.ntmps50
  go_wp2_with fail
  refine HF.out.mono ?_
  rintro e w' ⟨rfl, rfl⟩
  go_wp2_with fail
  refine HPC.out.mono ?_
  rintro e w1 ⟨rfl, hb1⟩
  have HB1 := Lib.hid hb1
  have hsz1 := hb1.size
  clear hb1
  have HCP1 := Lib.hid (HCP.out.below HB1.out)
  go_wp2
  go_region_held3 (fun _ => True) (trivial)
    (first
      | (go_at_call 96; refine (HAL.out _ (by exact HCP1.out)).mono ?_; rintro e w3 ⟨aa, ca, rfl, ho3, hb3⟩; have hb3' : Below w1.heap.size w1 w3 := (by first | exact hb3 | exact (Below.refl _ _).drew.trans hb3); have hsz3 := hb3'.size; have HA3 := Lib.hid (ownsRow_cellsAt ho3))
      | (go_at_call 102; refine (HCU.out aa ca _ (by exact HA3.out)).mono ?_; rintro e w4 ⟨rfl, hb4⟩; have hb4' : Below w3.heap.size w3 w4 := (by first | exact hb4 | exact (Below.refl _ _).drew.trans hb4)))
  all_goals go_wp2
  all_goals go_ret
  all_goals exact ⟨rfl, HB1.out.trans ((hb3'.trans (hb4'.mono hsz3)).mono hsz1)⟩

set_option maxRecDepth 100000 in
set_option maxHeartbeats 3200000 in
theorem specCT_no (x y : Int) (sa : Option Addr) (cs : Nat) (ps : List (List Cl)) (w : World) (h : ¬ TorOk x y ps) (hnp : ps.length ≤ 1048576) (hl : ∀ p ∈ ps, p.length ≤ 1048576) (hcp : ShpsAt w sa ps) :
    Calls Tryz.prog 50 #[.int .i64 x, .int .i64 y, .slice sa ps.length cs] w fun e w' => e = .returned (.int .i64 (ctR x y ps)) ∧ Below w.heap.size w w' := by
  rw [show ctR x y ps = -1 from if_neg h]
  by_cases hf : 1 ≤ x ∧ x ≤ 5 ∧ 1 ≤ y ∧ y ≤ 5
  · have hs : ¬ Pcs ps := fun q => h ⟨hf, q⟩
    obtain ⟨h1, h2, h3, h4⟩ := hf
    have hpc := specPieces sa cs ps w hnp hl hcp
    rw [decide_eq_false hs] at hpc
    have HPC := Lib.hid hpc
    have HF := Lib.hid (l16Fine_yes x y w (by omega) (by omega) (by omega) (by omega))
    clear hs h hcp hpc hl
    go_enter Tryz.func50, Tryz.ntmps50
    go_wp2_with fail
    refine HF.out.mono ?_
    rintro e w' ⟨rfl, rfl⟩
    go_wp2_with fail
    refine HPC.out.mono ?_
    rintro e w1 ⟨rfl, hb1⟩
    have HB1 := Lib.hid hb1
    clear hb1
    go_wp2
    go_ret
    exact ⟨rfl, HB1.out⟩
  · have HF := Lib.hid (l16Fine_no x y w hf)
    clear h hcp hf hl
    go_enter Tryz.func50, Tryz.ntmps50
    go_wp2_with fail
    refine HF.out.mono ?_
    rintro e w' ⟨rfl, rfl⟩
    go_wp2
    go_ret
    exact ⟨rfl, Below.refl _ _⟩
end Go.Proofs.YtajmdgcnnipdoaaGreatDoor
