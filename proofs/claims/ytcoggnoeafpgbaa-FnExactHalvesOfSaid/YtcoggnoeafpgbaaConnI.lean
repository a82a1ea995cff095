/- ConnI: the walk of the program's hangs. -/
import Derived.Test.YtcoggnoeafpgbaaConn0
import Derived.Test.YtcoggnoeafpgbaaAllBase
import Derived.Lib.QuietBelow
import Derived.BigQuiet
import Derived.IntWalk
import Derived.Deep.DrawnRows
namespace Go.Proofs.Ytcoggnoeafpgbaa
open Go.RowKit

attribute [local go_sem ↓] Go.wp_at_zero Go.wp_at_succ

def bls (fl : List Bool) : List Value := fl.map Value.bool
theorem bls_at {fl : List Bool} {k : Nat} (h : k < fl.length) : (bls fl)[k]? = some (.bool (fl.getD k false)) := by
  unfold bls
  rw [List.getElem?_map, List.getElem?_eq_getElem h, List.getD_eq_getElem?_getD, List.getElem?_eq_getElem h]
  rfl
theorem bls_set (fl : List Bool) (k : Nat) (b : Bool) : (bls fl).set k (.bool b) = bls (fl.set k b) := by
  unfold bls
  rw [List.map_set]
theorem getD_set {fl : List Bool} {k i : Nat} (b : Bool) (h : k < fl.length) : (fl.set k b).getD i false = if i = k then b else fl.getD i false := by
  rw [List.getD_eq_getElem?_getD, List.getD_eq_getElem?_getD, List.getElem?_set]
  by_cases e : k = i
  · subst e
    rw [if_pos rfl, if_pos h, if_pos rfl]
    rfl
  · rw [if_neg e, if_neg (fun q => e q.symm)]
theorem count_set_true {fl : List Bool} {k : Nat} (h : k < fl.length) (hf : fl.getD k false = false) : (fl.set k true).count true = fl.count true + 1 := by
  have e : fl[k] = false := by
    rw [List.getD_eq_getElem?_getD, List.getElem?_eq_getElem h] at hf
    exact hf
  rw [List.count_set h, e]
  simp
theorem rep_false (n i : Nat) : (List.replicate n false).getD i false = false := by
  rw [List.getD_eq_getElem?_getD, List.getElem?_replicate]
  split <;> rfl
def mvOf : Value → Nat
  | .bool true => 1
  | _ => 0
/-- What the flags say: cells that can be come to, the first one among them. -/
def FlOk (s : List Cl) (fl : List Bool) : Prop := fl.length = s.length ∧ (∀ i, fl.getD i false = true → Rch s i) ∧ fl.getD 0 false = true
theorem hangs_fl {s : List Cl} {fl : List Bool} (h : FlOk s fl) (h0 : 0 < s.length) (hc : ∀ i, i < s.length → ∀ j, j < s.length → fl.getD i false = true → near (at0 s i) (at0 s j) = true → fl.getD j false = true) :
    fl.count true = s.length ↔ Hangs s := by
  obtain ⟨h1, h2, h3⟩ := h
  rw [← h1, List.count_eq_length]
  constructor
  · intro hq
    refine ⟨h0, fun j hj => h2 j ?_⟩
    rw [List.getD_eq_getElem?_getD, List.getElem?_eq_getElem (by omega)]
    exact (hq _ (List.getElem_mem _)).symm
  · rintro ⟨_, hq⟩ b hb
    obtain ⟨j, hj, rfl⟩ := List.mem_iff_getElem.1 hb
    have hr := rch_in (s := s) (S := fun i => i < s.length ∧ fl.getD i false = true) ⟨h0, h3⟩ (fun i j hi hj hn => ⟨hj, hc i hi.1 j hj hi.2 hn⟩) j (hq j (by omega))
    have := hr.2
    rw [List.getD_eq_getElem?_getD, List.getElem?_eq_getElem hj] at this
    exact this.symm

set_option maxRecDepth 100000 in
set_option maxHeartbeats 6400000 in
theorem implHangs (ad : Option Addr) (c : Nat) (s : List Cl) (b : Bool) (w : World) (hn8 : s.length ≤ 64) (hn1 : 0 < s.length) (hfit : ∀ x ∈ s, Fit x) (hb : b = true ↔ Hangs s) (hc : CellsAt w ad (cls s)) :
    Calls Try.prog 26 #[.slice ad s.length c] w fun e w' => e = .returned (.bool b) ∧ Below w.heap.size w w' := by
  have HFIT := Lib.hid hfit
  have HC := Lib.hid hc
  have HBV := Lib.hid hb
  have HNEAR := Lib.hid (fun a b w' ha hb => implNear a b w' ha hb)
  have hne : ((s.length : Int) == 0) = false := beq_false_of_ne (by omega)
  clear hfit hc hb
  have hinfo : (Try.prog.info? 4).map (fun i => (i.zero, i.size, i.bytes)) = some (some (.bool false), 1, 1) := by kernel_rfl
  have hTb : ElemT Try.prog 59 4 (.bool false) 1 1 := ⟨Try.underlying59, info_parts hinfo, rfl, by decide⟩
  go_enter Try.func26, Try.ntmps26
  go_wp2_with (at_make; refine wpList_make _ rfl _ _ 59 rfl 4 (.bool false) 1 1 hTb (.bool false) ?c0 s.length rfl rfl ?c1 ?c2 (bls (List.replicate s.length false)) ?c3 ?_)
  case c0 =>
    intro i hi
    obtain rfl : i = 0 := by simpa [Value.cells] using hi
    rfl
  case c1 => omega
  case c2 => unfold maxLen; omega
  case c3 => unfold bls; simp
  intro w1 hown _ hb1
  have hmix : mixed (.bool false) (bls (List.replicate s.length false)) 0 = bls (List.replicate s.length false) := by
    rw [mixed_zero]
    unfold bls
    simp
  rw [hmix] at hown
  have HB1 := Lib.hid hb1
  have HO1 := Lib.hid hown
  have f0 : w1.cell? ⟨w.heap.size, 0, none⟩ = some (.bool false) := by
    have q := hown.cellAt 0 (by omega)
    rw [q, bls_at (by simp; omega), rep_false]
  have z0 := hown.frozenAt 0
  have hst := Lib.hid (hown.stored 0 (.bool true))
  have hfl0 : FlOk s ((List.replicate s.length false).set 0 true) := by
    refine ⟨by simp, fun i hi => ?_, ?_⟩
    · rw [getD_set true (by simp; omega)] at hi
      by_cases e : i = 0
      · rw [e]; exact .first hn1
      · rw [if_neg e] at hi
        rw [rep_false] at hi
        cases hi
    · rw [getD_set true (by simp; omega), if_pos rfl]
  have hc0 : ((List.replicate s.length false).set 0 true).count true = 1 := by
    rw [count_set_true (by simp; omega) (rep_false _ _), List.count_replicate]
    rfl
  have HFL0 := Lib.hid hfl0
  have HC0 := Lib.hid hc0
  have hz1 := hb1.size
  clear hown hb1 hmix hfl0 hc0
  go_wp2
  have hw2 := hst.out
  rw [bls_set] at hw2
  generalize (List.replicate s.length false).set 0 true = fl0 at hw2 HFL0 HC0
  go_loopw [4, 5] (fun cv mv wr => ∃ (fl : List Bool) (mb : Bool) (cnt : Nat), cv = .int .i64 cnt ∧ mv = .bool mb ∧ wr.ownsRow w.heap.size 4 1 (.slice (some ⟨w.heap.size, 0, none⟩) s.length s.length) s.length (bls fl) ∧ FlOk s fl ∧ fl.count true = cnt ∧
    (mb = false → ∀ i, i < s.length → ∀ j, j < s.length → fl.getD i false = true → near (at0 s i) (at0 s j) = true → fl.getD j false = true) ∧ Below w.heap.size w wr) (fun cv mv _ => 2 * (s.length - (intOf cv).toNat) + mvOf mv)
  case atStart => exact ⟨fl0, true, 1, rfl, rfl, hw2.1, HFL0.out, HC0.out, fun h => Bool.noConfusion h, HB1.out.grown hw2.2 hz1 (fun j hj => by cases hj; exact Nat.le_refl _)⟩
  case round =>
    obtain ⟨fl00, mb00, cnt0, rfl, rfl, hown, hinv, hcnt, hcl, hb⟩ := hrel
    have hcl0 : cnt0 ≤ s.length := by rw [← hcnt, ← hinv.1]; exact List.count_le_length
    cases mb00 with
    | false =>
      have hh := hangs_fl hinv hn1 (hcl rfl)
      rw [hcnt] at hh
      have hbe : ((cnt0 : Int) == (s.length : Int)) = b := by
        rw [Bool.eq_iff_iff, HBV.out, ← hh, beq_iff_eq]
        omega
      have HBE := Lib.hid hbe
      have HBR := Lib.hid hb
      clear hown hinv hcnt hcl hb hh hbe hw2 hst
      go_wp2
      go_ret
      exact ⟨by first | (rw [HBE.out]; done) | (rw [HBE.out]; rfl), HBR.out⟩
    | true =>
      have HO0 := Lib.hid hown
      have HI0 := Lib.hid hinv
      have HCNT0 := Lib.hid hcnt
      have HB0 := Lib.hid hb
      have hsz0 := hb.size
      clear hown hinv hcnt hcl hb hw2 hst f0 z0
      obtain ⟨wo, rfl⟩ : ∃ wo : World, wo = wr := ⟨_, rfl⟩
      go_wp2
      go_loopw [4, 5, 19] (fun cv mv iv wr => ∃ (fl : List Bool) (mb : Bool) (cnt i : Nat), i ≤ s.length ∧ iv = .int .i64 i ∧ cv = .int .i64 cnt ∧ mv = .bool mb ∧ wr.ownsRow w.heap.size 4 1 (.slice (some ⟨w.heap.size, 0, none⟩) s.length s.length) s.length (bls fl) ∧ FlOk s fl ∧ fl.count true = cnt ∧
        (cnt0 ≤ cnt ∧ (mb = true → cnt0 < cnt)) ∧ (mb = false → ∀ i', i' < i → ∀ j, j < s.length → fl.getD i' false = true → near (at0 s i') (at0 s j) = true → fl.getD j false = true) ∧ Below w.heap.size w wr) (fun _ _ iv _ => s.length - (intOf iv).toNat)
      case atStart => exact ⟨fl00, false, cnt0, 0, Nat.zero_le _, rfl, rfl, rfl, HO0.out, HI0.out, HCNT0.out, ⟨Nat.le_refl _, fun h => Bool.noConfusion h⟩, fun _ i' hi' => by omega, HB0.out⟩
      case round =>
        obtain ⟨fl1, mb1, cnt1, i, hi, rfl, rfl, rfl, hown, hinv, hcnt, hm, hcl, hb⟩ := hrel
        by_cases hil : i < s.length
        · have i1 : (i : Int) < (s.length : Int) := by omega
          have HO1i := Lib.hid hown
          have HI1 := Lib.hid hinv
          have HCNT1 := Lib.hid hcnt
          have HM1 := Lib.hid hm
          have HCL1 := Lib.hid hcl
          have HB1i := Lib.hid hb
          have hsz1i := hb.size
          clear hown hinv hcnt hm hcl hb
          obtain ⟨wi, rfl⟩ : ∃ wi : World, wi = wr := ⟨_, rfl⟩
          go_wp2
          go_loopw [4, 5, 24] (fun cv mv jv wr => ∃ (fl : List Bool) (mb : Bool) (cnt j : Nat), j ≤ s.length ∧ jv = .int .i64 j ∧ cv = .int .i64 cnt ∧ mv = .bool mb ∧ wr.ownsRow w.heap.size 4 1 (.slice (some ⟨w.heap.size, 0, none⟩) s.length s.length) s.length (bls fl) ∧ FlOk s fl ∧ fl.count true = cnt ∧
            (cnt0 ≤ cnt ∧ (mb = true → cnt0 < cnt)) ∧ (mb = false → (∀ i', i' < i → ∀ j, j < s.length → fl.getD i' false = true → near (at0 s i') (at0 s j) = true → fl.getD j false = true) ∧ (∀ j', j' < j → fl.getD i false = true → near (at0 s i) (at0 s j') = true → fl.getD j' false = true)) ∧ Below w.heap.size w wr) (fun _ _ jv _ => s.length - (intOf jv).toNat)
          case atStart => exact ⟨fl1, mb1, cnt1, 0, Nat.zero_le _, rfl, rfl, rfl, HO1i.out, HI1.out, HCNT1.out, HM1.out, fun hm => ⟨HCL1.out hm, fun j' hj' => by omega⟩, HB1i.out⟩
          case round =>
            obtain ⟨fl, mb, cnt, j, hj, rfl, rfl, rfl, hown, hinv, hcnt, hm, hcl, hb⟩ := hrel
            by_cases hjl : j < s.length
            · have i2 : (j : Int) < (s.length : Int) := by omega
              have hfll : fl.length = s.length := hinv.1
              have f0 : wr.cell? ⟨w.heap.size, i, none⟩ = some (.bool (fl.getD i false)) := by
                have q := hown.cellAt i (by omega)
                rw [q, bls_at (by omega)]
              have f1 : wr.cell? ⟨w.heap.size, j, none⟩ = some (.bool (fl.getD j false)) := by
                have q := hown.cellAt j (by omega)
                rw [q, bls_at (by omega)]
              obtain ⟨g, off, rfl, hg, hcc⟩ := cl_open HC.out (by omega)
              obtain ⟨a0, a1⟩ := hcc i hil
              obtain ⟨b0, b1⟩ := hcc j hjl
              have u0 := (hb.cell (p := ⟨g, off + i * 2, none⟩) hg).trans a0
              have u1 := (hb.cell (p := ⟨g, off + i * 2 + 1, none⟩) hg).trans a1
              have v0 := (hb.cell (p := ⟨g, off + j * 2, none⟩) hg).trans b0
              have v1 := (hb.cell (p := ⟨g, off + j * 2 + 1, none⟩) hg).trans b1
              have hfa : Fit s[i] := HFIT.out _ (List.getElem_mem _)
              have hfb : Fit s[j] := HFIT.out _ (List.getElem_mem _)
              have HNR := Lib.hid (fun w' => HNEAR.out s[i] s[j] w' hfa hfb)
              have HSI := Lib.hid (at0_get hil)
              have HSJ := Lib.hid (at0_get hjl)
              have HOWN := Lib.hid hown
              have HINV := Lib.hid hinv
              have HCNT := Lib.hid hcnt
              have HM := Lib.hid hm
              have HCL := Lib.hid hcl
              have HB := Lib.hid hb
              have hszr := hb.size
              clear hcc a0 a1 b0 b1 hfa hfb hown hinv hcnt hm hcl hb hfll
              generalize s[i] = p at u0 u1 HNR HSI
              generalize s[j] = q at v0 v1 HNR HSJ
              generalize hnr : near p q = nr at HNR
              have HNRE := Lib.hid hnr
              generalize hfi : fl.getD i false = fi at f0
              generalize hfj : fl.getD j false = fj at f1
              have HFI := Lib.hid hfi
              have HFJ := Lib.hid hfj
              clear hnr hfi hfj
              obtain ⟨px, py⟩ := p
              obtain ⟨qx, qy⟩ := q
              dsimp only at u0 u1 v0 v1 HNR
              have U0 := cell_regrown u0
              have U1 := cell_regrown u1
              have V0 := cell_regrown v0
              have V1 := cell_regrown v1
              have F0 := cell_regrown f0
              have F1 := cell_regrown f1
              have HNR2 := Lib.hid (fun d os => Calls.regrown_of (d := d) (os := os) (HNR.out (Go.Sort.grow (redrawn wr d) os)))
              cases fi with
              | false =>
                go_wp2
                refine wp_region_quiet_below (by kernel_rfl) (by kernel_rfl) ?_
                repeat (go_big_quiet_step (fail))
                refine wpQuiet_nil ?_
                intro _ hw'
                obtain ⟨⟨dq, osq⟩, hw''⟩ := hw'
                subst hw''
                have hbr := below_regrown wr dq osq
                generalize Go.Sort.grow (redrawn wr dq) osq = w5 at hbr ⊢
                have HB5 := Lib.hid (HB.out.trans (hbr.mono hszr))
                have HO5 := Lib.hid (ownsRow_far_below HOWN.out hbr (Nat.le_refl _))
                have hs5 := hbr.size
                clear hbr U0 U1 V0 V1 F0 F1 u0 u1 v0 v1 f0 f1
                go_wp2
                go_roundw
                case rel =>
                  refine ⟨fl, mb, cnt, j + 1, hjl, by go_num, rfl, rfl, HO5.out, HINV.out, HCNT.out, HM.out, fun hm => ⟨(HCL.out hm).1, fun j' hj' hf hn => ?_⟩, HB5.out⟩
                  by_cases e : j' = j
                  · rw [HFI.out] at hf; cases hf
                  · exact (HCL.out hm).2 j' (by omega) hf hn
                case measure => simp [intOf]; omega
              | true =>
                cases fj with
                | true =>
                  go_wp2
                  refine wp_region_quiet_below (by kernel_rfl) (by kernel_rfl) ?_
                  repeat (go_big_quiet_step (fail))
                  refine wpQuiet_nil ?_
                  intro _ hw'
                  obtain ⟨⟨dq, osq⟩, hw''⟩ := hw'
                  subst hw''
                  have hbr := below_regrown wr dq osq
                  generalize Go.Sort.grow (redrawn wr dq) osq = w5 at hbr ⊢
                  have HB5 := Lib.hid (HB.out.trans (hbr.mono hszr))
                  have HO5 := Lib.hid (ownsRow_far_below HOWN.out hbr (Nat.le_refl _))
                  have hs5 := hbr.size
                  clear hbr U0 U1 V0 V1 F0 F1 u0 u1 v0 v1 f0 f1
                  go_wp2
                  go_roundw
                  case rel =>
                    refine ⟨fl, mb, cnt, j + 1, hjl, by go_num, rfl, rfl, HO5.out, HINV.out, HCNT.out, HM.out, fun hm => ⟨(HCL.out hm).1, fun j' hj' hf hn => ?_⟩, HB5.out⟩
                    by_cases e : j' = j
                    · rw [e]; exact HFJ.out
                    · exact (HCL.out hm).2 j' (by omega) hf hn
                  case measure => simp [intOf]; omega
                | false =>
                  cases nr with
                  | false =>
                    go_wp2
                    refine wp_region_quiet_below (by kernel_rfl) (by kernel_rfl) ?_
                    repeat (go_big_quiet_step (exact HNR2.out _ _))
                    refine wpQuiet_nil ?_
                    intro _ hw'
                    obtain ⟨⟨dq, osq⟩, hw''⟩ := hw'
                    subst hw''
                    have hbr := below_regrown wr dq osq
                    generalize Go.Sort.grow (redrawn wr dq) osq = w5 at hbr ⊢
                    have HB5 := Lib.hid (HB.out.trans (hbr.mono hszr))
                    have HO5 := Lib.hid (ownsRow_far_below HOWN.out hbr (Nat.le_refl _))
                    have hs5 := hbr.size
                    clear hbr U0 U1 V0 V1 F0 F1 u0 u1 v0 v1 f0 f1
                    go_wp2
                    go_roundw
                    case rel =>
                      refine ⟨fl, mb, cnt, j + 1, hjl, by go_num, rfl, rfl, HO5.out, HINV.out, HCNT.out, HM.out, fun hm => ⟨(HCL.out hm).1, fun j' hj' hf hn => ?_⟩, HB5.out⟩
                      by_cases e : j' = j
                      · exfalso; rw [e, HSI.out, HSJ.out, HNRE.out] at hn; cases hn
                      · exact (HCL.out hm).2 j' (by omega) hf hn
                    case measure => simp [intOf]; omega
                  | true =>
                    go_wp2
                    refine wp_region_quiet_below (by kernel_rfl) (by kernel_rfl) ?_
                    repeat (go_big_quiet_step (exact HNR2.out _ _))
                    refine wpQuiet_nil ?_
                    intro _ hw'
                    obtain ⟨⟨dq, osq⟩, hw''⟩ := hw'
                    subst hw''
                    have hbr := below_regrown wr dq osq
                    generalize Go.Sort.grow (redrawn wr dq) osq = w5 at hbr ⊢
                    have HB5 := Lib.hid (HB.out.trans (hbr.mono hszr))
                    have HO5 := Lib.hid (ownsRow_far_below HOWN.out hbr (Nat.le_refl _))
                    have hs5 := hbr.size
                    clear hbr U0 U1 V0 V1 F0 F1 u0 u1 v0 v1 f0 f1
                    have hjlen : j < fl.length := by have := HINV.out.1; omega
                    have f5 : w5.cell? ⟨w.heap.size, j, none⟩ = some (.bool false) := by
                      have q := HO5.out.cellAt j (by omega)
                      rw [q, bls_at hjlen, HFJ.out]
                    have z5 := HO5.out.frozenAt j
                    have hst := Lib.hid (HO5.out.stored j (.bool true))
                    have hcle : cnt ≤ 64 := by
                      have q : fl.count true ≤ fl.length := List.count_le_length
                      have := HINV.out.1
                      have := HCNT.out
                      omega
                    go_wp2
                    go_roundw
                    case rel =>
                      have h2 := hst.out.1
                      rw [bls_set] at h2
                      have hb6 := HB5.out.grown hst.out.2 HB5.out.size (fun j hj => by cases hj; exact Nat.le_refl _)
                      refine ⟨fl.set j true, true, cnt + 1, j + 1, hjl, by go_num, by go_num, rfl, h2, ⟨by rw [List.length_set]; exact HINV.out.1, fun i' hi' => ?_, ?_⟩, by rw [count_set_true hjlen HFJ.out, HCNT.out], ⟨by have := HM.out.1; omega, fun _ => by have := HM.out.1; omega⟩, fun hm => Bool.noConfusion hm, hb6⟩
                      · rw [getD_set true hjlen] at hi'
                        by_cases e : i' = j
                        · rw [e]
                          refine .next (HINV.out.2.1 i HFI.out) hjl ?_
                          rw [HSI.out, HSJ.out]
                          exact HNRE.out
                        · rw [if_neg e] at hi'
                          exact HINV.out.2.1 i' hi'
                      · rw [getD_set true hjlen]
                        split
                        · rfl
                        · exact HINV.out.2.2
                    case measure => simp [intOf]; omega
            · obtain rfl : j = s.length := by omega
              go_wp2
              go_roundw
              case rel =>
                refine ⟨fl, mb, cnt, i + 1, hil, by go_num, rfl, rfl, hown, hinv, hcnt, hm, fun hmf i' hi' j hj hf hn => ?_, hb⟩
                by_cases e : i' = i
                · rw [e] at hf hn
                  exact (hcl hmf).2 j hj hf hn
                · exact (hcl hmf).1 i' (by omega) j hj hf hn
              case measure => simp [intOf]; omega
        · obtain rfl : i = s.length := by omega
          have hcle : cnt1 ≤ s.length := by rw [← hcnt, ← hinv.1]; exact List.count_le_length
          go_wp2
          go_roundw
          case rel => exact ⟨fl1, mb1, cnt1, rfl, rfl, hown, hinv, hcnt, hcl, hb⟩
          case measure =>
            cases mb1 with
            | true => have := hm.2 rfl; simp [intOf, mvOf]; omega
            | false => have := hm.1; simp [intOf, mvOf]; omega
end Go.Proofs.Ytcoggnoeafpgbaa
