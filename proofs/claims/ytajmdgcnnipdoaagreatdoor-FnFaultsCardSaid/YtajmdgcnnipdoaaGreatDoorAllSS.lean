/- AllSS: parts laid together: SSearch0, SSearch. -/
import Derived.Test.YtajmdgcnnipdoaaGreatDoorAllPl
import Derived.Test.YtajmdgcnnipdoaaGreatDoorAllRows
import Derived.Test.YtajmdgcnnipdoaaGreatDoorAllLow
import Derived.Test.YtajmdgcnnipdoaaGreatDoorAllPut0
import Derived.Test.YtajmdgcnnipdoaaGreatDoorAllFrame
import Derived.BigQuiet
import Derived.IntWalk
import Derived.Deep.RegionHeld3
import Derived.Deep.DrawnRows

/- SSearch0: rows of rows that stay while another block turns; parts of lists; plain. -/
namespace Go.Proofs.YtajmdgcnnipdoaaGreatDoor
open Go.RowKit

theorem ownsRow_span {w w' : World} {base e size n : Nat} {v : Value} {xs : List Value} (h : w.ownsRow base e size v n xs) (hk : ∀ b, base ≤ b → b < w.heap.size → w'.heap[b]? = w.heap[b]?) : w'.ownsRow base e size v n xs := by
  refine ⟨h.1, ?_⟩
  rcases h.2 with q2 | ⟨g, c, cur, q1, q2, q3, r⟩
  · exact .inl q2
  · refine .inr ⟨g, c, cur, q1, q2, ?_, r⟩
    rw [hk g q2 (Array.getElem?_eq_some_iff.1 q3).1]
    exact q3
theorem OwnMat.span {w w' : World} {base : Nat} {v : Value} {rows : List (List Int)} (h : OwnMat w base v rows) (hk : ∀ b, base ≤ b → b < w.heap.size → w'.heap[b]? = w.heap[b]?) : OwnMat w' base v rows := by
  obtain ⟨vals, h1, h2, h3, h4⟩ := h
  refine ⟨vals, ownsRow_span h1 hk, h2, fun i xs hx => ?_, h4⟩
  obtain ⟨ai, ci, q1, q2⟩ := h3 i xs hx
  exact ⟨ai, ci, q1, ownsRow_span q2 hk⟩
/-- Blocks of a span that stay. -/
def Kept (lo hi : Nat) (w w' : World) : Prop := ∀ b, lo ≤ b → b < hi → w'.heap[b]? = w.heap[b]?
theorem Kept.refl (lo hi : Nat) (w : World) : Kept lo hi w w := fun _ _ _ => rfl
theorem Kept.trans {lo hi : Nat} {a b c : World} (h : Kept lo hi a b) (k : Kept lo hi b c) : Kept lo hi a c := fun i h1 h2 => (k i h1 h2).trans (h i h1 h2)
theorem Kept.below {lo hi : Nat} {w w' : World} (h : Below w.heap.size w w') (hs : hi ≤ w.heap.size) : Kept lo hi w w' := fun b _ hb => h.block b (by omega)
theorem Kept.grown {lo hi : Nat} {w w' : World} {row : Option Nat} (h : w.grownBy w' row) (hs : hi ≤ w.heap.size) (ho : ∀ g, row = some g → g < lo ∨ hi ≤ g) : Kept lo hi w w' :=
  fun b h1 h2 => h.block b (by omega) (fun q => by have := ho b q.symm; omega)
theorem MatAt.of_span {w w' : World} {lo n c : Nat} {ad : Option Addr} {rows : List (List Int)} (h : OwnMat w lo (.slice ad n c) rows) (hn : n = rows.length) (hk : Kept lo w.heap.size w w') : MatAt w' ad rows :=
  (OwnMat.span h hk).matAt hn
theorem goS_take {A : List Int} {rec : Nat → List (List Int)} {free : Nat} {most i : Nat} (hlt : ((goS A rec free i).take most).length < most) : (goS A rec free i).take most = goS A rec free i := by
  rw [List.length_take] at hlt
  exact List.take_of_length_le (by omega)
theorem goS_take_yes {A : List Int} {rec : Nat → List (List Int)} {free : Nat} {most k : Nat} (hk : k < A.length) (h : fitsB free A[k] = true) (hlt : ((goS A rec free k).take most).length < most) :
    (goS A rec free (k + 1)).take most = (goS A rec free k).take most ++ ((rec (free - A[k].toNat)).take (most - ((goS A rec free k).take most).length)).map (A[k] :: ·) := by
  have e := goS_take hlt
  rw [e] at hlt ⊢
  rw [goS_yes hk h, List.take_append, List.take_of_length_le (by omega), ← List.map_take]
theorem goS_take_no {A : List Int} {rec : Nat → List (List Int)} {free : Nat} {most k : Nat} (hk : k < A.length) (h : fitsB free A[k] = false) : (goS A rec free (k + 1)).take most = (goS A rec free k).take most := by
  rw [goS_no hk h]
theorem goS_take_full {A : List Int} {rec : Nat → List (List Int)} {free : Nat} {most k n : Nat} (hkn : k ≤ n) (h : most ≤ ((goS A rec free k).take most).length) : (goS A rec free n).take most = (goS A rec free k).take most := by
  obtain ⟨t, ht⟩ := goS_prefix A rec free hkn
  rw [List.length_take] at h
  rw [ht, List.take_append, show most - (goS A rec free k).length = 0 by omega, List.take_zero, List.append_nil]
/-- A row of a slice of rows that a call has made. -/
theorem OwnMat.row {w : World} {base n c : Nat} {ad : Option Addr} {rows : List (List Int)} (h : OwnMat w base (.slice ad n c) rows) {i : Nat} (hi : i < rows.length) :
    ∃ g ai ci, ad = some ⟨g, 0, none⟩ ∧ (base ≤ g ∧ g < w.heap.size) ∧ w.cell? ⟨g, i, none⟩ = some (.slice ai rows[i].length ci) ∧ w.ownsRow base 3 1 (.slice ai rows[i].length ci) rows[i].length (ints rows[i]) := by
  obtain ⟨vals, h1, h2, h3, _⟩ := h
  obtain ⟨ai, ci, q1, q2⟩ := h3 i rows[i] (by simp [hi])
  obtain ⟨g, c', hv, hb, hlt⟩ := h1.form (show 0 < rows.length by omega)
  cases hv
  refine ⟨g, ai, ci, rfl, ⟨hb, hlt⟩, ?_, q2⟩
  rw [h1.cellAt i (by omega)]
  exact q1
/-- The only row of a slice of rows. -/
theorem OwnMat.one {w : World} {base c : Nat} {ad : Option Addr} {l : List Int} (h : OwnMat w base (.slice ad 1 c) [l]) :
    ∃ g ai ci, ad = some ⟨g, 0, none⟩ ∧ w.cell? ⟨g, 0, none⟩ = some (.slice ai l.length ci) ∧ w.ownsRow base 3 1 (.slice ai l.length ci) l.length (ints l) := by
  obtain ⟨vals, h1, h2, h3, _⟩ := h
  obtain ⟨ai, ci, q1, q2⟩ := h3 0 l rfl
  obtain ⟨g, c', hv, hb, hlt⟩ := h1.form (show 0 < [l].length from Nat.zero_lt_one)
  cases hv
  refine ⟨g, ai, ci, rfl, ?_, q2⟩
  rw [h1.cellAt 0 (by simp)]
  exact q1
end Go.Proofs.YtajmdgcnnipdoaaGreatDoor

/- SSearch: the walk of l8Search: the first tilings, each in a row of its own. -/
namespace Go.Proofs.YtajmdgcnnipdoaaGreatDoor
open Go.RowKit

attribute [local go_sem ↓] Go.wp_at_zero Go.wp_at_succ

/-- A slice of one element that the statement has built. -/
theorem one_built {w W : World} {e : Nat} {x : Value} (h : W.heap = w.heap.push (.cells #[x] e (0, 0))) : W.ownsRow w.heap.size e 1 (.slice (some ⟨w.heap.size, 0, none⟩) 1 1) 1 [x] := by
  refine ⟨by simp, .inr ⟨w.heap.size, 1, #[x], rfl, Nat.le_refl _, ?_, Nat.le_refl _, by decide, by simp, by simp⟩⟩
  rw [h]; simp
theorem rows_one {w : World} {base : Nat} {vals : List Value} {rows : List (List Int)} (h : RowsIn w base vals rows) : ∀ u ∈ vals, u.oneCell' = true := by
  intro u hu
  obtain ⟨i, hi, rfl⟩ := List.mem_iff_getElem.1 hu
  obtain ⟨hl, h2, _⟩ := h
  obtain ⟨ai, ci, q1, _⟩ := h2 i (rows[i]'(by omega)) (by simp [show i < rows.length by omega])
  rw [List.getElem?_eq_getElem hi] at q1
  rw [Option.some.inj q1]
  rfl

set_option maxRecDepth 100000 in
set_option maxHeartbeats 3200000 in
theorem specSearch_pos (aa : Option Addr) (ca : Nat) (A : List Int) (f : Nat) (hlA : A.length ≤ 1048576) (hs : ∀ v ∈ A, Mk v)
    (ih : ∀ (free most : Nat) (w : World), free ≤ f → free < 68719476736 → 1 ≤ most → most ≤ 500 → CellsAt w aa (ints A) → Calls Tryz.prog 101 #[.slice aa A.length ca, .int .i64 free, .int .i64 most] w fun e w' => ∃ ad' cap', e = .returned (.slice ad' ((srchF A f free).take most).length cap') ∧ OwnMat w' w.heap.size (.slice ad' ((srchF A f free).take most).length cap') ((srchF A f free).take most) ∧ Below w.heap.size w w')
    (free most : Nat) (w : World) (h0 : 0 < free) (hf : free ≤ f + 1) (h36 : free < 68719476736) (hm1 : 1 ≤ most) (hm : most ≤ 500) (hc : CellsAt w aa (ints A)) :
    Calls Tryz.prog 101 #[.slice aa A.length ca, .int .i64 free, .int .i64 most] w fun e w' => ∃ ad' cap', e = .returned (.slice ad' ((srchF A (f + 1) free).take most).length cap') ∧ OwnMat w' w.heap.size (.slice ad' ((srchF A (f + 1) free).take most).length cap') ((srchF A (f + 1) free).take most) ∧ Below w.heap.size w w' := by
  rw [srchF_pos A f (by omega)]
  have HFULL := Lib.hid (fun k (hk : k ≤ A.length) (h : most ≤ ((goS A (srchF A f) free k).take most).length) => goS_take_full hk h)
  have HLM := Lib.hid (fun k => (by rw [List.length_take]; exact Nat.min_le_left _ _ : ((goS A (srchF A f) free k).take most).length ≤ most))
  have HST := Lib.hid (fun k (hk : k < A.length) (hy : fitsB free A[k] = true) (hl : ((goS A (srchF A f) free k).take most).length < most) => goS_take_yes (rec := srchF A f) hk hy hl)
  have HSN := Lib.hid (fun k (hk : k < A.length) (hy : fitsB free A[k] = false) => goS_take_no (rec := srchF A f) (most := most) hk hy)
  have HR36 := Lib.hid (fun fr2 (h : fr2 < 68719476736) => srchF_len36 (f := f) hs h)
  have HIH := Lib.hid ih
  have HSM := Lib.hid hs
  have HC := Lib.hid hc
  have HLW := Lib.hid (fun w' => specLow free w' h0 h36)
  have HFB := Lib.hid (fitsB_def free)
  have hl64 := low_lt h0 (Nat.lt_trans h36 (by decide))
  clear ih hs hc
  have hG0 : (goS A (srchF A f) free 0).take most = [] := by rw [goS, List.take_nil]
  obtain ⟨G, hG⟩ : ∃ G : Nat → List (List Int), G = fun k => (goS A (srchF A f) free k).take most := ⟨_, rfl⟩
  have hGk : ∀ k, (goS A (srchF A f) free k).take most = G k := fun k => by rw [hG]
  simp only [hGk] at HFULL HLM HST HSN hG0 ⊢
  clear hG hGk
  generalize lowB free = low at HLW hl64 HFB
  have z1 : ((free : Int) == 0) = false := by simp; omega
  obtain ⟨wA, hwA⟩ : ∃ wA, wA = w.alloc (.cells #[] 24) := ⟨_, rfl⟩
  have hbA : Below w.heap.size w wA := by rw [hwA]; exact (Below.refl _ _).alloc (Nat.le_refl _) _
  have hoA : wA.ownsRow w.heap.size 24 1 (.slice (some ⟨w.heap.size, 0, none⟩) 0 0) 0 [] := by rw [hwA]; exact ownsRow_empty _ _ _
  have HBA := Lib.hid hbA
  have HWA := Lib.hid hwA
  have HOA := Lib.hid hoA
  have hszA := hbA.size
  clear hbA hwA hoA
  go_enter Tryz.func101, Tryz.ntmps101
  go_wp2_with fail
  rw [← HWA.out]
  refine (HLW.out wA).mono ?_
  rintro e w0 ⟨rfl, hb0⟩
  have HB0 := Lib.hid (HBA.out.trans (hb0.mono hszA))
  have HO0 := Lib.hid (ownsRow_far_below HOA.out hb0 (Nat.le_refl _))
  have hsz0 := HB0.out.size
  clear hb0
  go_wp2
  go_loopw [7, 9] (fun v i wr => ∃ k : Nat, k ≤ A.length ∧ i = .int .i64 k ∧ (∃ ad' c', v = .slice ad' (G k).length c' ∧ OwnMat wr w.heap.size (.slice ad' (G k).length c') (G k)) ∧ Below w.heap.size w wr) (fun _ i _ => A.length - (intOf i).toNat)
  case atStart => exact ⟨0, Nat.zero_le _, rfl, ⟨_, _, by rw [hG0]; rfl, by rw [hG0]; exact ⟨[], HO0.out, RowsIn.nil _ _⟩⟩, HB0.out⟩
  case round =>
    obtain ⟨k, hk, rfl, ⟨av, cv, rfl, hmat⟩, hb⟩ := hrel
    obtain ⟨wo, rfl⟩ : ∃ wo : World, wo = wr := ⟨_, rfl⟩
    have HM := Lib.hid hmat
    have HB := Lib.hid hb
    have hszr := hb.size
    have hGm := HLM.out k
    clear hb hmat
    by_cases hlt : k < A.length
    · have i1 : (k : Int) < (A.length : Int) := by omega
      by_cases hnl : (G k).length < most
      · have i2 : ((G k).length : Int) < (most : Int) := by omega
        obtain ⟨g, off, rfl, hg, hcc⟩ := HC.out.open (by rw [ints_length]; omega)
        have xw := hcc k _ (ints_at A k hlt)
        have x0 := (HB.out.cell (p := ⟨g, off + k, none⟩) hg).trans xw
        have XW := Lib.hid xw
        have hsm := HSM.out _ (List.getElem_mem hlt)
        have HYES := Lib.hid (HST.out k hlt)
        have HNO := Lib.hid (HSN.out k hlt)
        have HFB1 := Lib.hid (HFB.out A[k])
        clear hcc xw
        generalize A[k] = v at x0 hsm HYES HNO HFB1 XW
        obtain ⟨u, rfl⟩ : ∃ u : Nat, v = (u : Int) := ⟨v.toNat, by have := hsm.1; omega⟩
        have hu0 : 0 < u := by have := hsm.1; omega
        have hu : u < 68719476736 := by have := hsm.2; omega
        have hand := i64_and_nat u free (by omega) (by omega)
        have hfb := HFB1.out
        rw [Int.toNat_natCast] at hfb HYES
        clear hsm HFB1
        cases htb : u.testBit low with
        | true =>
          rw [htb, Bool.true_and] at hfb
          by_cases hq : u &&& free = u
          · rw [hq] at hand
            rw [decide_eq_true hq] at hfb
            have hle := fits_sub hq
            obtain ⟨fr2, hfr⟩ : ∃ fr2 : Nat, free = fr2 + u := ⟨free - u, by omega⟩
            have hyes := HYES.out hfb hnl
            rw [show free - u = fr2 by omega] at hyes
            have hfr36 : fr2 < 68719476736 := Nat.lt_of_le_of_lt (show fr2 ≤ free by rw [hfr]; exact Nat.le_add_right _ _) h36
            have hff : fr2 ≤ f := by omega
            obtain ⟨rm, hrm⟩ : ∃ rm, rm = most - (G k).length := ⟨_, rfl⟩
            rw [← hrm] at hyes
            have hcal := fun w' h => HIH.out fr2 rm w' hff hfr36 (by omega) (by omega) h
            have hR36 := fun r (hr : r ∈ (srchF A f fr2).take rm) => HR36.out fr2 hfr36 r (List.mem_of_mem_take hr)
            have hRl : ((srchF A f fr2).take rm).length ≤ 500 := by rw [List.length_take]; omega
            have hGl : (G k).length ≤ 500 := by omega
            have s1 : (free : Int) - (u : Int) = (fr2 : Int) := by omega
            have s2 : (most : Int) - ((G k).length : Int) = (rm : Int) := by omega
            have hrm2 : rm ≤ 500 := by omega
            generalize (srchF A f fr2).take rm = R at hcal hR36 hyes hRl
            have HY := Lib.hid hyes
            have HCAL := Lib.hid hcal
            have HRR := Lib.hid hR36
            clear hyes hcal hR36 hfb hq hle hfr hrm
            have hsh := and_shr_one u low (Nat.lt_trans hu (by decide))
            rw [htb, if_pos rfl] at hsh
            go_wp2
            go_big_quiet (fail)
            have y0 := (below_drewN (Below.refl wo.heap.size wo) nq).cell (p := ⟨g, off + k, none⟩) (by have := HB.out.size; simp; omega)
            have y0 := y0.trans x0
            have hbq := below_drewN (Below.refl wo.heap.size wo) nq
            generalize hwq : wo.drewN nq = wq at y0 hbq ⊢
            have hszq : wq.heap.size = wo.heap.size := by rw [← hwq]; rfl
            have HMQ := Lib.hid (HM.out.below hbq)
            have HBQ := Lib.hid (HB.out.trans (hbq.mono hszr))
            have hszwq := HBQ.out.size
            clear hwq hbq x0 HM
            go_wp2_with fail
            refine (HCAL.out _ (HC.out.below HBQ.out)).mono ?_
            rintro e w2 ⟨a2, c2, rfl, hm2, hb2⟩
            have HM2 := Lib.hid hm2
            have HB2 := Lib.hid hb2
            have hsz2 := hb2.size
            have HOUT := Lib.hid (HMQ.out.below hb2)
            have HBW2 := Lib.hid (HBQ.out.trans (hb2.mono hszwq))
            clear hm2 hb2
            clear y0
            have hvo : ∀ b, (Value.slice av (G k).length cv).ownBlock = some b → b < wq.heap.size := fun b hb => by
              obtain ⟨vals, h1, _⟩ := HMQ.out
              exact (h1.lt b hb).2
            have HVO := Lib.hid hvo
            clear hvo
            go_wp2
            go_loopw [7, 11] (fun v i wi => ∃ j n : Nat, j ≤ R.length ∧ i = .int .i64 j ∧ n = (G k).length + j ∧ (∃ ad' c', v = .slice ad' n c' ∧ OwnMat wi w.heap.size (.slice ad' n c') (G k ++ (R.take j).map ((u : Int) :: ·)) ∧ ∀ b, (Value.slice ad' n c').ownBlock = some b → b < wq.heap.size ∨ w2.heap.size ≤ b) ∧ Kept wq.heap.size w2.heap.size w2 wi ∧ Below w.heap.size w wi ∧ w2.heap.size ≤ wi.heap.size) (fun _ i _ => R.length - (intOf i).toNat)
            case atStart => exact ⟨0, _, Nat.zero_le _, rfl, rfl, ⟨av, cv, rfl, by rw [List.take_zero, List.map_nil, List.append_nil]; exact HOUT.out, fun b hb => .inl (HVO.out b hb)⟩, Kept.refl _ _ _, HBW2.out, Nat.le_refl _⟩
            case round =>
              obtain ⟨j, n, hj, rfl, hn, ⟨av2, cv2, rfl, hmat, hblk⟩, hkept, hbw, hszi⟩ := hrel
              obtain ⟨wi, rfl⟩ : ∃ wi : World, wi = wr := ⟨_, rfl⟩
              have HMAT := Lib.hid hmat
              have HBLK := Lib.hid hblk
              have HK := Lib.hid hkept
              have HBW := Lib.hid hbw
              have hswi := hbw.size
              clear hmat hblk hkept hbw HOUT HMQ
              by_cases hjl : j < R.length
              · have i3 : (j : Int) < (R.length : Int) := by omega
                obtain ⟨g2, ar, cr, rfl, ⟨hg2b, hg2⟩, y1, hrow⟩ := OwnMat.row (OwnMat.span HM2.out HK.out) hjl
                have hg2w : g2 < w2.heap.size := by
                  obtain ⟨g3, _, _, he, h3, _⟩ := OwnMat.row HM2.out hjl
                  cases he
                  exact h3.2
                have hgne : some g2 ≠ (Value.slice av2 n cv2).ownBlock := fun q => by have := HBLK.out g2 q.symm; omega
                have HGNE := Lib.hid hgne
                clear hgne
                have x1 := (HBW.out.cell (p := ⟨g, off + k, none⟩) hg).trans XW.out
                have hr36 := HRR.out _ (List.getElem_mem hjl)
                have htk : (R.take (j + 1)).map ((u : Int) :: ·) = (R.take j).map ((u : Int) :: ·) ++ [(u : Int) :: R[j]] := by rw [List.take_succ_eq_append_getElem hjl, List.map_append]; rfl
                have HTK := Lib.hid htk
                have HROW := Lib.hid (ownsRow_cellsAt hrow)
                have HNIL := Lib.hid (ownsRow_le_cap hrow).2
                clear hrow htk
                generalize R[j] = r at y1 hr36 HTK HROW HNIL
                have hrl := ints_length r
                obtain ⟨vals, hown, hrows⟩ := HMAT.out
                have hnl2 : (G k ++ (R.take j).map ((u : Int) :: ·)).length = n := by rw [List.length_append, List.length_map, List.length_take, hn]; omega
                rw [hnl2] at hown
                have hn1000 : n ≤ 1000 := by omega
                have HOWN := Lib.hid hown
                have HRWS := Lib.hid hrows
                have HHN := Lib.hid hn
                have HNL2 := Lib.hid hnl2
                clear hown hrows hnl2 hn
                go_wp2
                go_region_held3 (fun w' => w'.cell? ⟨g, off + k, none⟩ = some (.int .i64 (u : Int)) ∧ w'.cell? ⟨g2, j, none⟩ = some (.slice ar r.length cr)) (first | (go_keep; done) | exact ⟨(B3.cell (p := ⟨g, off + k, none⟩) (by show g < _; omega)).trans x1, (B3.cell (p := ⟨g2, j, none⟩) hg2).trans y1⟩ | exact ⟨(r2.cell (p := ⟨g, off + k, none⟩) hg).trans ((B3.cell (p := ⟨g, off + k, none⟩) (by show g < _; omega)).trans x1), (World.cell?_of_block (r3.block g2 (by omega) HGNE.out)).trans ((B3.cell (p := ⟨g2, j, none⟩) hg2).trans y1)⟩)
                  (first
                    | (refine step_appN rfl (.tmp 75) (.tmp 79) 24 rfl wi.heap.size 3 (.int .i64 0) 1 8 Tryz.elemInt (.slice (some ⟨wi.heap.size, 0, none⟩) 1 1) 1 [.int .i64 (u : Int)] (by rfl) (by exact one_built (w := wi) (by rfl)) ar r.length cr (ints r) (by rfl) HNIL.out (by omega) (HROW.out.below (by exact below_one (by rfl) rfl rfl rfl)) (ints_one _) (by unfold maxLen; omega) (by omega) (by simp) ?_; intro a3 c3 w3 p1 p2 p3; have B3 : Below wi.heap.size wi w3 := Below.trans (by exact below_one (by rfl) rfl rfl rfl) p2; have hz3 := B3.size; have HO3 := Lib.hid (ownsRow_far_below HOWN.out B3 (Nat.le_refl _)))
                    | (refine step_app1w (wr := w3) rfl (.tmp 70) (.tmp 81) 44 rfl w.heap.size 24 (.slice none 0 0) 1 24 Tryz.elemInts (.slice av2 n cv2) n vals #[.slice a3 (1 + r.length) c3] w3.heap.size (0, 0) rfl (by rfl) (by rfl) (by first | exact World.grownBy_alloc w3 _ none | exact grownBy_trans (World.grownBy_alloc w3 _ none) (grownBy_drew _ _)) (by first | exact heap_alloc_top w3 _) HO3.out (by rfl) (by simp [Value.oneCell']) (by unfold maxLen; omega) (by omega) (by omega) ?_; intro g4 c4 w4 r1 r2 r3 r4 r5 r6))
                go_wp2
                go_roundw
                case rel =>
                  have hz4 := r2.size
                  have e : ((u : Int) :: r).length = 1 + r.length := by rw [List.length_cons, Nat.add_comm]
                  have hro : w3.ownsRow wi.heap.size 3 1 (.slice a3 ((u : Int) :: r).length c3) ((u : Int) :: r).length (ints ((u : Int) :: r)) := by rw [e]; exact p1
                  have h1 := RowsIn.snoc (xs := (u : Int) :: r) (ai := a3) (ci := c3) HRWS.out B3 hswi hro
                  refine ⟨j + 1, n + 1, by omega, by go_num, by rw [HHN.out]; omega, ⟨_, _, rfl, ?_, fun b hb => ?_⟩, HK.out.trans (Kept.trans (Kept.below B3 hszi) (Kept.grown r3 (by omega) HBLK.out)), HBW.out.trans ((B3.mono hswi).trans r2), by omega⟩
                  · rw [HTK.out, ← List.append_assoc]
                    refine ⟨_, ?_, h1.grown HO3.out (by decide) r3⟩
                    rw [e, List.length_append, HNL2.out]
                    exact r1
                  · have hb' : g4 = b := by simpa [Value.ownBlock] using hb
                    rcases r6 with q | q
                    · rw [← hb']; exact HBLK.out _ q
                    · right; omega
                case measure => simp [intOf]; omega
              · obtain rfl : j = R.length := by omega
                have hlen2 : n = (G (k + 1)).length := by rw [HY.out, List.length_append, List.length_map, hn]
                have hm2 := HMAT.out
                rw [List.take_length, ← HY.out] at hm2
                have HMA := Lib.hid hm2
                clear hm2 hn
                subst hlen2
                go_wp2
                go_roundw
                case rel => exact ⟨k + 1, by omega, by go_num, ⟨av2, cv2, rfl, HMA.out⟩, HBW.out⟩
                case measure => simp [intOf]; omega
          · rw [decide_eq_false hq] at hfb
            obtain ⟨q, hqd⟩ : ∃ q, q = u &&& free := ⟨_, rfl⟩
            rw [← hqd] at hand hq
            have HSAME := Lib.hid (HNO.out hfb)
            have he : ((q : Int) == (u : Int)) = false := by simp; omega
            have hen : (q == u) = false := by simp; omega
            clear hqd hq hfb
            have hsh := and_shr_one u low (Nat.lt_trans hu (by decide))
            rw [htb, if_pos rfl] at hsh
            go_wp2
            go_big_quiet (fail)
            go_wp2
            go_roundw
            case rel => exact ⟨k + 1, by omega, by go_num, by rw [HSAME.out]; exact ⟨av, cv, rfl, HM.out.below (below_drewN (Below.refl _ _) _)⟩, below_drewN HB.out _⟩
            case measure => simp [intOf]; omega
        | false =>
          have hsh := and_shr_one u low (Nat.lt_trans hu (by decide))
          rw [htb, if_neg (by simp)] at hsh
          rw [htb, Bool.false_and] at hfb
          have HSAME := Lib.hid (HNO.out hfb)
          clear hfb
          go_wp2
          go_big_quiet (fail)
          go_wp2
          go_roundw
          case rel => exact ⟨k + 1, by omega, by go_num, by rw [HSAME.out]; exact ⟨av, cv, rfl, HM.out.below (below_drewN (Below.refl _ _) _)⟩, below_drewN HB.out _⟩
          case measure => simp [intOf]; omega
      · have HV := Lib.hid (HFULL.out k hk (by omega))
        go_wp2
        go_ret
        rw [HV.out]
        exact ⟨av, cv, rfl, HM.out, HB.out⟩
    · obtain rfl : k = A.length := by omega
      go_wp2
      go_ret
      exact ⟨av, cv, rfl, HM.out, HB.out⟩

set_option maxRecDepth 100000 in
set_option maxHeartbeats 1600000 in
theorem specSearch (aa : Option Addr) (ca : Nat) (A : List Int) (hlA : A.length ≤ 1048576) (hs : ∀ v ∈ A, Mk v) : ∀ (f free most : Nat) (w : World), free ≤ f → free < 68719476736 → 1 ≤ most → most ≤ 500 → CellsAt w aa (ints A) →
    Calls Tryz.prog 101 #[.slice aa A.length ca, .int .i64 free, .int .i64 most] w fun e w' => ∃ ad' cap', e = .returned (.slice ad' ((srchF A f free).take most).length cap') ∧ OwnMat w' w.heap.size (.slice ad' ((srchF A f free).take most).length cap') ((srchF A f free).take most) ∧ Below w.heap.size w w' := by
  have zero : ∀ (f most : Nat) (w : World), 1 ≤ most → Calls Tryz.prog 101 #[.slice aa A.length ca, .int .i64 (0 : Nat), .int .i64 most] w fun e w' => ∃ ad' cap', e = .returned (.slice ad' ((srchF A f 0).take most).length cap') ∧ OwnMat w' w.heap.size (.slice ad' ((srchF A f 0).take most).length cap') ((srchF A f 0).take most) ∧ Below w.heap.size w w' := by
    intro f most w h1
    rw [srchF_zero, show ([[]] : List (List Int)).take most = [[]] from List.take_of_length_le h1]
    go_enter Tryz.func101, Tryz.ntmps101
    go_wp2
    go_ret
    have hb1 : Below w.heap.size w (w.alloc (.cells #[] 3)) := (Below.refl _ _).alloc (Nat.le_refl _) _
    have ho : (w.alloc (.cells #[] 3)).ownsRow w.heap.size 3 1 (.slice (some ⟨w.heap.size, 0, none⟩) 0 0) 0 [] := ownsRow_empty w 3 1
    have h1 := RowsIn.snoc (xs := []) (ai := some ⟨w.heap.size, 0, none⟩) (ci := 0) (RowsIn.nil w w.heap.size) hb1 (Nat.le_refl _) ho
    have hb2 : Below (w.alloc (.cells #[] 3)).heap.size (w.alloc (.cells #[] 3)) ((w.alloc (.cells #[] 3)).alloc (.cells #[.slice (some ⟨w.heap.size, 0, none⟩) 0 0] 24)) := (Below.refl _ _).alloc (Nat.le_refl _) _
    have ho2 : ((w.alloc (.cells #[] 3)).alloc (.cells #[.slice (some ⟨w.heap.size, 0, none⟩) 0 0] 24)).ownsRow (w.alloc (.cells #[] 3)).heap.size 24 1 (.slice (some ⟨(w.alloc (.cells #[] 3)).heap.size, 0, none⟩) 1 1) 1 [.slice (some ⟨w.heap.size, 0, none⟩) 0 0] := one_built rfl
    refine ⟨_, _, rfl, ⟨_, ?_, h1.below hb2⟩, hb1.trans (hb2.mono hb1.size)⟩
    have hsz : (w.alloc (.cells #[] 3)).heap.size = w.heap.size + 1 := by simp
    rw [hsz] at ho2
    exact ownsRow_rebase ho2 (Nat.le_succ _)
  intro f
  induction f with
  | zero =>
    intro free most w hf _ h1 _ _
    obtain rfl : free = 0 := by omega
    exact zero 0 most w h1
  | succ f ih =>
    intro free most w hf h36 h1 hm hc
    rcases Nat.eq_zero_or_pos free with h0 | h0
    · subst h0
      exact zero _ most w h1
    · exact specSearch_pos aa ca A f hlA hs ih free most w h0 hf h36 h1 hm hc
end Go.Proofs.YtajmdgcnnipdoaaGreatDoor
