/- LawFPk: FnPacks holds for every code. -/
import Derived.Test.YtcoggnoeafpgbaaGreatAllD0
import Derived.Test.YtcoggnoeafpgbaaGreatDrawR6
import Derived.Test.YtcoggnoeafpgbaaGreatDrawR7
import Derived.Test.YtcoggnoeafpgbaaGreatPacksL
import Derived.Test.YtcoggnoeafpgbaaGreatAllBPH
import Derived.Test.YtcoggnoeafpgbaaGreatAllFewB
import Derived.Lib.QuietBelow
import Derived.BigQuiet
namespace Go.Proofs.YtcoggnoeafpgbaaGreat.lawFPk
open Go.ChangeShapes Go.WideShapes Go.ChangeAt Go.RowKit

/-- A region lies in a box. -/
def BoxIn (w : World) (p : Nat) (v0 v1 : Value) : Prop := w.heap[p]? = some (.cells #[v0, v1] 29 (0, 0))
theorem BoxIn.below {w w' : World} {p : Nat} {v0 v1 : Value} (h : BoxIn w p v0 v1) (hb : Below w.heap.size w w') : BoxIn w' p v0 v1 :=
  (hb.block p (lt_of_block h)).trans h
theorem far_at {w : World} {base : Nat} {a : Option Addr} {c : Nat} {ps : List (List Cl)} (h : FarShps w base (.slice a ps.length c) ps) : ShpsAt w a ps := by
  obtain ⟨a', c', hv, hs⟩ := h.form
  injection hv with h1 _ _
  subst h1
  exact hs

set_option maxRecDepth 100000 in
set_option maxHeartbeats 8000000 in
theorem walk (w : World) (ad0 : Option Addr) (cap0 : Nat) (bs0 : List Nat) (hm0 : bs0.length ≤ maxLen) (hc0 : CellsAt w ad0 (bts bs0)) (hw0 : ∀ b ∈ bs0, b < 256) :
    Calls Tryz.prog 5 #[.slice ad0 bs0.length cap0] w fun e w' => e = .returned (.bool true) ∧ Below w.heap.size w w' := by
  unfold maxLen at hm0
  have hbig := fun w => big_any ad0 cap0 bs0 w (by omega)
  by_cases hn : bs0.length ≤ 1048576
  · rw [decide_eq_false (by omega)] at hbig
    have HBIG := Lib.hid hbig
    have HW := Lib.hid hw0
    clear hbig hw0
    have q0 : Below w.heap.size w w := Below.refl _ _
    have C := Lib.hid (hc0)
    clear hc0
    go_enter Tryz.func5, Tryz.ntmps5
    go_wp2_with fail
    refine (HBIG.out _).mono ?_
    rintro e w' ⟨rfl, rfl⟩
    have HDL := Lib.hid (fun w h => drawLP_any ad0 cap0 bs0 w hn HW.out h)
    have HDP := Lib.hid (fun w h => drawPack_any ad0 cap0 bs0 w hn HW.out h)
    have HDB := Lib.hid (fun w h => drawBlk_any ad0 cap0 bs0 w hn HW.out h)
    have HDH := Lib.hid (fun w h => drawHoles_any ad0 cap0 bs0 w hn HW.out h)
    unfold RegPcs at HDL
    unfold RegPcsL at HDP
    unfold RegPcsV at HDB
    unfold RegL at HDH
    go_wp2_with fail
    refine (HDL.out _ C.out).mono ?_
    rintro e w1 ⟨b, a0, c0, xs, va, cv, ps, rfl, hb7, hl9, hp1, hp3, hp80, ho, hf, hb1⟩
    have z1 := hb1.size
    have q1 : Below w.heap.size w w1 := q0.trans (hb1.mono q0.size)
    have C_1 := Lib.hid (C.out.below hb1)
    clear C
    have R := Lib.hid (ownsRow_cellsAt ho)
    have S := Lib.hid (far_at hf)
    clear ho hf
    have hnx : xs.length ≤ 1048576 := by omega
    have hnp : ps.length ≤ 1048576 := by omega
    have hlp : ∀ p ∈ ps, p.length ≤ 1048576 := fun p h => by have := hp80 p h; omega
    have HIL := Lib.hid (fun w h1 h2 => implLP b a0 c0 xs va cv ps w hnx hnp hlp h1 h2)
    have HSL := Lib.hid (fun w h1 h2 => specLP b a0 c0 xs va cv ps w hnx hnp hlp h1 h2)
    have HIF := Lib.hid (fun w h1 h2 => implFB b a0 c0 xs va cv ps w hnx hnp hlp h1 h2)
    have HSF := Lib.hid (fun w h1 h2 => specFB b a0 c0 xs va cv ps w hnx hnp hlp h1 h2)
    have HIC := Lib.hid (fun w h1 h2 => implCP b a0 c0 xs va cv ps w hnx hnp hlp h1 h2)
    have HSC := Lib.hid (fun w h1 h2 => specCP b a0 c0 xs va cv ps w hnx hnp hlp h1 h2)
    have hLW := lpR_wf b xs ps
    have HIP := Lib.hid (fun al cl w h1 h2 h3 => implPack b a0 c0 xs va cv ps al cl (lpR b xs ps) w hnx hnp hlp (by omega) h1 h2 h3)
    have HIB := Lib.hid (fun v w hv h1 h2 => implBlk b a0 c0 xs va cv ps v w hnx hnp hlp hv h1 h2)
    have HIH := Lib.hid (fun al cl w h1 h3 => implHoles b a0 al c0 cl xs (lpR b xs ps) w hnx (by omega) (fun v hv => small_wf (hLW.2 v hv)) h1 h3)
    have hl15 := hLW.1
    have HPK := Lib.hid (fun (h : SmallP b xs ps) => packs_law h)
    have HHL := Lib.hid (fun (h : SmallP b xs ps) => (by unfold holesLeft; rw [if_pos h.1.1]; exact Int.natCast_nonneg _ : 0 ≤ holesLeft b xs (lpR b xs ps)))
    have HYW := Lib.hid (fewR_wf b xs ps)
    clear hLW hp80 hlp hb7
    generalize (if SmallP b xs ps then ((lpR b xs ps).length : Int) else -1) = V at HIC HSC
    generalize holesLeft b xs (lpR b xs ps) = hh at HIH HHL
    generalize packR b xs ps (lpR b xs ps) = pk at HIP HPK
    generalize lpR b xs ps = L at HIL HSL HIP HIH HPK hl15
    generalize fewR b xs ps = Y at HIF HSF HPK HYW
    have hba : Below w1.heap.size w1 (w1.alloc (.cells #[.int .i64 b, .slice a0 xs.length c0] 29)) := (Below.refl _ _).alloc (Nat.le_refl _) _
    have hka : BoxIn (w1.alloc (.cells #[.int .i64 b, .slice a0 xs.length c0] 29)) w1.heap.size (.int .i64 b) (.slice a0 xs.length c0) := heap_alloc_new w1 _
    go_upto_region 4 with (fail)
    generalize w1.alloc (.cells #[.int .i64 b, .slice a0 xs.length c0] 29) = w2 at hba hka ⊢
    have z2 := hba.size
    have q2 : Below w.heap.size w w2 := q1.trans (hba.mono q1.size)
    have C_2 := Lib.hid (C_1.out.below hba)
    clear C_1
    have R_2 := Lib.hid (R.out.below hba)
    clear R
    have S_2 := Lib.hid (S.out.below hba)
    clear S
    have BX := Lib.hid hka
    clear hba hka
    obtain ⟨y0, y1, y2, y3⟩ := boxAt BX.out
    go_wp2_with fail
    refine (HIL.out _ R_2.out S_2.out).mono ?_
    rintro e w3 ⟨a1, c1, rfl, ho1, hb3⟩
    have z3 := hb3.size
    have q3 : Below w.heap.size w w3 := q2.trans (hb3.mono q2.size)
    have C_3 := Lib.hid (C_2.out.below hb3)
    clear C_2
    have R_3 := Lib.hid (R_2.out.below hb3)
    clear R_2
    have S_3 := Lib.hid (S_2.out.below hb3)
    clear S_2
    have BX_3 := Lib.hid (BX.out.below hb3)
    clear BX
    have L1 := Lib.hid (ownsRow_cellsAt ho1)
    clear y0 y1 y2 y3
    clear ho1
    obtain ⟨y0, y1, y2, y3⟩ := boxAt BX_3.out
    go_wp2_with fail
    refine (HSL.out _ R_3.out S_3.out).mono ?_
    rintro e w4 ⟨a2, c2, rfl, ho2, hb4⟩
    have z4 := hb4.size
    have q4 : Below w.heap.size w w4 := q3.trans (hb4.mono q3.size)
    have C_4 := Lib.hid (C_3.out.below hb4)
    clear C_3
    have R_4 := Lib.hid (R_3.out.below hb4)
    clear R_3
    have S_4 := Lib.hid (S_3.out.below hb4)
    clear S_3
    have BX_4 := Lib.hid (BX_3.out.below hb4)
    clear BX_3
    have L1_4 := Lib.hid (L1.out.below hb4)
    clear L1
    have L2 := Lib.hid (ownsRow_cellsAt ho2)
    clear y0 y1 y2 y3
    clear ho2
    obtain ⟨y0, y1, y2, y3⟩ := boxAt BX_4.out
    go_wp2_with fail
    refine (HIF.out _ R_4.out S_4.out).mono ?_
    rintro e w5 ⟨rfl, hb5⟩
    have z5 := hb5.size
    have q5 : Below w.heap.size w w5 := q4.trans (hb5.mono q4.size)
    have C_5 := Lib.hid (C_4.out.below hb5)
    clear C_4
    have R_5 := Lib.hid (R_4.out.below hb5)
    clear R_4
    have S_5 := Lib.hid (S_4.out.below hb5)
    clear S_4
    have BX_5 := Lib.hid (BX_4.out.below hb5)
    clear BX_4
    have L1_5 := Lib.hid (L1_4.out.below hb5)
    clear L1_4
    have L2_5 := Lib.hid (L2.out.below hb5)
    clear L2
    clear y0 y1 y2 y3
    obtain ⟨y0, y1, y2, y3⟩ := boxAt BX_5.out
    go_wp2_with fail
    refine (HSF.out _ R_5.out S_5.out).mono ?_
    rintro e w6 ⟨rfl, hb6⟩
    have z6 := hb6.size
    have q6 : Below w.heap.size w w6 := q5.trans (hb6.mono q5.size)
    have C_6 := Lib.hid (C_5.out.below hb6)
    clear C_5
    have R_6 := Lib.hid (R_5.out.below hb6)
    clear R_5
    have S_6 := Lib.hid (S_5.out.below hb6)
    clear S_5
    have BX_6 := Lib.hid (BX_5.out.below hb6)
    clear BX_5
    have L1_6 := Lib.hid (L1_5.out.below hb6)
    clear L1_5
    have L2_6 := Lib.hid (L2_5.out.below hb6)
    clear L2_5
    clear y0 y1 y2 y3
    clear HIL HSL HIF HSF
    have nnd : (decide (SmallP b xs ps) != decide (SmallP b xs ps)) = false := by simp
    have nny : (Y != Y) = false := by simp
    have nnv : (V != V) = false := by simp
    obtain ⟨y00, y01, y02, y03⟩ := boxAt BX_6.out
    have X00 := cell_regrown y00
    have X01 := cell_regrown y01
    have HQ0 := Lib.hid (fun d os => Calls.regrown_of (d := d) (os := os) (sameInts_same a1 a2 c1 c2 L (Go.Sort.grow (redrawn w6 d) os) (by omega) (L1_6.out.below (below_regrown w6 d os)) (L2_6.out.below (below_regrown w6 d os))))
    have HQ1 := Lib.hid (fun d os => Calls.regrown_of (d := d) (os := os) (HIC.out (Go.Sort.grow (redrawn w6 d) os) (R_6.out.below (below_regrown w6 d os)) (S_6.out.below (below_regrown w6 d os))))
    have HQ2 := Lib.hid (fun d os => Calls.regrown_of (d := d) (os := os) (HSC.out (Go.Sort.grow (redrawn w6 d) os) (R_6.out.below (below_regrown w6 d os)) (S_6.out.below (below_regrown w6 d os))))
    clear y00 y01 y02 y03
    go_upto_region 8 with (fail)
    refine wp_region_quiet_below (by kernel_rfl) (by kernel_rfl) ?_
    repeat (go_big_quiet_step (first | exact HQ0.out _ _ | exact HQ1.out _ _ | exact HQ2.out _ _))
    refine wpQuiet_nil ?_
    intro _ hw'
    obtain ⟨⟨dq, osq⟩, hw''⟩ := hw'
    subst hw''
    have hb7 := below_regrown w6 dq osq
    generalize Go.Sort.grow (redrawn w6 dq) osq = w7 at hb7 ⊢
    clear X00 X01 HQ0 HQ1 HQ2
    have z7 := hb7.size
    have q7 : Below w.heap.size w w7 := q6.trans (hb7.mono q6.size)
    have C_7 := Lib.hid (C_6.out.below hb7)
    clear C_6
    have R_7 := Lib.hid (R_6.out.below hb7)
    clear R_6
    have S_7 := Lib.hid (S_6.out.below hb7)
    clear S_6
    have BX_7 := Lib.hid (BX_6.out.below hb7)
    clear BX_6
    have L1_7 := Lib.hid (L1_6.out.below hb7)
    clear L1_6
    have L2_7 := Lib.hid (L2_6.out.below hb7)
    clear L2_6
    clear HIC HSC nnd nny nnv
    clear L1_7
    by_cases hs : SmallP b xs ps
    · rw [decide_eq_true hs]
      obtain ⟨rfl, f, hY, hf36, hbk, hlf⟩ := HPK.out hs
      have hh0 := HHL.out hs
      subst hY
      have hh1 : decide (hh < 0) = false := decide_eq_false (by omega)
      have hh2 : ¬hh < 0 := by omega
      have HIB2 := Lib.hid (fun w h1 h2 => HIB.out (f : Int) w HYW.out h1 h2)
      rw [hbk] at HIB2
      have HBT := Lib.hid (fun w => lawBits f hf36 w)
      generalize pc f = pf at hlf HBT
      have hl0 : ¬(pf : Int) < (L.length : Int) := by omega
      have hl1 : decide ((pf : Int) < (L.length : Int)) = false := decide_eq_false hl0
      clear hbk hlf HPK HHL HIB HYW hs
      obtain ⟨y0, y1, y2, y3⟩ := boxAt BX_7.out
      go_wp2_with fail
      refine (HIP.out _ _ _ R_7.out S_7.out L2_7.out).mono ?_
      rintro e w8 ⟨rfl, hb8⟩
      have z8 := hb8.size
      have q8 : Below w.heap.size w w8 := q7.trans (hb8.mono q7.size)
      have C_8 := Lib.hid (C_7.out.below hb8)
      clear C_7
      have R_8 := Lib.hid (R_7.out.below hb8)
      clear R_7
      have S_8 := Lib.hid (S_7.out.below hb8)
      clear S_7
      have BX_8 := Lib.hid (BX_7.out.below hb8)
      clear BX_7
      have L2_8 := Lib.hid (L2_7.out.below hb8)
      clear L2_7
      clear y0 y1 y2 y3
      obtain ⟨y0, y1, y2, y3⟩ := boxAt BX_8.out
      go_wp2_with fail
      refine (HIB2.out _ R_8.out S_8.out).mono ?_
      rintro e w9 ⟨rfl, hb9⟩
      have z9 := hb9.size
      have q9 : Below w.heap.size w w9 := q8.trans (hb9.mono q8.size)
      have C_9 := Lib.hid (C_8.out.below hb9)
      clear C_8
      have R_9 := Lib.hid (R_8.out.below hb9)
      clear R_8
      have S_9 := Lib.hid (S_8.out.below hb9)
      clear S_8
      have BX_9 := Lib.hid (BX_8.out.below hb9)
      clear BX_8
      have L2_9 := Lib.hid (L2_8.out.below hb9)
      clear L2_8
      clear y0 y1 y2 y3
      go_wp2_with fail
      refine (HBT.out _).mono ?_
      rintro e w' ⟨rfl, rfl⟩
      obtain ⟨y0, y1, y2, y3⟩ := boxAt BX_9.out
      go_wp2_with fail
      refine (HIH.out _ _ _ R_9.out L2_9.out).mono ?_
      rintro e w10 ⟨rfl, hb10⟩
      have z10 := hb10.size
      have q10 : Below w.heap.size w w10 := q9.trans (hb10.mono q9.size)
      have C_10 := Lib.hid (C_9.out.below hb10)
      clear C_9
      have R_10 := Lib.hid (R_9.out.below hb10)
      clear R_9
      have S_10 := Lib.hid (S_9.out.below hb10)
      clear S_9
      have BX_10 := Lib.hid (BX_9.out.below hb10)
      clear BX_9
      have L2_10 := Lib.hid (L2_9.out.below hb10)
      clear L2_9
      clear y0 y1 y2 y3
      clear HIP HIB2 HBT HIH hl0 hl1 hh0 hf36
      clear R_10 S_10 BX_10 L2_10
      go_wp2_with fail
      refine (HDP.out _ C_10.out).mono ?_
      rintro e w11 ⟨bp, ap, cp, xp, vap, cvp, psp, lap, clp, lsp, rfl, hb7, hl9, hp1, hp3, hp80, hll, hlw, ho, hf, hol, hb11⟩
      have z11 := hb11.size
      have q11 : Below w.heap.size w w11 := q10.trans (hb11.mono q10.size)
      have C_11 := Lib.hid (C_10.out.below hb11)
      clear C_10
      have Rp := Lib.hid (ownsRow_cellsAt ho)
      have Sp := Lib.hid (far_at hf)
      have Lp := Lib.hid (ownsRow_cellsAt hol)
      clear ho hf hol
      have hlp : ∀ p ∈ psp, p.length ≤ 1048576 := fun p h => by have := hp80 p h; omega
      have HIp := Lib.hid (fun w h1 h2 h3 => implPack bp ap cp xp vap cvp psp lap clp lsp w (by omega) (by omega) hlp (by omega) h1 h2 h3)
      have HSp := Lib.hid (fun w h1 h2 h3 => specPack bp ap cp xp vap cvp psp lap clp lsp w (by omega) (by omega) hlp (by omega) h1 h2 h3)
      generalize packR bp xp psp lsp = pkp at HIp HSp
      clear hb7 hl9 hp1 hp3 hp80 hll hlw hlp
      have hba : Below w11.heap.size w11 (w11.alloc (.cells #[.int .i64 bp, .slice ap xp.length cp] 29)) := (Below.refl _ _).alloc (Nat.le_refl _) _
      have hka : BoxIn (w11.alloc (.cells #[.int .i64 bp, .slice ap xp.length cp] 29)) w11.heap.size (.int .i64 bp) (.slice ap xp.length cp) := heap_alloc_new w11 _
      go_upto_region 15 with (fail)
      generalize w11.alloc (.cells #[.int .i64 bp, .slice ap xp.length cp] 29) = w12 at hba hka ⊢
      have z12 := hba.size
      have q12 : Below w.heap.size w w12 := q11.trans (hba.mono q11.size)
      have C_12 := Lib.hid (C_11.out.below hba)
      clear C_11
      have Rp_12 := Lib.hid (Rp.out.below hba)
      clear Rp
      have Sp_12 := Lib.hid (Sp.out.below hba)
      clear Sp
      have Lp_12 := Lib.hid (Lp.out.below hba)
      clear Lp
      have Bp := Lib.hid hka
      clear hba hka
      go_wp2_with fail
      refine (HDB.out _ C_12.out).mono ?_
      rintro e w13 ⟨bq, aq, cq, xq, vaq, cvq, psq, vq, rfl, hb7, hl9, hp1, hp3, hp80, hvw, ho, hf, hb13⟩
      have z13 := hb13.size
      have q13 : Below w.heap.size w w13 := q12.trans (hb13.mono q12.size)
      have C_13 := Lib.hid (C_12.out.below hb13)
      clear C_12
      have Rp_13 := Lib.hid (Rp_12.out.below hb13)
      clear Rp_12
      have Sp_13 := Lib.hid (Sp_12.out.below hb13)
      clear Sp_12
      have Lp_13 := Lib.hid (Lp_12.out.below hb13)
      clear Lp_12
      have Bp_13 := Lib.hid (Bp.out.below hb13)
      clear Bp
      have Rq := Lib.hid (ownsRow_cellsAt ho)
      have Sq := Lib.hid (far_at hf)
      clear ho hf
      have hlp : ∀ p ∈ psq, p.length ≤ 1048576 := fun p h => by have := hp80 p h; omega
      have HIq := Lib.hid (fun w h1 h2 => implBlk bq aq cq xq vaq cvq psq vq w (by omega) (by omega) hlp hvw h1 h2)
      have HSq := Lib.hid (fun w h1 h2 => specBlk bq aq cq xq vaq cvq psq vq w (by omega) (by omega) hlp hvw h1 h2)
      generalize blkR bq xq psq vq = pkq at HIq HSq
      clear hb7 hl9 hp1 hp3 hp80 hvw hlp
      have hba : Below w13.heap.size w13 (w13.alloc (.cells #[.int .i64 bq, .slice aq xq.length cq] 29)) := (Below.refl _ _).alloc (Nat.le_refl _) _
      have hka : BoxIn (w13.alloc (.cells #[.int .i64 bq, .slice aq xq.length cq] 29)) w13.heap.size (.int .i64 bq) (.slice aq xq.length cq) := heap_alloc_new w13 _
      go_upto_region 16 with (fail)
      generalize w13.alloc (.cells #[.int .i64 bq, .slice aq xq.length cq] 29) = w14 at hba hka ⊢
      have z14 := hba.size
      have q14 : Below w.heap.size w w14 := q13.trans (hba.mono q13.size)
      have C_14 := Lib.hid (C_13.out.below hba)
      clear C_13
      have Rp_14 := Lib.hid (Rp_13.out.below hba)
      clear Rp_13
      have Sp_14 := Lib.hid (Sp_13.out.below hba)
      clear Sp_13
      have Lp_14 := Lib.hid (Lp_13.out.below hba)
      clear Lp_13
      have Bp_14 := Lib.hid (Bp_13.out.below hba)
      clear Bp_13
      have Rq_14 := Lib.hid (Rq.out.below hba)
      clear Rq
      have Sq_14 := Lib.hid (Sq.out.below hba)
      clear Sq
      have Bq := Lib.hid hka
      clear hba hka
      go_wp2_with fail
      refine (HDH.out _ C_14.out).mono ?_
      rintro e w15 ⟨br, ar, cr, xr, lar, clr, lsr, rfl, hb7, hl9, hll, hlw, ho, hol, hb15⟩
      have z15 := hb15.size
      have q15 : Below w.heap.size w w15 := q14.trans (hb15.mono q14.size)
      have C_15 := Lib.hid (C_14.out.below hb15)
      clear C_14
      have Rp_15 := Lib.hid (Rp_14.out.below hb15)
      clear Rp_14
      have Sp_15 := Lib.hid (Sp_14.out.below hb15)
      clear Sp_14
      have Lp_15 := Lib.hid (Lp_14.out.below hb15)
      clear Lp_14
      have Bp_15 := Lib.hid (Bp_14.out.below hb15)
      clear Bp_14
      have Rq_15 := Lib.hid (Rq_14.out.below hb15)
      clear Rq_14
      have Sq_15 := Lib.hid (Sq_14.out.below hb15)
      clear Sq_14
      have Bq_15 := Lib.hid (Bq.out.below hb15)
      clear Bq
      have Rr := Lib.hid (ownsRow_cellsAt ho)
      have Lr := Lib.hid (ownsRow_cellsAt hol)
      clear ho hol
      have HIr := Lib.hid (fun w h1 h3 => implHoles br ar lar cr clr xr lsr w (by omega) (by omega) hlw h1 h3)
      have HSr := Lib.hid (fun w h1 h3 => specHoles br ar lar cr clr xr lsr w (by omega) (by omega) hlw h1 h3)
      generalize holesLeft br xr lsr = pkr at HIr HSr
      clear hb7 hl9 hll hlw
      have hba : Below w15.heap.size w15 (w15.alloc (.cells #[.int .i64 br, .slice ar xr.length cr] 29)) := (Below.refl _ _).alloc (Nat.le_refl _) _
      have hka : BoxIn (w15.alloc (.cells #[.int .i64 br, .slice ar xr.length cr] 29)) w15.heap.size (.int .i64 br) (.slice ar xr.length cr) := heap_alloc_new w15 _
      go_upto_region 17 with (fail)
      generalize w15.alloc (.cells #[.int .i64 br, .slice ar xr.length cr] 29) = w16 at hba hka ⊢
      have z16 := hba.size
      have q16 : Below w.heap.size w w16 := q15.trans (hba.mono q15.size)
      have C_16 := Lib.hid (C_15.out.below hba)
      clear C_15
      have Rp_16 := Lib.hid (Rp_15.out.below hba)
      clear Rp_15
      have Sp_16 := Lib.hid (Sp_15.out.below hba)
      clear Sp_15
      have Lp_16 := Lib.hid (Lp_15.out.below hba)
      clear Lp_15
      have Bp_16 := Lib.hid (Bp_15.out.below hba)
      clear Bp_15
      have Rq_16 := Lib.hid (Rq_15.out.below hba)
      clear Rq_15
      have Sq_16 := Lib.hid (Sq_15.out.below hba)
      clear Sq_15
      have Bq_16 := Lib.hid (Bq_15.out.below hba)
      clear Bq_15
      have Rr_16 := Lib.hid (Rr.out.below hba)
      clear Rr
      have Lr_16 := Lib.hid (Lr.out.below hba)
      clear Lr
      have Br := Lib.hid hka
      clear hba hka
      have eqp : (pkp == pkp) = true := by simp
      have eqq : (pkq == pkq) = true := by simp
      have eqr : (pkr == pkr) = true := by simp
      obtain ⟨y00, y01, y02, y03⟩ := boxAt Bp_16.out
      obtain ⟨y10, y11, y12, y13⟩ := boxAt Bq_16.out
      obtain ⟨y20, y21, y22, y23⟩ := boxAt Br.out
      have X00 := cell_regrown y00
      have X01 := cell_regrown y01
      have X10 := cell_regrown y10
      have X11 := cell_regrown y11
      have X20 := cell_regrown y20
      have X21 := cell_regrown y21
      have HQ0 := Lib.hid (fun d os => Calls.regrown_of (d := d) (os := os) (HIp.out (Go.Sort.grow (redrawn w16 d) os) (Rp_16.out.below (below_regrown w16 d os)) (Sp_16.out.below (below_regrown w16 d os)) (Lp_16.out.below (below_regrown w16 d os))))
      have HQ1 := Lib.hid (fun d os => Calls.regrown_of (d := d) (os := os) (HSp.out (Go.Sort.grow (redrawn w16 d) os) (Rp_16.out.below (below_regrown w16 d os)) (Sp_16.out.below (below_regrown w16 d os)) (Lp_16.out.below (below_regrown w16 d os))))
      have HQ2 := Lib.hid (fun d os => Calls.regrown_of (d := d) (os := os) (HIq.out (Go.Sort.grow (redrawn w16 d) os) (Rq_16.out.below (below_regrown w16 d os)) (Sq_16.out.below (below_regrown w16 d os))))
      have HQ3 := Lib.hid (fun d os => Calls.regrown_of (d := d) (os := os) (HSq.out (Go.Sort.grow (redrawn w16 d) os) (Rq_16.out.below (below_regrown w16 d os)) (Sq_16.out.below (below_regrown w16 d os))))
      have HQ4 := Lib.hid (fun d os => Calls.regrown_of (d := d) (os := os) (HIr.out (Go.Sort.grow (redrawn w16 d) os) (Rr_16.out.below (below_regrown w16 d os)) (Lr_16.out.below (below_regrown w16 d os))))
      have HQ5 := Lib.hid (fun d os => Calls.regrown_of (d := d) (os := os) (HSr.out (Go.Sort.grow (redrawn w16 d) os) (Rr_16.out.below (below_regrown w16 d os)) (Lr_16.out.below (below_regrown w16 d os))))
      clear y00 y01 y02 y03
      clear y10 y11 y12 y13
      clear y20 y21 y22 y23
      go_wp2
      refine wp_region_quiet_below (by kernel_rfl) (by kernel_rfl) ?_
      repeat (go_big_quiet_step (first | exact HQ0.out _ _ | exact HQ1.out _ _ | exact HQ2.out _ _ | exact HQ3.out _ _ | exact HQ4.out _ _ | exact HQ5.out _ _))
      refine wpQuiet_nil ?_
      intro _ hw'
      obtain ⟨⟨dq, osq⟩, hw''⟩ := hw'
      subst hw''
      have hb17 := below_regrown w16 dq osq
      generalize Go.Sort.grow (redrawn w16 dq) osq = w17 at hb17 ⊢
      clear X00 X01 X10 X11 X20 X21 HQ0 HQ1 HQ2 HQ3 HQ4 HQ5
      have z17 := hb17.size
      have q17 : Below w.heap.size w w17 := q16.trans (hb17.mono q16.size)
      have C_17 := Lib.hid (C_16.out.below hb17)
      clear C_16
      have Rp_17 := Lib.hid (Rp_16.out.below hb17)
      clear Rp_16
      have Sp_17 := Lib.hid (Sp_16.out.below hb17)
      clear Sp_16
      have Lp_17 := Lib.hid (Lp_16.out.below hb17)
      clear Lp_16
      have Bp_17 := Lib.hid (Bp_16.out.below hb17)
      clear Bp_16
      have Rq_17 := Lib.hid (Rq_16.out.below hb17)
      clear Rq_16
      have Sq_17 := Lib.hid (Sq_16.out.below hb17)
      clear Sq_16
      have Bq_17 := Lib.hid (Bq_16.out.below hb17)
      clear Bq_16
      have Rr_17 := Lib.hid (Rr_16.out.below hb17)
      clear Rr_16
      have Lr_17 := Lib.hid (Lr_16.out.below hb17)
      clear Lr_16
      have Br_17 := Lib.hid (Br.out.below hb17)
      clear Br
      go_wp2
      go_ret
      exact ⟨rfl, q17⟩
    · rw [decide_eq_false hs]
      clear hs HPK HHL HIP HIB HIH HYW
      clear R_7 S_7 BX_7 L2_7
      go_wp2_with fail
      refine (HDP.out _ C_7.out).mono ?_
      rintro e w8 ⟨bp, ap, cp, xp, vap, cvp, psp, lap, clp, lsp, rfl, hb7, hl9, hp1, hp3, hp80, hll, hlw, ho, hf, hol, hb8⟩
      have z8 := hb8.size
      have q8 : Below w.heap.size w w8 := q7.trans (hb8.mono q7.size)
      have C_8 := Lib.hid (C_7.out.below hb8)
      clear C_7
      have Rp := Lib.hid (ownsRow_cellsAt ho)
      have Sp := Lib.hid (far_at hf)
      have Lp := Lib.hid (ownsRow_cellsAt hol)
      clear ho hf hol
      have hlp : ∀ p ∈ psp, p.length ≤ 1048576 := fun p h => by have := hp80 p h; omega
      have HIp := Lib.hid (fun w h1 h2 h3 => implPack bp ap cp xp vap cvp psp lap clp lsp w (by omega) (by omega) hlp (by omega) h1 h2 h3)
      have HSp := Lib.hid (fun w h1 h2 h3 => specPack bp ap cp xp vap cvp psp lap clp lsp w (by omega) (by omega) hlp (by omega) h1 h2 h3)
      generalize packR bp xp psp lsp = pkp at HIp HSp
      clear hb7 hl9 hp1 hp3 hp80 hll hlw hlp
      have hba : Below w8.heap.size w8 (w8.alloc (.cells #[.int .i64 bp, .slice ap xp.length cp] 29)) := (Below.refl _ _).alloc (Nat.le_refl _) _
      have hka : BoxIn (w8.alloc (.cells #[.int .i64 bp, .slice ap xp.length cp] 29)) w8.heap.size (.int .i64 bp) (.slice ap xp.length cp) := heap_alloc_new w8 _
      go_upto_region 15 with (fail)
      generalize w8.alloc (.cells #[.int .i64 bp, .slice ap xp.length cp] 29) = w9 at hba hka ⊢
      have z9 := hba.size
      have q9 : Below w.heap.size w w9 := q8.trans (hba.mono q8.size)
      have C_9 := Lib.hid (C_8.out.below hba)
      clear C_8
      have Rp_9 := Lib.hid (Rp.out.below hba)
      clear Rp
      have Sp_9 := Lib.hid (Sp.out.below hba)
      clear Sp
      have Lp_9 := Lib.hid (Lp.out.below hba)
      clear Lp
      have Bp := Lib.hid hka
      clear hba hka
      go_wp2_with fail
      refine (HDB.out _ C_9.out).mono ?_
      rintro e w10 ⟨bq, aq, cq, xq, vaq, cvq, psq, vq, rfl, hb7, hl9, hp1, hp3, hp80, hvw, ho, hf, hb10⟩
      have z10 := hb10.size
      have q10 : Below w.heap.size w w10 := q9.trans (hb10.mono q9.size)
      have C_10 := Lib.hid (C_9.out.below hb10)
      clear C_9
      have Rp_10 := Lib.hid (Rp_9.out.below hb10)
      clear Rp_9
      have Sp_10 := Lib.hid (Sp_9.out.below hb10)
      clear Sp_9
      have Lp_10 := Lib.hid (Lp_9.out.below hb10)
      clear Lp_9
      have Bp_10 := Lib.hid (Bp.out.below hb10)
      clear Bp
      have Rq := Lib.hid (ownsRow_cellsAt ho)
      have Sq := Lib.hid (far_at hf)
      clear ho hf
      have hlp : ∀ p ∈ psq, p.length ≤ 1048576 := fun p h => by have := hp80 p h; omega
      have HIq := Lib.hid (fun w h1 h2 => implBlk bq aq cq xq vaq cvq psq vq w (by omega) (by omega) hlp hvw h1 h2)
      have HSq := Lib.hid (fun w h1 h2 => specBlk bq aq cq xq vaq cvq psq vq w (by omega) (by omega) hlp hvw h1 h2)
      generalize blkR bq xq psq vq = pkq at HIq HSq
      clear hb7 hl9 hp1 hp3 hp80 hvw hlp
      have hba : Below w10.heap.size w10 (w10.alloc (.cells #[.int .i64 bq, .slice aq xq.length cq] 29)) := (Below.refl _ _).alloc (Nat.le_refl _) _
      have hka : BoxIn (w10.alloc (.cells #[.int .i64 bq, .slice aq xq.length cq] 29)) w10.heap.size (.int .i64 bq) (.slice aq xq.length cq) := heap_alloc_new w10 _
      go_upto_region 16 with (fail)
      generalize w10.alloc (.cells #[.int .i64 bq, .slice aq xq.length cq] 29) = w11 at hba hka ⊢
      have z11 := hba.size
      have q11 : Below w.heap.size w w11 := q10.trans (hba.mono q10.size)
      have C_11 := Lib.hid (C_10.out.below hba)
      clear C_10
      have Rp_11 := Lib.hid (Rp_10.out.below hba)
      clear Rp_10
      have Sp_11 := Lib.hid (Sp_10.out.below hba)
      clear Sp_10
      have Lp_11 := Lib.hid (Lp_10.out.below hba)
      clear Lp_10
      have Bp_11 := Lib.hid (Bp_10.out.below hba)
      clear Bp_10
      have Rq_11 := Lib.hid (Rq.out.below hba)
      clear Rq
      have Sq_11 := Lib.hid (Sq.out.below hba)
      clear Sq
      have Bq := Lib.hid hka
      clear hba hka
      go_wp2_with fail
      refine (HDH.out _ C_11.out).mono ?_
      rintro e w12 ⟨br, ar, cr, xr, lar, clr, lsr, rfl, hb7, hl9, hll, hlw, ho, hol, hb12⟩
      have z12 := hb12.size
      have q12 : Below w.heap.size w w12 := q11.trans (hb12.mono q11.size)
      have C_12 := Lib.hid (C_11.out.below hb12)
      clear C_11
      have Rp_12 := Lib.hid (Rp_11.out.below hb12)
      clear Rp_11
      have Sp_12 := Lib.hid (Sp_11.out.below hb12)
      clear Sp_11
      have Lp_12 := Lib.hid (Lp_11.out.below hb12)
      clear Lp_11
      have Bp_12 := Lib.hid (Bp_11.out.below hb12)
      clear Bp_11
      have Rq_12 := Lib.hid (Rq_11.out.below hb12)
      clear Rq_11
      have Sq_12 := Lib.hid (Sq_11.out.below hb12)
      clear Sq_11
      have Bq_12 := Lib.hid (Bq.out.below hb12)
      clear Bq
      have Rr := Lib.hid (ownsRow_cellsAt ho)
      have Lr := Lib.hid (ownsRow_cellsAt hol)
      clear ho hol
      have HIr := Lib.hid (fun w h1 h3 => implHoles br ar lar cr clr xr lsr w (by omega) (by omega) hlw h1 h3)
      have HSr := Lib.hid (fun w h1 h3 => specHoles br ar lar cr clr xr lsr w (by omega) (by omega) hlw h1 h3)
      generalize holesLeft br xr lsr = pkr at HIr HSr
      clear hb7 hl9 hll hlw
      have hba : Below w12.heap.size w12 (w12.alloc (.cells #[.int .i64 br, .slice ar xr.length cr] 29)) := (Below.refl _ _).alloc (Nat.le_refl _) _
      have hka : BoxIn (w12.alloc (.cells #[.int .i64 br, .slice ar xr.length cr] 29)) w12.heap.size (.int .i64 br) (.slice ar xr.length cr) := heap_alloc_new w12 _
      go_upto_region 17 with (fail)
      generalize w12.alloc (.cells #[.int .i64 br, .slice ar xr.length cr] 29) = w13 at hba hka ⊢
      have z13 := hba.size
      have q13 : Below w.heap.size w w13 := q12.trans (hba.mono q12.size)
      have C_13 := Lib.hid (C_12.out.below hba)
      clear C_12
      have Rp_13 := Lib.hid (Rp_12.out.below hba)
      clear Rp_12
      have Sp_13 := Lib.hid (Sp_12.out.below hba)
      clear Sp_12
      have Lp_13 := Lib.hid (Lp_12.out.below hba)
      clear Lp_12
      have Bp_13 := Lib.hid (Bp_12.out.below hba)
      clear Bp_12
      have Rq_13 := Lib.hid (Rq_12.out.below hba)
      clear Rq_12
      have Sq_13 := Lib.hid (Sq_12.out.below hba)
      clear Sq_12
      have Bq_13 := Lib.hid (Bq_12.out.below hba)
      clear Bq_12
      have Rr_13 := Lib.hid (Rr.out.below hba)
      clear Rr
      have Lr_13 := Lib.hid (Lr.out.below hba)
      clear Lr
      have Br := Lib.hid hka
      clear hba hka
      have eqp : (pkp == pkp) = true := by simp
      have eqq : (pkq == pkq) = true := by simp
      have eqr : (pkr == pkr) = true := by simp
      obtain ⟨y00, y01, y02, y03⟩ := boxAt Bp_13.out
      obtain ⟨y10, y11, y12, y13⟩ := boxAt Bq_13.out
      obtain ⟨y20, y21, y22, y23⟩ := boxAt Br.out
      have X00 := cell_regrown y00
      have X01 := cell_regrown y01
      have X10 := cell_regrown y10
      have X11 := cell_regrown y11
      have X20 := cell_regrown y20
      have X21 := cell_regrown y21
      have HQ0 := Lib.hid (fun d os => Calls.regrown_of (d := d) (os := os) (HIp.out (Go.Sort.grow (redrawn w13 d) os) (Rp_13.out.below (below_regrown w13 d os)) (Sp_13.out.below (below_regrown w13 d os)) (Lp_13.out.below (below_regrown w13 d os))))
      have HQ1 := Lib.hid (fun d os => Calls.regrown_of (d := d) (os := os) (HSp.out (Go.Sort.grow (redrawn w13 d) os) (Rp_13.out.below (below_regrown w13 d os)) (Sp_13.out.below (below_regrown w13 d os)) (Lp_13.out.below (below_regrown w13 d os))))
      have HQ2 := Lib.hid (fun d os => Calls.regrown_of (d := d) (os := os) (HIq.out (Go.Sort.grow (redrawn w13 d) os) (Rq_13.out.below (below_regrown w13 d os)) (Sq_13.out.below (below_regrown w13 d os))))
      have HQ3 := Lib.hid (fun d os => Calls.regrown_of (d := d) (os := os) (HSq.out (Go.Sort.grow (redrawn w13 d) os) (Rq_13.out.below (below_regrown w13 d os)) (Sq_13.out.below (below_regrown w13 d os))))
      have HQ4 := Lib.hid (fun d os => Calls.regrown_of (d := d) (os := os) (HIr.out (Go.Sort.grow (redrawn w13 d) os) (Rr_13.out.below (below_regrown w13 d os)) (Lr_13.out.below (below_regrown w13 d os))))
      have HQ5 := Lib.hid (fun d os => Calls.regrown_of (d := d) (os := os) (HSr.out (Go.Sort.grow (redrawn w13 d) os) (Rr_13.out.below (below_regrown w13 d os)) (Lr_13.out.below (below_regrown w13 d os))))
      clear y00 y01 y02 y03
      clear y10 y11 y12 y13
      clear y20 y21 y22 y23
      go_wp2
      refine wp_region_quiet_below (by kernel_rfl) (by kernel_rfl) ?_
      repeat (go_big_quiet_step (first | exact HQ0.out _ _ | exact HQ1.out _ _ | exact HQ2.out _ _ | exact HQ3.out _ _ | exact HQ4.out _ _ | exact HQ5.out _ _))
      refine wpQuiet_nil ?_
      intro _ hw'
      obtain ⟨⟨dq, osq⟩, hw''⟩ := hw'
      subst hw''
      have hb14 := below_regrown w13 dq osq
      generalize Go.Sort.grow (redrawn w13 dq) osq = w14 at hb14 ⊢
      clear X00 X01 X10 X11 X20 X21 HQ0 HQ1 HQ2 HQ3 HQ4 HQ5
      have z14 := hb14.size
      have q14 : Below w.heap.size w w14 := q13.trans (hb14.mono q13.size)
      have C_14 := Lib.hid (C_13.out.below hb14)
      clear C_13
      have Rp_14 := Lib.hid (Rp_13.out.below hb14)
      clear Rp_13
      have Sp_14 := Lib.hid (Sp_13.out.below hb14)
      clear Sp_13
      have Lp_14 := Lib.hid (Lp_13.out.below hb14)
      clear Lp_13
      have Bp_14 := Lib.hid (Bp_13.out.below hb14)
      clear Bp_13
      have Rq_14 := Lib.hid (Rq_13.out.below hb14)
      clear Rq_13
      have Sq_14 := Lib.hid (Sq_13.out.below hb14)
      clear Sq_13
      have Bq_14 := Lib.hid (Bq_13.out.below hb14)
      clear Bq_13
      have Rr_14 := Lib.hid (Rr_13.out.below hb14)
      clear Rr_13
      have Lr_14 := Lib.hid (Lr_13.out.below hb14)
      clear Lr_13
      have Br_14 := Lib.hid (Br.out.below hb14)
      clear Br
      go_wp2
      go_ret
      exact ⟨rfl, q14⟩
  · rw [decide_eq_true (by omega)] at hbig
    have HBIG := Lib.hid hbig
    clear hbig
    go_enter Tryz.func5, Tryz.ntmps5
    go_wp2_with fail
    refine (HBIG.out _).mono ?_
    rintro e w' ⟨rfl, rfl⟩
    go_wp2
    go_ret
    exact ⟨rfl, Below.refl _ _⟩

set_option maxRecDepth 100000 in
theorem lifted (os : Os) (started : os.Started) (H : Type) (enc : TypeId × Value → H) :
    ReturnsInHanded {} Tryz.checked os 5 .any (Rows.fnPacksSpec.pre6 enc Tryz.prog Tryz.f5 Rows.fnPacksRow.domain false) (Rows.fnPacksSpec.post enc Tryz.prog Tryz.f5 false true false false) := by
  refine returnsInHanded_of_change (C := Tryz.checked) Tryz.own started (by kernel_rfl) Tryz.func5
    (ChangeSpec.witness6 (enc := enc) (C := Tryz.checked) false ⟨#[], #[.slice none 0 0], []⟩ 8 (by kernel_rfl) (by kernel_rfl) (by kernel_rfl) (by kernel_rfl)) ?_
  intro W base args ds gs before hval0 hW hcnd _
  have hval : ∀ (j : Nat) t v, Tryz.f5.params[j]? = some t → args[j]? = some v → Value.okWide Tryz.prog W .any base t v := hval0
  have hW' := hW
  obtain ⟨p, q, hA0, hV, rfl, hfz, hnd⟩ := hW
  have hA : DataW.TrodAll enc Tryz.prog W 0 (fun _ => true) true Tryz.f5.params.toList args.toList ds p := hA0
  rw [Tryz.params5] at hA hval
  obtain ⟨v0, vs0, d0, ds0, p0, q0, hargs, rfl, rfl, h0, r0⟩ := trodAll_cons hA
  obtain ⟨rfl, rfl, rfl⟩ := trodAll_nil r0
  obtain rfl : args = #[v0] := by cases args; simp_all
  obtain ⟨rfl, rfl⟩ := trodVars_none hV
  obtain ⟨ad0, cap0, xs0, rfl, hm0, hc0, hw0⟩ := openBts (hval 0 42 v0 rfl rfl) h0
  clear hA0 hval0
  refine (walk W ad0 cap0 xs0 hm0 hc0 hw0).mono fun e W' ⟨he, hb⟩ => ?_
  subst he
  exact ⟨_, rfl, law_post rfl hW' hb (by rw [Tryz.params5]; exact readable_all (by kernel_rfl)) (by kernel_rfl) (by kernel_rfl) rfl⟩

theorem proved : Rows.FnPacksSaid :=
  OpenClaim.holds_of_wide 5 Tryz.f5 rfl rfl rfl rfl rfl rfl rfl ⟨rfl, rfl, rfl, rfl, rfl⟩ rfl rfl rfl rfl rfl (by kernel_rfl) Tryz.func5 (by kernel_rfl)
    (of_decide_eq_true (by kernel_rfl)) (by unfold Func.isWrapper; first | (rw [if_pos (by decide +kernel)]; kernel_rfl) | (rw [if_neg (by decide +kernel)]; exact ⟨rfl, rfl⟩))
    (fun os started H enc _ => lifted os started H enc)
end Go.Proofs.YtcoggnoeafpgbaaGreat.lawFPk
