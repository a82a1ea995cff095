/- LawFFt: FnFaults holds for every code, where the library's tables lie as their initialisers lay them (the card ties that to the program's text). -/
import Derived.Test.YtajmdgcnnipdoaaGreatDoorAllD0
import Derived.Test.YtajmdgcnnipdoaaGreatDoorDrawR9
import Derived.Test.YtajmdgcnnipdoaaGreatDoorAllCT
import Derived.Test.YtajmdgcnnipdoaaGreatDoorFFS
import Derived.Test.YtajmdgcnnipdoaaGreatDoorAllFFI
import Derived.Test.YtajmdgcnnipdoaaGreatDoorAllFa
import Derived.Test.YtajmdgcnnipdoaaGreatDoorSpecCross
import Derived.Test.YtajmdgcnnipdoaaGreatDoorAllTie
import Derived.Test.YtajmdgcnnipdoaaGreatDoorTie
import Derived.Test.YtajmdgcnnipdoaaGreatDoorCards
import Derived.SevenTiedAt
import Derived.Lib.QuietBelow
import Derived.BigQuiet
import Derived.Deep.CutRange
namespace Go.Proofs.YtajmdgcnnipdoaaGreatDoor.lawFFt
open Go.ChangeShapes Go.WideShapes Go.ChangeAt Go.RowKit

/-- A region lies in a box. -/
def BoxIn (w : World) (p : Nat) (v0 v1 : Value) : Prop := w.heap[p]? = some (.cells #[v0, v1] 26 (0, 0))
theorem BoxIn.below {w w' : World} {p : Nat} {v0 v1 : Value} (h : BoxIn w p v0 v1) (hb : Below w.heap.size w w') : BoxIn w' p v0 v1 :=
  (hb.block p (lt_of_block h)).trans h
theorem far_at {w : World} {base : Nat} {a : Option Addr} {c : Nat} {ps : List (List Cl)} (h : FarShps w base (.slice a ps.length c) ps) : ShpsAt w a ps := by
  obtain ⟨a', c', hv, hs⟩ := h.form
  injection hv with h1 _ _
  subst h1
  exact hs
theorem faults_len (b : Int) (xs ls : List Int) : (faultsL b xs ls).length = (zerosTo (acrossL b xs ls) 1 (acrossL b xs ls).length).length + (zerosTo (downL b xs ls) 7 (downL b xs ls).length).length := by
  unfold faultsL
  rw [List.length_append]

set_option maxRecDepth 100000 in
set_option maxHeartbeats 8000000 in
theorem walk (w : World) (ad0 : Option Addr) (cap0 : Nat) (bs0 : List Nat) (hm0 : bs0.length ≤ maxLen) (hc0 : CellsAt w ad0 (bts bs0)) (hw0 : ∀ b ∈ bs0, b < 256) (hT : Tab w) :
    Calls Tryz.prog 3 #[.slice ad0 bs0.length cap0] w fun e w' => e = .returned (.bool true) ∧ Below w.heap.size w w' := by
  unfold maxLen at hm0
  have hbig := fun w => big_any ad0 cap0 bs0 w (by omega)
  by_cases hn : bs0.length ≤ 1048576
  · rw [decide_eq_false (by omega)] at hbig
    have HBIG := Lib.hid hbig
    have HW := Lib.hid hw0
    clear hbig hw0
    have q0 : Below w.heap.size w w := Below.refl _ _
    have C := Lib.hid (hc0)
    clear hc0
    have T := Lib.hid (hT)
    clear hT
    go_enter Tryz.func3, Tryz.ntmps3
    go_wp2_with fail
    refine (HBIG.out _).mono ?_
    rintro e w' ⟨rfl, rfl⟩
    have HDL := Lib.hid (fun w h => drawIFF_any ad0 cap0 bs0 w hn HW.out h)
    have HDF := Lib.hid (fun w h => drawFF_any ad0 cap0 bs0 w hn HW.out h)
    unfold RegPcsL at HDL
    unfold RegPcs at HDF
    go_wp2_with fail
    refine (HDL.out _ C.out).mono ?_
    rintro e w1 ⟨b, a0, c0, xs, va, cv, ps, la, lc, ls, rfl, hb7, hl9, hp1, hp3, hp80, hll, hlw, ho, hf, hol, hb1⟩
    have z1 := hb1.size
    have q1 : Below w.heap.size w w1 := q0.trans (hb1.mono q0.size)
    have C_1 := Lib.hid (C.out.below hb1)
    clear C
    have T_1 := Lib.hid (T.out.below hb1)
    clear T
    have R := Lib.hid (ownsRow_cellsAt ho)
    have S := Lib.hid (far_at hf)
    have L := Lib.hid (ownsRow_cellsAt hol)
    clear ho hf hol
    have hnx : xs.length ≤ 1048576 := by omega
    have hnp : ps.length ≤ 1048576 := by omega
    have hnl : ls.length ≤ 1048576 := by omega
    have hlp : ∀ p ∈ ps, p.length ≤ 1048576 := fun p h => by have := hp80 p h; omega
    have HIF := Lib.hid (fun w h1 h2 => implFaults b a0 la c0 lc xs ls w hnx hnl hlw h1 h2)
    have HSF := Lib.hid (fun w h1 h2 => specFaults b a0 la c0 lc xs ls w hnx hnl hlw h1 h2)
    have HIC := Lib.hid (fun w h1 h2 => implCrossingsOf b a0 la c0 lc xs ls w hnx hnl hlw h1 h2)
    have HSC := Lib.hid (fun w h1 h2 => specCrossings b a0 la c0 lc xs ls w hnx hnl hlw h1 h2)
    unfold TwoRows at HIC HSC
    have HII := Lib.hid (fun w h0 h1 h2 h3 => implIFF b a0 c0 xs va cv ps la lc ls w hnx hnp hlp hnl hlw h0 h1 h2 h3)
    have HST := Lib.hid (fun w h1 h2 h3 => specTil b a0 c0 xs va cv ps la lc ls w hnx hnp hlp hnl h1 h2 h3)
    have hiff : iffR b xs ps ls = (tilR b xs ps ls && decide ((faultsL b xs ls).length = 0)) := rfl
    have hfl := faults_len b xs ls
    have hA5 := acrossL_le b xs ls
    have hD5 := downL_le b xs ls
    clear hp80 hlp hb7 hlw
    generalize iffR b xs ps ls = iv at HII hiff
    generalize tilR b xs ps ls = tv at HST hiff
    generalize faultsL b xs ls = F at HIF HSF hiff hfl
    have hz1 := zerosTo_le (acrossL b xs ls) 1 (acrossL b xs ls).length
    have hz2 := zerosTo_le (downL b xs ls) 7 (downL b xs ls).length
    have hF10 : F.length ≤ 10 := by omega
    have hsf := fun a1 a2 c1 c2 w h1 h2 => sameInts_same a1 a2 c1 c2 F w (by omega) h1 h2
    obtain ⟨n, hFn⟩ : ∃ n, F.length = n := ⟨_, rfl⟩
    rw [hFn] at hfl hiff hF10
    simp only [hFn] at HIF HSF hsf
    have HSFF := Lib.hid hsf
    clear hsf hz1 hz2 hFn
    generalize acrossL b xs ls = A at HIC HSC hfl hA5
    generalize downL b xs ls = D at HIC HSC hfl hD5
    have HFL := Lib.hid hfl
    clear hfl
    have hba : Below w1.heap.size w1 (w1.alloc (.cells #[.int .i64 b, .slice a0 xs.length c0] 26)) := (Below.refl _ _).alloc (Nat.le_refl _) _
    have hka : BoxIn (w1.alloc (.cells #[.int .i64 b, .slice a0 xs.length c0] 26)) w1.heap.size (.int .i64 b) (.slice a0 xs.length c0) := heap_alloc_new w1 _
    go_upto_region 4 with (fail)
    generalize w1.alloc (.cells #[.int .i64 b, .slice a0 xs.length c0] 26) = w2 at hba hka ⊢
    have z2 := hba.size
    have q2 : Below w.heap.size w w2 := q1.trans (hba.mono q1.size)
    have C_2 := Lib.hid (C_1.out.below hba)
    clear C_1
    have T_2 := Lib.hid (T_1.out.below hba)
    clear T_1
    have R_2 := Lib.hid (R.out.below hba)
    clear R
    have S_2 := Lib.hid (S.out.below hba)
    clear S
    have L_2 := Lib.hid (L.out.below hba)
    clear L
    have BX := Lib.hid hka
    clear hba hka
    obtain ⟨y0, y1, y2, y3⟩ := boxAt BX.out
    go_wp2_with fail
    refine (HIF.out _ R_2.out L_2.out).mono ?_
    rintro e w3 ⟨f1, fc1, rfl, hof, hb3⟩
    have z3 := hb3.size
    have q3 : Below w.heap.size w w3 := q2.trans (hb3.mono q2.size)
    have C_3 := Lib.hid (C_2.out.below hb3)
    clear C_2
    have T_3 := Lib.hid (T_2.out.below hb3)
    clear T_2
    have R_3 := Lib.hid (R_2.out.below hb3)
    clear R_2
    have S_3 := Lib.hid (S_2.out.below hb3)
    clear S_2
    have L_3 := Lib.hid (L_2.out.below hb3)
    clear L_2
    have BX_3 := Lib.hid (BX.out.below hb3)
    clear BX
    have F1 := Lib.hid (ownsRow_cellsAt hof)
    clear y0 y1 y2 y3
    clear hof
    obtain ⟨y0, y1, y2, y3⟩ := boxAt BX_3.out
    go_wp2_with fail
    refine (HIC.out _ R_3.out L_3.out).mono ?_
    rintro e w4 ⟨a1, c1, d1, e1, lo0, hi0, lo1, hi1, rfl, hA, hD, z1, z2, z3, z4, z5, z6, z7, hb4⟩
    have z4 := hb4.size
    have q4 : Below w.heap.size w w4 := q3.trans (hb4.mono q3.size)
    have C_4 := Lib.hid (C_3.out.below hb4)
    clear C_3
    have T_4 := Lib.hid (T_3.out.below hb4)
    clear T_3
    have R_4 := Lib.hid (R_3.out.below hb4)
    clear R_3
    have S_4 := Lib.hid (S_3.out.below hb4)
    clear S_3
    have L_4 := Lib.hid (L_3.out.below hb4)
    clear L_3
    have BX_4 := Lib.hid (BX_3.out.below hb4)
    clear BX_3
    have F1_4 := Lib.hid (F1.out.below hb4)
    clear F1
    have A1 := Lib.hid (hA.cells)
    have D1 := Lib.hid (hD.cells)
    clear y0 y1 y2 y3
    clear hA hD z1 z2 z3 z4 z5 z6 z7
    obtain ⟨y0, y1, y2, y3⟩ := boxAt BX_4.out
    go_wp2_with fail
    refine (HSC.out _ R_4.out L_4.out).mono ?_
    rintro e w5 ⟨a2, c2, d2, e2, lo2, hi2, lo3, hi3, rfl, hA, hD, z1, z2, z3, z4, z5, z6, z7, hb5⟩
    have z5 := hb5.size
    have q5 : Below w.heap.size w w5 := q4.trans (hb5.mono q4.size)
    have C_5 := Lib.hid (C_4.out.below hb5)
    clear C_4
    have T_5 := Lib.hid (T_4.out.below hb5)
    clear T_4
    have R_5 := Lib.hid (R_4.out.below hb5)
    clear R_4
    have S_5 := Lib.hid (S_4.out.below hb5)
    clear S_4
    have L_5 := Lib.hid (L_4.out.below hb5)
    clear L_4
    have BX_5 := Lib.hid (BX_4.out.below hb5)
    clear BX_4
    have F1_5 := Lib.hid (F1_4.out.below hb5)
    clear F1_4
    have A1_5 := Lib.hid (A1.out.below hb5)
    clear A1
    have D1_5 := Lib.hid (D1.out.below hb5)
    clear D1
    have A2 := Lib.hid (hA.cells)
    have D2 := Lib.hid (hD.cells)
    clear y0 y1 y2 y3
    clear hA hD z1 z2 z3 z4 z5 z6 z7
    clear HIF HIC HSC
    go_upto_region 7 with (fail)
    go_cut [77] from 44 to 77 (fun c wx => c = .bool false ∧ Below w5.heap.size w5 wx)
    case first =>
      cases tv
      · have hiv : iv = false := hiff
        clear hiff
        subst hiv
        obtain ⟨y0, y1, y2, y3⟩ := boxAt BX_5.out
        refine wp_region_any (by kernel_rfl) ?_
        change wpAny _ _ _ _ _ _ _ (World.drew _)
        refine wpAny_take (i := 0) (v := .slice f1 n fc1) rfl (by kernel_rfl) (by kernel_rfl) (by kernel_rfl) (fun _ _ _ h => h) (Or.inl ⟨by rfl, fun w => by first | (go_simp; done) | (go_simp; rfl) | (go_simp; omega)⟩) ?_
        refine wpAny_take (i := 2) (v := .slice la ls.length lc) rfl (by kernel_rfl) (by kernel_rfl) (by kernel_rfl) (fun _ _ _ h => h) (Or.inl ⟨by rfl, fun w => by first | (go_simp; done) | (go_simp; rfl) | (go_simp; omega)⟩) ?_
        refine wpAny_ready (rs := [1]) (by kernel_rfl) (by simp) ?_
        refine AllReady.cons rfl (fun K hK => ?_) AllReady.nil
        go_simp
        refine hK _ _ ?_
        clear hK K
        refine wpAny_ready (rs := [3]) (by kernel_rfl) (by simp) ?_
        refine AllReady.cons rfl (fun K hK => ?_) AllReady.nil
        go_simp
        have HSFw := Lib.hid (HSF.out w5.drew (R_5.out.below (Below.refl _ _).drew) (L_5.out.below (Below.refl _ _).drew))
        go_wp2_with (refine HSFw.out.mono ?_; rintro e w6 ⟨f2, fc2, rfl, hof, hbq⟩)
        have hb6 : Below w5.heap.size w5 w6 := (Below.refl _ _).drew.trans (hbq.mono (Nat.le_refl _))
        clear y0 y1 y2 y3
        clear HSFw hbq
        have z6 := hb6.size
        have q6 : Below w.heap.size w w6 := q5.trans (hb6.mono q5.size)
        have C_6 := Lib.hid (C_5.out.below hb6)
        clear C_5
        have T_6 := Lib.hid (T_5.out.below hb6)
        clear T_5
        have R_6 := Lib.hid (R_5.out.below hb6)
        clear R_5
        have S_6 := Lib.hid (S_5.out.below hb6)
        clear S_5
        have L_6 := Lib.hid (L_5.out.below hb6)
        clear L_5
        have BX_6 := Lib.hid (BX_5.out.below hb6)
        clear BX_5
        have F1_6 := Lib.hid (F1_5.out.below hb6)
        clear F1_5
        have A1_6 := Lib.hid (A1_5.out.below hb6)
        clear A1_5
        have D1_6 := Lib.hid (D1_5.out.below hb6)
        clear D1_5
        have A2_6 := Lib.hid (A2.out.below hb6)
        clear A2
        have D2_6 := Lib.hid (D2.out.below hb6)
        clear D2
        have F2 := Lib.hid (ownsRow_cellsAt hof)
        clear hof
        obtain ⟨y0, y1, y2, y3⟩ := boxAt BX_6.out
        have X0 := cell_regrown y0
        have X1 := cell_regrown y1
        have HQ0 := Lib.hid (fun d os => Calls.regrown_of (d := d) (os := os) (HSFF.out f1 f2 fc1 fc2 (Go.Sort.grow (redrawn w6 d) os) (F1_6.out.below (below_regrown w6 d os)) (F2.out.below (below_regrown w6 d os))))
        have HQ1 := Lib.hid (fun d os => Calls.regrown_of (d := d) (os := os) (sameInts_same a1 a2 c1 c2 A (Go.Sort.grow (redrawn w6 d) os) (by omega) (A1_6.out.below (below_regrown w6 d os)) (A2_6.out.below (below_regrown w6 d os))))
        have HQ2 := Lib.hid (fun d os => Calls.regrown_of (d := d) (os := os) (sameInts_same d1 d2 e1 e2 D (Go.Sort.grow (redrawn w6 d) os) (by omega) (D1_6.out.below (below_regrown w6 d os)) (D2_6.out.below (below_regrown w6 d os))))
        have HQ3 := Lib.hid (fun d os => Calls.regrown_of (d := d) (os := os) (HII.out (Go.Sort.grow (redrawn w6 d) os) (T_6.out.below (below_regrown w6 d os)) (R_6.out.below (below_regrown w6 d os)) (S_6.out.below (below_regrown w6 d os)) (L_6.out.below (below_regrown w6 d os))))
        have HQ4 := Lib.hid (fun d os => Calls.regrown_of (d := d) (os := os) (HST.out (Go.Sort.grow (redrawn w6 d) os) (R_6.out.below (below_regrown w6 d os)) (S_6.out.below (below_regrown w6 d os)) (L_6.out.below (below_regrown w6 d os))))
        clear y0 y1 y2 y3
        refine wpAny_quiet4 (by kernel_rfl) (by kernel_rfl) (by kernel_rfl) ?_
        repeat (go_big_quiet_step (fail))
        go_big_quiet_step (exact HQ0.out _ _)
        repeat (go_big_quiet_step (fail))
        go_big_quiet_step (exact HQ1.out _ _)
        repeat (go_big_quiet_step (fail))
        go_big_quiet_step (exact HQ2.out _ _)
        repeat (go_big_quiet_step (fail))
        go_big_quiet_step (exact HQ3.out _ _)
        repeat (go_big_quiet_step (fail))
        go_big_quiet_step (exact HQ4.out _ _)
        repeat (go_big_quiet_step (fail))
        refine wpQuiet_nil ?_
        intro _ hw'
        obtain ⟨⟨dq, osq⟩, hw''⟩ := hw'
        subst hw''
        have hb7 := below_regrown w6 dq osq
        generalize Go.Sort.grow (redrawn w6 dq) osq = w7 at hb7 ⊢
        clear X0 X1 HQ0 HQ1 HQ2 HQ3 HQ4
        have z7 := hb7.size
        have q7 : Below w.heap.size w w7 := q6.trans (hb7.mono q6.size)
        have C_7 := Lib.hid (C_6.out.below hb7)
        clear C_6
        have T_7 := Lib.hid (T_6.out.below hb7)
        clear T_6
        have R_7 := Lib.hid (R_6.out.below hb7)
        clear R_6
        have S_7 := Lib.hid (S_6.out.below hb7)
        clear S_6
        have L_7 := Lib.hid (L_6.out.below hb7)
        clear L_6
        have BX_7 := Lib.hid (BX_6.out.below hb7)
        clear BX_6
        have F1_7 := Lib.hid (F1_6.out.below hb7)
        clear F1_6
        have A1_7 := Lib.hid (A1_6.out.below hb7)
        clear A1_6
        have D1_7 := Lib.hid (D1_6.out.below hb7)
        clear D1_6
        have A2_7 := Lib.hid (A2_6.out.below hb7)
        clear A2_6
        have D2_7 := Lib.hid (D2_6.out.below hb7)
        clear D2_6
        have F2_7 := Lib.hid (F2.out.below hb7)
        clear F2
        go_wp2
        go_meet
        exact ⟨rfl, hb6.trans (hb7.mono hb6.size)⟩
      · by_cases hz : n = 0
        · subst hz
          have hiv : iv = true := hiff
          clear hiff
          subst hiv
          obtain ⟨y0, y1, y2, y3⟩ := boxAt BX_5.out
          refine wp_region_any (by kernel_rfl) ?_
          change wpAny _ _ _ _ _ _ _ (World.drew _)
          refine wpAny_take (i := 0) (v := .slice f1 0 fc1) rfl (by kernel_rfl) (by kernel_rfl) (by kernel_rfl) (fun _ _ _ h => h) (Or.inl ⟨by rfl, fun w => by first | (go_simp; done) | (go_simp; rfl) | (go_simp; omega)⟩) ?_
          refine wpAny_take (i := 2) (v := .slice la ls.length lc) rfl (by kernel_rfl) (by kernel_rfl) (by kernel_rfl) (fun _ _ _ h => h) (Or.inl ⟨by rfl, fun w => by first | (go_simp; done) | (go_simp; rfl) | (go_simp; omega)⟩) ?_
          refine wpAny_ready (rs := [1]) (by kernel_rfl) (by simp) ?_
          refine AllReady.cons rfl (fun K hK => ?_) AllReady.nil
          go_simp
          refine hK _ _ ?_
          clear hK K
          refine wpAny_ready (rs := [3]) (by kernel_rfl) (by simp) ?_
          refine AllReady.cons rfl (fun K hK => ?_) AllReady.nil
          go_simp
          have HSFw := Lib.hid (HSF.out w5.drew (R_5.out.below (Below.refl _ _).drew) (L_5.out.below (Below.refl _ _).drew))
          go_wp2_with (refine HSFw.out.mono ?_; rintro e w6 ⟨f2, fc2, rfl, hof, hbq⟩)
          have hb6 : Below w5.heap.size w5 w6 := (Below.refl _ _).drew.trans (hbq.mono (Nat.le_refl _))
          clear y0 y1 y2 y3
          clear HSFw hbq
          have z6 := hb6.size
          have q6 : Below w.heap.size w w6 := q5.trans (hb6.mono q5.size)
          have C_6 := Lib.hid (C_5.out.below hb6)
          clear C_5
          have T_6 := Lib.hid (T_5.out.below hb6)
          clear T_5
          have R_6 := Lib.hid (R_5.out.below hb6)
          clear R_5
          have S_6 := Lib.hid (S_5.out.below hb6)
          clear S_5
          have L_6 := Lib.hid (L_5.out.below hb6)
          clear L_5
          have BX_6 := Lib.hid (BX_5.out.below hb6)
          clear BX_5
          have F1_6 := Lib.hid (F1_5.out.below hb6)
          clear F1_5
          have A1_6 := Lib.hid (A1_5.out.below hb6)
          clear A1_5
          have D1_6 := Lib.hid (D1_5.out.below hb6)
          clear D1_5
          have A2_6 := Lib.hid (A2.out.below hb6)
          clear A2
          have D2_6 := Lib.hid (D2.out.below hb6)
          clear D2
          have F2 := Lib.hid (ownsRow_cellsAt hof)
          clear hof
          obtain ⟨y0, y1, y2, y3⟩ := boxAt BX_6.out
          have X0 := cell_regrown y0
          have X1 := cell_regrown y1
          have HQ0 := Lib.hid (fun d os => Calls.regrown_of (d := d) (os := os) (HSFF.out f1 f2 fc1 fc2 (Go.Sort.grow (redrawn w6 d) os) (F1_6.out.below (below_regrown w6 d os)) (F2.out.below (below_regrown w6 d os))))
          have HQ1 := Lib.hid (fun d os => Calls.regrown_of (d := d) (os := os) (sameInts_same a1 a2 c1 c2 A (Go.Sort.grow (redrawn w6 d) os) (by omega) (A1_6.out.below (below_regrown w6 d os)) (A2_6.out.below (below_regrown w6 d os))))
          have HQ2 := Lib.hid (fun d os => Calls.regrown_of (d := d) (os := os) (sameInts_same d1 d2 e1 e2 D (Go.Sort.grow (redrawn w6 d) os) (by omega) (D1_6.out.below (below_regrown w6 d os)) (D2_6.out.below (below_regrown w6 d os))))
          have HQ3 := Lib.hid (fun d os => Calls.regrown_of (d := d) (os := os) (HII.out (Go.Sort.grow (redrawn w6 d) os) (T_6.out.below (below_regrown w6 d os)) (R_6.out.below (below_regrown w6 d os)) (S_6.out.below (below_regrown w6 d os)) (L_6.out.below (below_regrown w6 d os))))
          have HQ4 := Lib.hid (fun d os => Calls.regrown_of (d := d) (os := os) (HST.out (Go.Sort.grow (redrawn w6 d) os) (R_6.out.below (below_regrown w6 d os)) (S_6.out.below (below_regrown w6 d os)) (L_6.out.below (below_regrown w6 d os))))
          clear y0 y1 y2 y3
          refine wpAny_quiet4 (by kernel_rfl) (by kernel_rfl) (by kernel_rfl) ?_
          repeat (go_big_quiet_step (fail))
          go_big_quiet_step (exact HQ0.out _ _)
          repeat (go_big_quiet_step (fail))
          go_big_quiet_step (exact HQ1.out _ _)
          repeat (go_big_quiet_step (fail))
          go_big_quiet_step (exact HQ2.out _ _)
          repeat (go_big_quiet_step (fail))
          go_big_quiet_step (exact HQ3.out _ _)
          repeat (go_big_quiet_step (fail))
          go_big_quiet_step (exact HQ4.out _ _)
          repeat (go_big_quiet_step (fail))
          refine wpQuiet_nil ?_
          intro _ hw'
          obtain ⟨⟨dq, osq⟩, hw''⟩ := hw'
          subst hw''
          have hb7 := below_regrown w6 dq osq
          generalize Go.Sort.grow (redrawn w6 dq) osq = w7 at hb7 ⊢
          clear X0 X1 HQ0 HQ1 HQ2 HQ3 HQ4
          have z7 := hb7.size
          have q7 : Below w.heap.size w w7 := q6.trans (hb7.mono q6.size)
          have C_7 := Lib.hid (C_6.out.below hb7)
          clear C_6
          have T_7 := Lib.hid (T_6.out.below hb7)
          clear T_6
          have R_7 := Lib.hid (R_6.out.below hb7)
          clear R_6
          have S_7 := Lib.hid (S_6.out.below hb7)
          clear S_6
          have L_7 := Lib.hid (L_6.out.below hb7)
          clear L_6
          have BX_7 := Lib.hid (BX_6.out.below hb7)
          clear BX_6
          have F1_7 := Lib.hid (F1_6.out.below hb7)
          clear F1_6
          have A1_7 := Lib.hid (A1_6.out.below hb7)
          clear A1_6
          have D1_7 := Lib.hid (D1_6.out.below hb7)
          clear D1_6
          have A2_7 := Lib.hid (A2_6.out.below hb7)
          clear A2_6
          have D2_7 := Lib.hid (D2_6.out.below hb7)
          clear D2_6
          have F2_7 := Lib.hid (F2.out.below hb7)
          clear F2
          go_wp2
          go_meet
          exact ⟨rfl, hb6.trans (hb7.mono hb6.size)⟩
        · have hiv : iv = false := by rw [hiff, decide_eq_false hz]; rfl
          clear hiff
          subst hiv
          have hzi : ¬(n : Int) = 0 := by omega
          have HZ := Lib.hid hz
          clear hz
          obtain ⟨y0, y1, y2, y3⟩ := boxAt BX_5.out
          refine wp_region_any (by kernel_rfl) ?_
          change wpAny _ _ _ _ _ _ _ (World.drew _)
          refine wpAny_take (i := 0) (v := .slice f1 n fc1) rfl (by kernel_rfl) (by kernel_rfl) (by kernel_rfl) (fun _ _ _ h => h) (Or.inl ⟨by rfl, fun w => by first | (go_simp; done) | (go_simp; rfl) | (go_simp; omega)⟩) ?_
          refine wpAny_take (i := 2) (v := .slice la ls.length lc) rfl (by kernel_rfl) (by kernel_rfl) (by kernel_rfl) (fun _ _ _ h => h) (Or.inl ⟨by rfl, fun w => by first | (go_simp; done) | (go_simp; rfl) | (go_simp; omega)⟩) ?_
          refine wpAny_ready (rs := [1]) (by kernel_rfl) (by simp) ?_
          refine AllReady.cons rfl (fun K hK => ?_) AllReady.nil
          go_simp
          refine hK _ _ ?_
          clear hK K
          refine wpAny_ready (rs := [3]) (by kernel_rfl) (by simp) ?_
          refine AllReady.cons rfl (fun K hK => ?_) AllReady.nil
          go_simp
          have HSFw := Lib.hid (HSF.out w5.drew (R_5.out.below (Below.refl _ _).drew) (L_5.out.below (Below.refl _ _).drew))
          go_wp2_with (refine HSFw.out.mono ?_; rintro e w6 ⟨f2, fc2, rfl, hof, hbq⟩)
          have hb6 : Below w5.heap.size w5 w6 := (Below.refl _ _).drew.trans (hbq.mono (Nat.le_refl _))
          clear y0 y1 y2 y3
          clear HSFw hbq
          have z6 := hb6.size
          have q6 : Below w.heap.size w w6 := q5.trans (hb6.mono q5.size)
          have C_6 := Lib.hid (C_5.out.below hb6)
          clear C_5
          have T_6 := Lib.hid (T_5.out.below hb6)
          clear T_5
          have R_6 := Lib.hid (R_5.out.below hb6)
          clear R_5
          have S_6 := Lib.hid (S_5.out.below hb6)
          clear S_5
          have L_6 := Lib.hid (L_5.out.below hb6)
          clear L_5
          have BX_6 := Lib.hid (BX_5.out.below hb6)
          clear BX_5
          have F1_6 := Lib.hid (F1_5.out.below hb6)
          clear F1_5
          have A1_6 := Lib.hid (A1_5.out.below hb6)
          clear A1_5
          have D1_6 := Lib.hid (D1_5.out.below hb6)
          clear D1_5
          have A2_6 := Lib.hid (A2.out.below hb6)
          clear A2
          have D2_6 := Lib.hid (D2.out.below hb6)
          clear D2
          have F2 := Lib.hid (ownsRow_cellsAt hof)
          clear hof
          obtain ⟨y0, y1, y2, y3⟩ := boxAt BX_6.out
          have X0 := cell_regrown y0
          have X1 := cell_regrown y1
          have HQ0 := Lib.hid (fun d os => Calls.regrown_of (d := d) (os := os) (HSFF.out f1 f2 fc1 fc2 (Go.Sort.grow (redrawn w6 d) os) (F1_6.out.below (below_regrown w6 d os)) (F2.out.below (below_regrown w6 d os))))
          have HQ1 := Lib.hid (fun d os => Calls.regrown_of (d := d) (os := os) (sameInts_same a1 a2 c1 c2 A (Go.Sort.grow (redrawn w6 d) os) (by omega) (A1_6.out.below (below_regrown w6 d os)) (A2_6.out.below (below_regrown w6 d os))))
          have HQ2 := Lib.hid (fun d os => Calls.regrown_of (d := d) (os := os) (sameInts_same d1 d2 e1 e2 D (Go.Sort.grow (redrawn w6 d) os) (by omega) (D1_6.out.below (below_regrown w6 d os)) (D2_6.out.below (below_regrown w6 d os))))
          have HQ3 := Lib.hid (fun d os => Calls.regrown_of (d := d) (os := os) (HII.out (Go.Sort.grow (redrawn w6 d) os) (T_6.out.below (below_regrown w6 d os)) (R_6.out.below (below_regrown w6 d os)) (S_6.out.below (below_regrown w6 d os)) (L_6.out.below (below_regrown w6 d os))))
          have HQ4 := Lib.hid (fun d os => Calls.regrown_of (d := d) (os := os) (HST.out (Go.Sort.grow (redrawn w6 d) os) (R_6.out.below (below_regrown w6 d os)) (S_6.out.below (below_regrown w6 d os)) (L_6.out.below (below_regrown w6 d os))))
          clear y0 y1 y2 y3
          refine wpAny_quiet4 (by kernel_rfl) (by kernel_rfl) (by kernel_rfl) ?_
          repeat (go_big_quiet_step (fail))
          go_big_quiet_step (exact HQ0.out _ _)
          repeat (go_big_quiet_step (fail))
          go_big_quiet_step (exact HQ1.out _ _)
          repeat (go_big_quiet_step (fail))
          go_big_quiet_step (exact HQ2.out _ _)
          repeat (go_big_quiet_step (fail))
          go_big_quiet_step (exact HQ3.out _ _)
          repeat (go_big_quiet_step (fail))
          go_big_quiet_step (exact HQ4.out _ _)
          have hz1 : ((n : Int) == 0) = false := by rw [beq_eq_false_iff_ne]; exact hzi
          have hz2 : decide ((n : Int) = 0) = false := decide_eq_false hzi
          have hz3 : decide (n = 0) = false := decide_eq_false HZ.out
          have hz4 : (n == 0) = false := by rw [beq_eq_false_iff_ne]; exact HZ.out
          repeat (go_big_quiet_step (fail))
          refine wpQuiet_nil ?_
          intro _ hw'
          obtain ⟨⟨dq, osq⟩, hw''⟩ := hw'
          subst hw''
          have hb7 := below_regrown w6 dq osq
          generalize Go.Sort.grow (redrawn w6 dq) osq = w7 at hb7 ⊢
          clear X0 X1 HQ0 HQ1 HQ2 HQ3 HQ4
          have z7 := hb7.size
          have q7 : Below w.heap.size w w7 := q6.trans (hb7.mono q6.size)
          have C_7 := Lib.hid (C_6.out.below hb7)
          clear C_6
          have T_7 := Lib.hid (T_6.out.below hb7)
          clear T_6
          have R_7 := Lib.hid (R_6.out.below hb7)
          clear R_6
          have S_7 := Lib.hid (S_6.out.below hb7)
          clear S_6
          have L_7 := Lib.hid (L_6.out.below hb7)
          clear L_6
          have BX_7 := Lib.hid (BX_6.out.below hb7)
          clear BX_6
          have F1_7 := Lib.hid (F1_6.out.below hb7)
          clear F1_6
          have A1_7 := Lib.hid (A1_6.out.below hb7)
          clear A1_6
          have D1_7 := Lib.hid (D1_6.out.below hb7)
          clear D1_6
          have A2_7 := Lib.hid (A2_6.out.below hb7)
          clear A2_6
          have D2_7 := Lib.hid (D2_6.out.below hb7)
          clear D2_6
          have F2_7 := Lib.hid (F2.out.below hb7)
          clear F2
          go_wp2
          go_meet
          exact ⟨rfl, hb6.trans (hb7.mono hb6.size)⟩
    case rest =>
      obtain ⟨rfl, hb6⟩ := hcut
      obtain ⟨w6, rfl⟩ : ∃ x, x = wc := ⟨_, rfl⟩
      have z6 := hb6.size
      have q6 : Below w.heap.size w w6 := q5.trans (hb6.mono q5.size)
      have C_6 := Lib.hid (C_5.out.below hb6)
      clear C_5
      have T_6 := Lib.hid (T_5.out.below hb6)
      clear T_5
      have R_6 := Lib.hid (R_5.out.below hb6)
      clear R_5
      have S_6 := Lib.hid (S_5.out.below hb6)
      clear S_5
      have L_6 := Lib.hid (L_5.out.below hb6)
      clear L_5
      have BX_6 := Lib.hid (BX_5.out.below hb6)
      clear BX_5
      have F1_6 := Lib.hid (F1_5.out.below hb6)
      clear F1_5
      have A1_6 := Lib.hid (A1_5.out.below hb6)
      clear A1_5
      have D1_6 := Lib.hid (D1_5.out.below hb6)
      clear D1_5
      have A2_6 := Lib.hid (A2.out.below hb6)
      clear A2
      have D2_6 := Lib.hid (D2.out.below hb6)
      clear D2
      clear HII HST HSF hiff
      clear R_6 S_6 L_6 BX_6 F1_6 A1_6 D1_6
      go_wp2
      go_loopw [11, 12] (fun z i wr => ∃ k q : Nat, k ≤ A.length ∧ i = .int .i64 k ∧ z = .int .i64 q ∧ q = 0 + (zerosTo A 1 k).length ∧ w6 = wr) (fun _ i _ => A.length - (intOf i).toNat)
      case atStart => exact ⟨0, 0, Nat.zero_le _, rfl, rfl, rfl, rfl⟩
      case round =>
        obtain ⟨k, q, hk, rfl, rfl, hq, rfl⟩ := hrel
        by_cases hlt : k < A.length
        · have hkl : (k : Int) < (A.length : Int) := by omega
          obtain ⟨g, off, rfl, hg, hcc⟩ := A2_6.out.open (by rw [ints_length]; omega)
          have z0 := hcc k _ (ints_at A k hlt)
          have hzl := zerosTo_le A 1 k
          obtain ⟨q1, hq1⟩ : ∃ q1, q1 = q + 1 := ⟨_, rfl⟩
          have t1 : (q : Int) + 1 = (q1 : Int) := by rw [hq1]; norm_cast
          have t2 : IntKind.i64.wrap (q1 : Int) = (q1 : Int) := IntWalk.i64_in _ (by omega)
          clear hcc
          by_cases hv : A[k] = 0
          · have hst := zeros_hit (off := 1) hlt hv
            rw [hv] at z0
            have HST2 := Lib.hid (show q1 = 0 + (zerosTo A 1 (k + 1)).length by rw [hst, List.length_append, hq1, hq]; rfl)
            clear hst hq hq1 hv
            go_wp2
            go_roundw
            case rel => exact ⟨k + 1, q1, by omega, by go_num, by go_num, HST2.out, by first | rfl | trivial⟩
            case measure => simp [intOf]; omega
          · have hst := zeros_miss (off := 1) hlt hv
            have HST2 := Lib.hid (show q = 0 + (zerosTo A 1 (k + 1)).length by rw [hst]; exact hq)
            generalize A[k] = v at z0 hv
            have hvb : (v == 0) = false := by rw [beq_eq_false_iff_ne]; exact hv
            have hvd : decide (v = 0) = false := decide_eq_false hv
            clear hst hq hq1
            go_wp2
            go_roundw
            case rel => exact ⟨k + 1, q, by omega, by go_num, by go_num, HST2.out, by first | rfl | trivial⟩
            case measure => simp [intOf]; omega
        · obtain rfl : k = A.length := by omega
          have HQA := Lib.hid hq
          clear hq hlt hk
          go_wp2
          have hqA := HQA.out
          have hqA5 : q ≤ 5 := by have := zerosTo_le A 1 A.length; omega
          obtain ⟨qa, hqa⟩ : ∃ qa, qa = q := ⟨_, rfl⟩
          subst hqa
          clear hqA
          go_loopw [11, 13] (fun z i wr => ∃ k q : Nat, k ≤ D.length ∧ i = .int .i64 k ∧ z = .int .i64 q ∧ q = qa + (zerosTo D 7 k).length ∧ w6 = wr) (fun _ i _ => D.length - (intOf i).toNat)
          case atStart => exact ⟨0, qa, Nat.zero_le _, rfl, rfl, rfl, rfl⟩
          case round =>
            obtain ⟨k, q, hk, rfl, rfl, hq, rfl⟩ := hrel
            by_cases hlt : k < D.length
            · have hkl : (k : Int) < (D.length : Int) := by omega
              obtain ⟨g, off, rfl, hg, hcc⟩ := D2_6.out.open (by rw [ints_length]; omega)
              have z0 := hcc k _ (ints_at D k hlt)
              have hzl := zerosTo_le D 7 k
              obtain ⟨q1, hq1⟩ : ∃ q1, q1 = q + 1 := ⟨_, rfl⟩
              have t1 : (q : Int) + 1 = (q1 : Int) := by rw [hq1]; norm_cast
              have t2 : IntKind.i64.wrap (q1 : Int) = (q1 : Int) := IntWalk.i64_in _ (by omega)
              clear hcc
              by_cases hv : D[k] = 0
              · have hst := zeros_hit (off := 7) hlt hv
                rw [hv] at z0
                have HST2 := Lib.hid (show q1 = qa + (zerosTo D 7 (k + 1)).length by rw [hst, List.length_append, hq1, hq]; rfl)
                clear hst hq hq1 hv
                go_wp2
                go_roundw
                case rel => exact ⟨k + 1, q1, by omega, by go_num, by go_num, HST2.out, by first | rfl | trivial⟩
                case measure => simp [intOf]; omega
              · have hst := zeros_miss (off := 7) hlt hv
                have HST2 := Lib.hid (show q = qa + (zerosTo D 7 (k + 1)).length by rw [hst]; exact hq)
                generalize D[k] = v at z0 hv
                have hvb : (v == 0) = false := by rw [beq_eq_false_iff_ne]; exact hv
                have hvd : decide (v = 0) = false := decide_eq_false hv
                clear hst hq hq1
                go_wp2
                go_roundw
                case rel => exact ⟨k + 1, q, by omega, by go_num, by go_num, HST2.out, by first | rfl | trivial⟩
                case measure => simp [intOf]; omega
            · obtain rfl : k = D.length := by omega
              have HQD := Lib.hid hq
              clear hq hlt hk
              have hqF : q = n := by have h1 := HQA.out; have h2 := HQD.out; have h3 := HFL.out; omega
              clear HQA HQD HFL hqA5
              subst hqF
              clear A2_6 D2_6
              go_wp2_with fail
              refine (HDF.out _ C_6.out).mono ?_
              rintro e w7 ⟨bq, aq, cq, xq, vq, cvq, pq, rfl, hb7, hl9, hp1, hp3, hp80, ho, hf, hb7⟩
              have z7 := hb7.size
              have q7 : Below w.heap.size w w7 := q6.trans (hb7.mono q6.size)
              have C_7 := Lib.hid (C_6.out.below hb7)
              clear C_6
              have T_7 := Lib.hid (T_6.out.below hb7)
              clear T_6
              have Rq := Lib.hid (ownsRow_cellsAt ho)
              have Sq := Lib.hid (far_at hf)
              clear ho hf
              have hnx : xq.length ≤ 1048576 := by omega
              have hnp : pq.length ≤ 1048576 := by omega
              have hlp : ∀ p ∈ pq, p.length ≤ 1048576 := fun p h => by have := hp80 p h; omega
              have hfn := Nat.le_trans (firstT_len (ffL_len bq xq pq)) (by decide : 36 ≤ 1048576)
              have hfw : ∀ v ∈ firstT (ffL bq xq pq), (Lit.int .i64 v).wf = true := fun v hv => ff_wf bq xq pq v hv
              have H1 := Lib.hid (fun w h0 h1 h2 => implFFF bq aq cq xq vq cvq pq w hnx hnp hlp h0 h1 h2)
              have H2 := Lib.hid (fun w h1 h2 => specFFF bq aq cq xq vq cvq pq w hnx hnp hlp h1 h2)
              unfold FoundAt at H1 H2
              have H3 := Lib.hid (fun w h0 h1 h2 => implCFF bq aq cq xq vq cvq pq w hnx hnp hlp h0 h1 h2)
              have H4 := Lib.hid (fun w h1 h2 => specCFF bq aq cq xq vq cvq pq w hnx hnp hlp h1 h2)
              have H5 := Lib.hid (fun al cl w h0 h1 h2 h3 => implIFF bq aq cq xq vq cvq pq al cl (firstT (ffL bq xq pq)) w hnx hnp hlp hfn hfw h0 h1 h2 h3)
              have H6 := Lib.hid (fun w h0 h1 h2 => implCTil bq aq cq xq vq cvq pq w hnx hnp hlp h0 h1 h2)
              obtain ⟨hl1, hl2, hl3, hl4, hl5⟩ := ff_law bq xq pq
              clear hp80 hlp hb7 hfw
              generalize iffR bq xq pq (firstT (ffL bq xq pq)) = iq at H5 hl2
              generalize firstT (ffL bq xq pq) = G at H1 H2 H5 hfn
              generalize someT (ffL bq xq pq) = sm at H1 H2 hl1 hl2
              generalize cffR bq xq pq = K at H3 H4 hl1 hl3 hl4 hl5
              generalize ctlR bq xq pq = CT at H6 hl3
              have hkk : (K == K) = true := by simp
              have hle : decide (K ≤ CT) = true := decide_eq_true hl3
              have HL2 := Lib.hid hl2
              clear hl2 hl4 hl5
              have hba : Below w7.heap.size w7 (w7.alloc (.cells #[.int .i64 bq, .slice aq xq.length cq] 26)) := (Below.refl _ _).alloc (Nat.le_refl _) _
              have hka : BoxIn (w7.alloc (.cells #[.int .i64 bq, .slice aq xq.length cq] 26)) w7.heap.size (.int .i64 bq) (.slice aq xq.length cq) := heap_alloc_new w7 _
              go_upto_region 21 with (fail)
              generalize w7.alloc (.cells #[.int .i64 bq, .slice aq xq.length cq] 26) = w8 at hba hka ⊢
              have z8 := hba.size
              have q8 : Below w.heap.size w w8 := q7.trans (hba.mono q7.size)
              have C_8 := Lib.hid (C_7.out.below hba)
              clear C_7
              have T_8 := Lib.hid (T_7.out.below hba)
              clear T_7
              have Rq_8 := Lib.hid (Rq.out.below hba)
              clear Rq
              have Sq_8 := Lib.hid (Sq.out.below hba)
              clear Sq
              have BQ := Lib.hid hka
              clear hba hka
              cases sm
              · have hkd : decide (0 < K) = false := hl1
                have hkp : ¬0 < K := of_decide_eq_false hkd
                obtain ⟨y0, y1, y2, y3⟩ := boxAt BQ.out
                go_wp2_with fail
                refine (H1.out _ T_8.out Rq_8.out Sq_8.out).mono ?_
                rintro e w9 ⟨m1, mc1, rfl, hom, hb9⟩
                have z9 := hb9.size
                have q9 : Below w.heap.size w w9 := q8.trans (hb9.mono q8.size)
                have C_9 := Lib.hid (C_8.out.below hb9)
                clear C_8
                have T_9 := Lib.hid (T_8.out.below hb9)
                clear T_8
                have Rq_9 := Lib.hid (Rq_8.out.below hb9)
                clear Rq_8
                have Sq_9 := Lib.hid (Sq_8.out.below hb9)
                clear Sq_8
                have BQ_9 := Lib.hid (BQ.out.below hb9)
                clear BQ
                have M1 := Lib.hid (ownsRow_cellsAt hom)
                clear y0 y1 y2 y3
                clear hom
                obtain ⟨y0, y1, y2, y3⟩ := boxAt BQ_9.out
                go_wp2_with fail
                refine (H2.out _ Rq_9.out Sq_9.out).mono ?_
                rintro e w10 ⟨m2, mc2, rfl, hom, hb10⟩
                have z10 := hb10.size
                have q10 : Below w.heap.size w w10 := q9.trans (hb10.mono q9.size)
                have C_10 := Lib.hid (C_9.out.below hb10)
                clear C_9
                have T_10 := Lib.hid (T_9.out.below hb10)
                clear T_9
                have Rq_10 := Lib.hid (Rq_9.out.below hb10)
                clear Rq_9
                have Sq_10 := Lib.hid (Sq_9.out.below hb10)
                clear Sq_9
                have BQ_10 := Lib.hid (BQ_9.out.below hb10)
                clear BQ_9
                have M1_10 := Lib.hid (M1.out.below hb10)
                clear M1
                have M2 := Lib.hid (ownsRow_cellsAt hom)
                clear y0 y1 y2 y3
                clear hom
                obtain ⟨y0, y1, y2, y3⟩ := boxAt BQ_10.out
                go_wp2_with fail
                refine (H3.out _ T_10.out Rq_10.out Sq_10.out).mono ?_
                rintro e w11 ⟨rfl, hb11⟩
                have z11 := hb11.size
                have q11 : Below w.heap.size w w11 := q10.trans (hb11.mono q10.size)
                have C_11 := Lib.hid (C_10.out.below hb11)
                clear C_10
                have T_11 := Lib.hid (T_10.out.below hb11)
                clear T_10
                have Rq_11 := Lib.hid (Rq_10.out.below hb11)
                clear Rq_10
                have Sq_11 := Lib.hid (Sq_10.out.below hb11)
                clear Sq_10
                have BQ_11 := Lib.hid (BQ_10.out.below hb11)
                clear BQ_10
                have M1_11 := Lib.hid (M1_10.out.below hb11)
                clear M1_10
                have M2_11 := Lib.hid (M2.out.below hb11)
                clear M2
                clear y0 y1 y2 y3
                obtain ⟨y0, y1, y2, y3⟩ := boxAt BQ_11.out
                go_wp2_with fail
                refine (sameInts_same m1 m2 mc1 mc2 G _ (by omega) M1_11.out M2_11.out).mono ?_
                rintro e w12 ⟨rfl, hb12⟩
                have z12 := hb12.size
                have q12 : Below w.heap.size w w12 := q11.trans (hb12.mono q11.size)
                have C_12 := Lib.hid (C_11.out.below hb12)
                clear C_11
                have T_12 := Lib.hid (T_11.out.below hb12)
                clear T_11
                have Rq_12 := Lib.hid (Rq_11.out.below hb12)
                clear Rq_11
                have Sq_12 := Lib.hid (Sq_11.out.below hb12)
                clear Sq_11
                have BQ_12 := Lib.hid (BQ_11.out.below hb12)
                clear BQ_11
                have M1_12 := Lib.hid (M1_11.out.below hb12)
                clear M1_11
                have M2_12 := Lib.hid (M2_11.out.below hb12)
                clear M2_11
                clear y0 y1 y2 y3
                obtain ⟨y0, y1, y2, y3⟩ := boxAt BQ_12.out
                go_wp2_with fail
                refine (H4.out _ Rq_12.out Sq_12.out).mono ?_
                rintro e w13 ⟨rfl, hb13⟩
                have z13 := hb13.size
                have q13 : Below w.heap.size w w13 := q12.trans (hb13.mono q12.size)
                have C_13 := Lib.hid (C_12.out.below hb13)
                clear C_12
                have T_13 := Lib.hid (T_12.out.below hb13)
                clear T_12
                have Rq_13 := Lib.hid (Rq_12.out.below hb13)
                clear Rq_12
                have Sq_13 := Lib.hid (Sq_12.out.below hb13)
                clear Sq_12
                have BQ_13 := Lib.hid (BQ_12.out.below hb13)
                clear BQ_12
                have M1_13 := Lib.hid (M1_12.out.below hb13)
                clear M1_12
                have M2_13 := Lib.hid (M2_12.out.below hb13)
                clear M2_12
                clear y0 y1 y2 y3
                obtain ⟨y0, y1, y2, y3⟩ := boxAt BQ_13.out
                go_wp2_with fail
                refine (H6.out _ T_13.out Rq_13.out Sq_13.out).mono ?_
                rintro e w14 ⟨rfl, hb14⟩
                have z14 := hb14.size
                have q14 : Below w.heap.size w w14 := q13.trans (hb14.mono q13.size)
                have C_14 := Lib.hid (C_13.out.below hb14)
                clear C_13
                have T_14 := Lib.hid (T_13.out.below hb14)
                clear T_13
                have Rq_14 := Lib.hid (Rq_13.out.below hb14)
                clear Rq_13
                have Sq_14 := Lib.hid (Sq_13.out.below hb14)
                clear Sq_13
                have BQ_14 := Lib.hid (BQ_13.out.below hb14)
                clear BQ_13
                have M1_14 := Lib.hid (M1_13.out.below hb14)
                clear M1_13
                have M2_14 := Lib.hid (M2_13.out.below hb14)
                clear M2_13
                clear y0 y1 y2 y3
                go_wp2
                go_ret
                exact ⟨rfl, q14⟩
              · have hkd : decide (0 < K) = true := hl1
                have hkp : 0 < K := of_decide_eq_true hkd
                obtain rfl : iq = true := HL2.out rfl
                obtain ⟨y0, y1, y2, y3⟩ := boxAt BQ.out
                go_wp2_with fail
                refine (H1.out _ T_8.out Rq_8.out Sq_8.out).mono ?_
                rintro e w9 ⟨m1, mc1, rfl, hom, hb9⟩
                have z9 := hb9.size
                have q9 : Below w.heap.size w w9 := q8.trans (hb9.mono q8.size)
                have C_9 := Lib.hid (C_8.out.below hb9)
                clear C_8
                have T_9 := Lib.hid (T_8.out.below hb9)
                clear T_8
                have Rq_9 := Lib.hid (Rq_8.out.below hb9)
                clear Rq_8
                have Sq_9 := Lib.hid (Sq_8.out.below hb9)
                clear Sq_8
                have BQ_9 := Lib.hid (BQ.out.below hb9)
                clear BQ
                have M1 := Lib.hid (ownsRow_cellsAt hom)
                clear y0 y1 y2 y3
                clear hom
                obtain ⟨y0, y1, y2, y3⟩ := boxAt BQ_9.out
                go_wp2_with fail
                refine (H2.out _ Rq_9.out Sq_9.out).mono ?_
                rintro e w10 ⟨m2, mc2, rfl, hom, hb10⟩
                have z10 := hb10.size
                have q10 : Below w.heap.size w w10 := q9.trans (hb10.mono q9.size)
                have C_10 := Lib.hid (C_9.out.below hb10)
                clear C_9
                have T_10 := Lib.hid (T_9.out.below hb10)
                clear T_9
                have Rq_10 := Lib.hid (Rq_9.out.below hb10)
                clear Rq_9
                have Sq_10 := Lib.hid (Sq_9.out.below hb10)
                clear Sq_9
                have BQ_10 := Lib.hid (BQ_9.out.below hb10)
                clear BQ_9
                have M1_10 := Lib.hid (M1.out.below hb10)
                clear M1
                have M2 := Lib.hid (ownsRow_cellsAt hom)
                clear y0 y1 y2 y3
                clear hom
                obtain ⟨y0, y1, y2, y3⟩ := boxAt BQ_10.out
                go_wp2_with fail
                refine (H3.out _ T_10.out Rq_10.out Sq_10.out).mono ?_
                rintro e w11 ⟨rfl, hb11⟩
                have z11 := hb11.size
                have q11 : Below w.heap.size w w11 := q10.trans (hb11.mono q10.size)
                have C_11 := Lib.hid (C_10.out.below hb11)
                clear C_10
                have T_11 := Lib.hid (T_10.out.below hb11)
                clear T_10
                have Rq_11 := Lib.hid (Rq_10.out.below hb11)
                clear Rq_10
                have Sq_11 := Lib.hid (Sq_10.out.below hb11)
                clear Sq_10
                have BQ_11 := Lib.hid (BQ_10.out.below hb11)
                clear BQ_10
                have M1_11 := Lib.hid (M1_10.out.below hb11)
                clear M1_10
                have M2_11 := Lib.hid (M2.out.below hb11)
                clear M2
                clear y0 y1 y2 y3
                obtain ⟨y0, y1, y2, y3⟩ := boxAt BQ_11.out
                go_wp2_with fail
                refine (sameInts_same m1 m2 mc1 mc2 G _ (by omega) M1_11.out M2_11.out).mono ?_
                rintro e w12 ⟨rfl, hb12⟩
                have z12 := hb12.size
                have q12 : Below w.heap.size w w12 := q11.trans (hb12.mono q11.size)
                have C_12 := Lib.hid (C_11.out.below hb12)
                clear C_11
                have T_12 := Lib.hid (T_11.out.below hb12)
                clear T_11
                have Rq_12 := Lib.hid (Rq_11.out.below hb12)
                clear Rq_11
                have Sq_12 := Lib.hid (Sq_11.out.below hb12)
                clear Sq_11
                have BQ_12 := Lib.hid (BQ_11.out.below hb12)
                clear BQ_11
                have M1_12 := Lib.hid (M1_11.out.below hb12)
                clear M1_11
                have M2_12 := Lib.hid (M2_11.out.below hb12)
                clear M2_11
                clear y0 y1 y2 y3
                obtain ⟨y0, y1, y2, y3⟩ := boxAt BQ_12.out
                go_wp2_with fail
                refine (H4.out _ Rq_12.out Sq_12.out).mono ?_
                rintro e w13 ⟨rfl, hb13⟩
                have z13 := hb13.size
                have q13 : Below w.heap.size w w13 := q12.trans (hb13.mono q12.size)
                have C_13 := Lib.hid (C_12.out.below hb13)
                clear C_12
                have T_13 := Lib.hid (T_12.out.below hb13)
                clear T_12
                have Rq_13 := Lib.hid (Rq_12.out.below hb13)
                clear Rq_12
                have Sq_13 := Lib.hid (Sq_12.out.below hb13)
                clear Sq_12
                have BQ_13 := Lib.hid (BQ_12.out.below hb13)
                clear BQ_12
                have M1_13 := Lib.hid (M1_12.out.below hb13)
                clear M1_12
                have M2_13 := Lib.hid (M2_12.out.below hb13)
                clear M2_12
                clear y0 y1 y2 y3
                obtain ⟨y0, y1, y2, y3⟩ := boxAt BQ_13.out
                go_wp2_with fail
                refine (H5.out m2 mc2 _ T_13.out Rq_13.out Sq_13.out M2_13.out).mono ?_
                rintro e w14 ⟨rfl, hb14⟩
                have z14 := hb14.size
                have q14 : Below w.heap.size w w14 := q13.trans (hb14.mono q13.size)
                have C_14 := Lib.hid (C_13.out.below hb14)
                clear C_13
                have T_14 := Lib.hid (T_13.out.below hb14)
                clear T_13
                have Rq_14 := Lib.hid (Rq_13.out.below hb14)
                clear Rq_13
                have Sq_14 := Lib.hid (Sq_13.out.below hb14)
                clear Sq_13
                have BQ_14 := Lib.hid (BQ_13.out.below hb14)
                clear BQ_13
                have M1_14 := Lib.hid (M1_13.out.below hb14)
                clear M1_13
                have M2_14 := Lib.hid (M2_13.out.below hb14)
                clear M2_13
                clear y0 y1 y2 y3
                obtain ⟨y0, y1, y2, y3⟩ := boxAt BQ_14.out
                go_wp2_with fail
                refine (H6.out _ T_14.out Rq_14.out Sq_14.out).mono ?_
                rintro e w15 ⟨rfl, hb15⟩
                have z15 := hb15.size
                have q15 : Below w.heap.size w w15 := q14.trans (hb15.mono q14.size)
                have C_15 := Lib.hid (C_14.out.below hb15)
                clear C_14
                have T_15 := Lib.hid (T_14.out.below hb15)
                clear T_14
                have Rq_15 := Lib.hid (Rq_14.out.below hb15)
                clear Rq_14
                have Sq_15 := Lib.hid (Sq_14.out.below hb15)
                clear Sq_14
                have BQ_15 := Lib.hid (BQ_14.out.below hb15)
                clear BQ_14
                have M1_15 := Lib.hid (M1_14.out.below hb15)
                clear M1_14
                have M2_15 := Lib.hid (M2_14.out.below hb15)
                clear M2_14
                clear y0 y1 y2 y3
                go_wp2
                go_ret
                exact ⟨rfl, q15⟩
  · rw [decide_eq_true (by omega)] at hbig
    have HBIG := Lib.hid hbig
    clear hbig hc0 hw0 hT
    go_enter Tryz.func3, Tryz.ntmps3
    go_wp2_with fail
    refine (HBIG.out _).mono ?_
    rintro e w' ⟨rfl, rfl⟩
    go_wp2
    go_ret
    exact ⟨rfl, Below.refl _ _⟩

set_option maxRecDepth 100000 in
theorem lifted (os : Os) (started : os.Started) (H : Type) (enc : TypeId × Value → H) :
    ReturnsInHanded {} Tryz.checked os 3 .any (fun w args => (Rows.fnFaultsSpec.pre enc Tryz.prog Tryz.f3 Rows.fnFaultsRow.domain false w args ∧ laidMetH Tryz.prog tabs w) ∧ sizedMet enc Tryz.prog Tryz.f3 (OpenSpec.ofChange Rows.fnFaultsSpec) false w args) (Rows.fnFaultsSpec.post enc Tryz.prog Tryz.f3 false true false false) := by
  refine returnsInHanded_of_change_and (C := Tryz.checked) (X := fun w _ => laidMetH Tryz.prog tabs w) (fun _ _ _ hh h => h.of_heap hh) Tryz.own started (by kernel_rfl) Tryz.func3
    (ChangeSpec.witness_shaped (enc := enc) (C := Tryz.checked) (os := os) (X := fun w _ => laidMetH Tryz.prog tabs w) false (World.laidAll Tryz.prog os tabs) #[.slice none 0 0] 8 (World.laidAll_os _ _ _)
      (World.shaped_of_ZipB (by kernel_rfl) (by kernel_rfl)) (by kernel_rfl) (by kernel_rfl) (by kernel_rfl)
      (by rw [MakeChecks.laidMetH_plain _ _ _ (by kernel_rfl)]; exact laidMet_laidAll _ (by kernel_rfl) (by kernel_rfl))) ?_
  intro W base args ds gs before hval0 hW hcnd _ hL _
  have hval : ∀ (j : Nat) t v, Tryz.f3.params[j]? = some t → args[j]? = some v → Value.okWide Tryz.prog W .any base t v := hval0
  have hW' := hW
  obtain ⟨p, q, hA0, hV, rfl, hfz, hnd⟩ := hW
  have hA : DataW.TrodAll enc Tryz.prog W 0 (fun _ => true) true Tryz.f3.params.toList args.toList ds p := hA0
  rw [Tryz.params3] at hA hval
  obtain ⟨v0, vs0, d0, ds0, p0, q0, hargs, rfl, rfl, h0, r0⟩ := trodAll_cons hA
  obtain ⟨rfl, rfl, rfl⟩ := trodAll_nil r0
  obtain rfl : args = #[v0] := by cases args; simp_all
  obtain ⟨rfl, rfl⟩ := trodVars_none hV
  obtain ⟨ad0, cap0, xs0, rfl, hm0, hc0, hw0⟩ := openBts (hval 0 22 v0 rfl rfl) h0
  clear hA0 hval0
  refine (walk W ad0 cap0 xs0 hm0 hc0 hw0 (tab_of_laid hL)).mono fun e W' ⟨he, hb⟩ => ?_
  subst he
  exact ⟨_, rfl, law_post rfl hW' hb (by rw [Tryz.params3]; exact readable_all (by kernel_rfl)) (by kernel_rfl) (by kernel_rfl) rfl⟩

theorem proved : Rows.FnFaultsSaid :=
  OpenClaim.holds_of_wide 3 Tryz.f3 rfl rfl rfl rfl rfl rfl rfl ⟨rfl, rfl, rfl, rfl, rfl⟩ rfl rfl rfl rfl rfl (by kernel_rfl) Tryz.func3 (by kernel_rfl)
    (of_decide_eq_true (by kernel_rfl)) (by unfold Func.isWrapper; first | (rw [if_pos (by decide +kernel)]; kernel_rfl) | (rw [if_neg (by decide +kernel)]; exact ⟨rfl, rfl⟩))
    (fun os started H enc _ => lifted os started H enc)

theorem card : Rows.FnFaultsCardSaid :=
  Claim7.holds_tied_plain_at .later [] [.data, .data] true (true, "1f54207e01dd30c8355ef7b84748b97812893aadfc7b01de948ac43e2da837ab") false proved (fun _ h => by cases h) (by kernel_rfl) (fun _ h => by cases h) fnFaults_row_tie rfl ⟨rfl, rfl⟩ (by kernel_rfl) rfl
    (fun f fn hf hfn => by
      obtain rfl : f = 3 := Option.some.inj ((show Tryz.prog.funcNamed "loop.example/g03400/laws.FnFaults" = some 3 by kernel_rfl).symm.trans hf) |>.symm
      obtain rfl : fn = Tryz.f3 := (Option.some.inj (Tryz.func3.symm.trans hfn)).symm
      exact ⟨by kernel_rfl, fun j t ht => by
        have hm : t ∈ Tryz.f3.params.toList := Array.mem_toList_iff.2 (Array.mem_of_getElem? ht)
        have hall : (Tryz.f3.params.toList.all fun u => !Tryz.prog.wantsStandIn u) = true := by kernel_rfl
        exact (show Tryz.prog.wantsStandIn t = false by simpa using List.all_eq_true.1 hall t hm)⟩)
    (by kernel_rfl)
end Go.Proofs.YtajmdgcnnipdoaaGreatDoor.lawFFt
