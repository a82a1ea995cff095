/- LawFRec: FnRectangles holds for every code, where the library's tables lie as their initialisers lay them (the card ties that to the program's text). -/
import Derived.Test.YtajmdgcnnipdoaaGreatDoorAllD0
import Derived.Test.YtajmdgcnnipdoaaGreatDoorSameL
import Derived.Test.YtajmdgcnnipdoaaGreatDoorDrawU1
import Derived.Test.YtajmdgcnnipdoaaGreatDoorRectP
import Derived.Test.YtajmdgcnnipdoaaGreatDoorAllBal
import Derived.Test.YtajmdgcnnipdoaaGreatDoorAllSm
import Derived.Test.YtajmdgcnnipdoaaGreatDoorAllRI
import Derived.Test.YtajmdgcnnipdoaaGreatDoorAllRS
import Derived.Test.YtajmdgcnnipdoaaGreatDoorAllTie
import Derived.Test.YtajmdgcnnipdoaaGreatDoorTie
import Derived.Test.YtajmdgcnnipdoaaGreatDoorCards
import Derived.SevenTiedAt
import Derived.Lib.QuietBelow
import Derived.BigQuiet
import Derived.Deep.CutRange
namespace Go.Proofs.YtajmdgcnnipdoaaGreatDoor.lawFRec
open Go.ChangeShapes Go.WideShapes Go.ChangeAt Go.RowKit

/-- A region lies in a box. -/
def BoxIn (w : World) (p : Nat) (v0 v1 : Value) : Prop := w.heap[p]? = some (.cells #[v0, v1] 26 (0, 0))
theorem BoxIn.below {w w' : World} {p : Nat} {v0 v1 : Value} (h : BoxIn w p v0 v1) (hb : Below w.heap.size w w') : BoxIn w' p v0 v1 :=
  (hb.block p (lt_of_block h)).trans h
theorem rowsP_length (L : List (Nat × Nat)) : (rowsP L).length = L.length := by simp [rowsP]
theorem rowsP_short (L : List (Nat × Nat)) : ∀ r ∈ rowsP L, r.length ≤ 1048576 := by
  intro r hr
  unfold rowsP at hr
  obtain ⟨p, _, rfl⟩ := List.mem_map.1 hr
  exact (by decide : 2 ≤ 1048576)
/-- One pair in memory. -/
theorem pair_at {w : World} {ad : Option Addr} {L : List (Nat × Nat)} (h : RowsAt w ad (rowsP L)) {k : Nat} (hk : k < L.length) :
    ∃ (g off : Nat) (ai : Option Addr) (ci ag ao : Nat), ad = some ⟨g, off, none⟩ ∧ ai = some ⟨ag, ao, none⟩ ∧ w.cell? ⟨g, off + k, none⟩ = some (.slice (some ⟨ag, ao, none⟩) 2 ci) ∧
      w.cell? ⟨ag, ao, none⟩ = some (.int .i64 (L[k].1 : Int)) ∧ w.cell? ⟨ag, ao + 1, none⟩ = some (.int .i64 (L[k].2 : Int)) := by
  obtain ⟨g, off, ai, ci, h1, _, h3, h4⟩ := h k (by rw [rowsP_length]; exact hk)
  have e : (rowsP L)[k]'(by rw [rowsP_length]; exact hk) = [(L[k].1 : Int), (L[k].2 : Int)] := by simp [rowsP, rowP]
  rw [e] at h3 h4
  obtain ⟨ag, ao, rfl, _, hcc⟩ := h4.open (by rw [ints_length]; exact (by decide : 0 < 2))
  exact ⟨g, off, _, ci, ag, ao, h1, rfl, h3, hcc 0 _ rfl, hcc 1 _ rfl⟩
theorem small_all {a b p : Nat} (ha : a ≤ 5) (hb : b ≤ 5) (hp : p = a * b) : (a : Int) * (b : Int) = (p : Int) ∧ IntKind.i64.wrap (p : Int) = (p : Int) ∧ p ≤ 25 := by
  have h : a * b ≤ 5 * 5 := Nat.mul_le_mul ha hb
  refine ⟨by rw [hp]; norm_cast, IntWalk.i64_in _ (by omega), by omega⟩

set_option maxRecDepth 100000 in
set_option maxHeartbeats 8000000 in
theorem walk (w : World) (ad0 : Option Addr) (cap0 : Nat) (bs0 : List Nat) (hm0 : bs0.length ≤ maxLen) (hc0 : CellsAt w ad0 (bts bs0)) (hw0 : ∀ b ∈ bs0, b < 256) (hT : Tab w) :
    Calls Tryz.prog 4 #[.slice ad0 bs0.length cap0] w fun e w' => e = .returned (.bool true) ∧ Below w.heap.size w w' := by
  unfold maxLen at hm0
  have hbig := fun w => big_any ad0 cap0 bs0 w (by omega)
  by_cases hn : bs0.length ≤ 1048576
  · rw [decide_eq_false (by omega)] at hbig
    have HBIG := Lib.hid hbig
    have HW := Lib.hid hw0
    clear hbig hw0
    have q0 : Below w.heap.size w w := Below.refl _ _
    have C := Lib.hid (hc0)
    clear hc0
    have T := Lib.hid (hT)
    clear hT
    go_enter Tryz.func4, Tryz.ntmps4
    go_wp2_with fail
    refine (HBIG.out _).mono ?_
    rintro e w' ⟨rfl, rfl⟩
    have HDS := Lib.hid (fun w h => drawSm_any ad0 cap0 bs0 w hn HW.out h)
    have HDI := Lib.hid (fun w h => drawIR_any ad0 cap0 bs0 w hn HW.out h)
    have HDC := Lib.hid (fun w h => drawCB_any ad0 cap0 bs0 w hn HW.out h)
    have HDT := Lib.hid (fun w h => drawTR_any ad0 cap0 bs0 w hn HW.out h)
    unfold ClDrawn at HDS HDI HDC
    unfold ClTwo at HDT
    go_wp2_with fail
    refine (HDS.out _ C.out).mono ?_
    rintro e w1 ⟨a0, c0, l, rfl, hll, hf, hb1⟩
    have z1 := hb1.size
    have q1 : Below w.heap.size w w1 := q0.trans (hb1.mono q0.size)
    have C_1 := Lib.hid (C.out.below hb1)
    clear C
    have T_1 := Lib.hid (T.out.below hb1)
    clear T
    have S := Lib.hid (hf.cells)
    clear hf
    have hnl : l.length ≤ 1048576 := by omega
    have HIS := Lib.hid (fun w h0 h1 => implSm a0 c0 l w hnl h0 h1)
    have HSS := Lib.hid (fun w h1 => specSm a0 c0 l w hnl h1)
    have HIL := Lib.hid (fun w h0 h1 => implRT a0 c0 l w hnl h0 h1)
    have HSL := Lib.hid (fun w h1 => specRT a0 c0 l w hnl h1)
    have HIO := Lib.hid (fun w h0 h1 => implRo a0 c0 l w hnl h0 h1)
    have HSO := Lib.hid (fun w h1 => specRo a0 c0 l w hnl h1)
    have HIQ := Lib.hid (fun w h1 => implRect a0 c0 l w hnl h1)
    have HTR := Lib.hid (fun x y w h0 h1 => implTR a0 c0 l x y w hnl h0 h1)
    have HSM := Lib.hid (fun a1 a2 c1 c2 w h1 h2 => sameLists_same a1 a2 c1 c2 (rowsP (rectL l)) w (by rw [rowsP_length]; exact Nat.le_trans (rectL_length l) (by decide)) (rowsP_short _) h1 h2)
    simp only [rowsP_length] at HSM
    have HLAW := Lib.hid (fun hr => rect_law (l := l) hr)
    have HBD := Lib.hid (rectL_bd l)
    have HLN := rectL_length l
    have hA5 := (smR_bd l).1
    have hB5 := (smR_bd l).2
    generalize rectL l = RL at HIS HSS HIL HSL HSM HLAW HBD HLN
    generalize smR l = AB at HIS HSS HLAW hA5 hB5
    obtain ⟨A, B⟩ := AB
    simp only at HIS HSS HLAW hA5 hB5
    generalize isRect l = ir at HIQ HLAW
    generalize roR l = ro at HIO HSO HLAW
    go_wp2_with fail
    refine (HIS.out _ T_1.out S.out).mono ?_
    rintro e w2 ⟨rfl, hb2⟩
    have z2 := hb2.size
    have q2 : Below w.heap.size w w2 := q1.trans (hb2.mono q1.size)
    have C_2 := Lib.hid (C_1.out.below hb2)
    clear C_1
    have T_2 := Lib.hid (T_1.out.below hb2)
    clear T_1
    have S_2 := Lib.hid (S.out.below hb2)
    clear S
    go_wp2_with fail
    refine (HSS.out _ S_2.out).mono ?_
    rintro e w3 ⟨rfl, hb3⟩
    have z3 := hb3.size
    have q3 : Below w.heap.size w w3 := q2.trans (hb3.mono q2.size)
    have C_3 := Lib.hid (C_2.out.below hb3)
    clear C_2
    have T_3 := Lib.hid (T_2.out.below hb3)
    clear T_2
    have S_3 := Lib.hid (S_2.out.below hb3)
    clear S_2
    go_wp2_with fail
    refine (HIL.out _ T_3.out S_3.out).mono ?_
    rintro e w4 ⟨a1, c1, rfl, hom, hb4⟩
    have z4 := hb4.size
    have q4 : Below w.heap.size w w4 := q3.trans (hb4.mono q3.size)
    have C_4 := Lib.hid (C_3.out.below hb4)
    clear C_3
    have T_4 := Lib.hid (T_3.out.below hb4)
    clear T_3
    have S_4 := Lib.hid (S_3.out.below hb4)
    clear S_3
    have L1 := Lib.hid (hom.rowsAt)
    clear hom
    obtain ⟨n, hn9⟩ : ∃ n, n = RL.length := ⟨_, rfl⟩
    go_wp2_with fail
    refine (HSL.out _ S_4.out).mono ?_
    rintro e w5 ⟨a2, c2, rfl, hom, hb5⟩
    have z5 := hb5.size
    have q5 : Below w.heap.size w w5 := q4.trans (hb5.mono q4.size)
    have C_5 := Lib.hid (C_4.out.below hb5)
    clear C_4
    have T_5 := Lib.hid (T_4.out.below hb5)
    clear T_4
    have S_5 := Lib.hid (S_4.out.below hb5)
    clear S_4
    have L1_5 := Lib.hid (L1.out.below hb5)
    clear L1
    have L2 := Lib.hid (hom.rowsAt)
    clear hom
    go_wp2_with fail
    refine (HSM.out a1 a2 c1 c2 _ L1_5.out L2.out).mono ?_
    rintro e w6 ⟨rfl, hb6⟩
    have z6 := hb6.size
    have q6 : Below w.heap.size w w6 := q5.trans (hb6.mono q5.size)
    have C_6 := Lib.hid (C_5.out.below hb6)
    clear C_5
    have T_6 := Lib.hid (T_5.out.below hb6)
    clear T_5
    have S_6 := Lib.hid (S_5.out.below hb6)
    clear S_5
    have L1_6 := Lib.hid (L1_5.out.below hb6)
    clear L1_5
    have L2_6 := Lib.hid (L2.out.below hb6)
    clear L2
    clear L2_6
    go_wp2_with fail
    refine (HIO.out _ T_6.out S_6.out).mono ?_
    rintro e w7 ⟨rfl, hb7⟩
    have z7 := hb7.size
    have q7 : Below w.heap.size w w7 := q6.trans (hb7.mono q6.size)
    have C_7 := Lib.hid (C_6.out.below hb7)
    clear C_6
    have T_7 := Lib.hid (T_6.out.below hb7)
    clear T_6
    have S_7 := Lib.hid (S_6.out.below hb7)
    clear S_6
    have L1_7 := Lib.hid (L1_6.out.below hb7)
    clear L1_6
    go_wp2_with fail
    refine (HSO.out _ S_7.out).mono ?_
    rintro e w8 ⟨rfl, hb8⟩
    have z8 := hb8.size
    have q8 : Below w.heap.size w w8 := q7.trans (hb8.mono q7.size)
    have C_8 := Lib.hid (C_7.out.below hb8)
    clear C_7
    have T_8 := Lib.hid (T_7.out.below hb8)
    clear T_7
    have S_8 := Lib.hid (S_7.out.below hb8)
    clear S_7
    have L1_8 := Lib.hid (L1_7.out.below hb8)
    clear L1_7
    clear HIS HSS HIL HSL HSM HSO hn9
    by_cases h0 : 0 < RL.length
    · have hd0 : decide (0 < RL.length) = true := decide_eq_true h0
      obtain ⟨hok, hsome, ⟨nr, hro, hnr⟩, hir, hall⟩ := HLAW.out h0
      subst hro
      obtain ⟨P, hP⟩ : ∃ P, P = A * B := ⟨_, rfl⟩
      obtain ⟨p1, p2, p3⟩ := small_all hA5 hB5 hP
      have hq1 : (nr : Int) * (l.length : Int) = (P : Int) := by rw [hP, ← hnr]; norm_cast
      rw [← hP] at hir hall
      have HIRR := Lib.hid hir
      have HALL := Lib.hid hall
      have hrc := fun w => specRc (A : Int) (B : Int) w
      unfold RcAt at hrc
      rw [decide_eq_true hok] at hrc
      have HRC := Lib.hid hrc
      have HH := Lib.hid (fun a3 c3 g w' h0 h1 h2 => implHasT (rcB (A : Int) (B : Int)) a3 c3 (rcR (A : Int) (B : Int)) (some ⟨g, 0, none⟩) 1 [l] w' (Nat.le_trans (rcR_length _ _) (by decide)) (by simp) (fun p hp => by rw [List.mem_singleton.1 hp]; exact hnl) h0 h1 h2)
      rw [hsome] at HH
      clear hir hall hrc hP hnr hok hsome HLAW
      generalize rcB (A : Int) (B : Int) = rb at HRC HH
      generalize rcR (A : Int) (B : Int) = rr at HRC HH
      have pnn : ((nr : Int) == (nr : Int)) = true := by simp
      go_wp2_with fail
      refine (HRC.out _).mono ?_
      rintro e w9 ⟨b0, d0, rfl, ho, hb9⟩
      have z9 := hb9.size
      have q9 : Below w.heap.size w w9 := q8.trans (hb9.mono q8.size)
      have C_9 := Lib.hid (C_8.out.below hb9)
      clear C_8
      have T_9 := Lib.hid (T_8.out.below hb9)
      clear T_8
      have S_9 := Lib.hid (S_8.out.below hb9)
      clear S_8
      have L1_9 := Lib.hid (L1_8.out.below hb9)
      clear L1_8
      have RR := Lib.hid (ownsRow_cellsAt ho)
      clear ho HRC
      have hba : Below w9.heap.size w9 (w9.alloc (.cells #[.int .i64 rb, .slice b0 rr.length d0] 26)) := (Below.refl _ _).alloc (Nat.le_refl _) _
      have hka : BoxIn (w9.alloc (.cells #[.int .i64 rb, .slice b0 rr.length d0] 26)) w9.heap.size (.int .i64 rb) (.slice b0 rr.length d0) := heap_alloc_new w9 _
      go_upto_region 11 with (fail)
      generalize w9.alloc (.cells #[.int .i64 rb, .slice b0 rr.length d0] 26) = w10 at hba hka ⊢
      have z10 := hba.size
      have q10 : Below w.heap.size w w10 := q9.trans (hba.mono q9.size)
      have C_10 := Lib.hid (C_9.out.below hba)
      clear C_9
      have T_10 := Lib.hid (T_9.out.below hba)
      clear T_9
      have S_10 := Lib.hid (S_9.out.below hba)
      clear S_9
      have L1_10 := Lib.hid (L1_9.out.below hba)
      clear L1_9
      have RR_10 := Lib.hid (RR.out.below hba)
      clear RR
      have BX := Lib.hid hka
      clear hba hka
      go_cut [99] from 72 to 99 (fun c wx => c = .bool false ∧ Below w10.heap.size w10 wx)
      case first =>
        obtain ⟨y0, y1, y2, y3⟩ := boxAt BX.out
        have hba : Below w10.heap.size w10 (w10.alloc (.cells #[.slice a0 l.length c0] 40)) := (Below.refl _ _).alloc (Nat.le_refl _) _
        have hka := heap_alloc_new w10 (.cells #[.slice a0 l.length c0] 40)
        go_wp2_with fail
        clear y0 y1 y2 y3
        generalize w10.alloc (.cells #[.slice a0 l.length c0] 40) = w11 at hba hka ⊢
        have z11 := hba.size
        have q11 : Below w.heap.size w w11 := q10.trans (hba.mono q10.size)
        have C_11 := Lib.hid (C_10.out.below hba)
        clear C_10
        have T_11 := Lib.hid (T_10.out.below hba)
        clear T_10
        have S_11 := Lib.hid (S_10.out.below hba)
        clear S_10
        have L1_11 := Lib.hid (L1_10.out.below hba)
        clear L1_10
        have RR_11 := Lib.hid (RR_10.out.below hba)
        clear RR_10
        have BX_11 := Lib.hid (BX.out.below hba)
        clear BX
        have HSA := Lib.hid (shpsAt_one hka S_11.out)
        clear hka
        refine (HH.out b0 d0 (w10.heap.size) _ T_11.out RR_11.out HSA.out).mono ?_
        rintro e w12 ⟨rfl, hb12⟩
        have z12 := hb12.size
        have q12 : Below w.heap.size w w12 := q11.trans (hb12.mono q11.size)
        have C_12 := Lib.hid (C_11.out.below hb12)
        clear C_11
        have T_12 := Lib.hid (T_11.out.below hb12)
        clear T_11
        have S_12 := Lib.hid (S_11.out.below hb12)
        clear S_11
        have L1_12 := Lib.hid (L1_11.out.below hb12)
        clear L1_11
        have RR_12 := Lib.hid (RR_11.out.below hb12)
        clear RR_11
        have BX_12 := Lib.hid (BX_11.out.below hb12)
        clear BX_11
        go_wp2_with fail
        refine (HIO.out _ T_12.out S_12.out).mono ?_
        rintro e w13 ⟨rfl, hb13⟩
        have z13 := hb13.size
        have q13 : Below w.heap.size w w13 := q12.trans (hb13.mono q12.size)
        have C_13 := Lib.hid (C_12.out.below hb13)
        clear C_12
        have T_13 := Lib.hid (T_12.out.below hb13)
        clear T_12
        have S_13 := Lib.hid (S_12.out.below hb13)
        clear S_12
        have L1_13 := Lib.hid (L1_12.out.below hb13)
        clear L1_12
        have RR_13 := Lib.hid (RR_12.out.below hb13)
        clear RR_12
        have BX_13 := Lib.hid (BX_12.out.below hb13)
        clear BX_12
        go_wp2_with fail
        refine (HIQ.out _ S_13.out).mono ?_
        rintro e w14 ⟨rfl, hb14⟩
        have z14 := hb14.size
        have q14 : Below w.heap.size w w14 := q13.trans (hb14.mono q13.size)
        have C_14 := Lib.hid (C_13.out.below hb14)
        clear C_13
        have T_14 := Lib.hid (T_13.out.below hb14)
        clear T_13
        have S_14 := Lib.hid (S_13.out.below hb14)
        clear S_13
        have L1_14 := Lib.hid (L1_13.out.below hb14)
        clear L1_13
        have RR_14 := Lib.hid (RR_13.out.below hb14)
        clear RR_13
        have BX_14 := Lib.hid (BX_13.out.below hb14)
        clear BX_13
        cases ir
        · go_wp2
          go_meet
          exact ⟨rfl, hba.trans (((hb12.trans (hb13.mono hb12.size)).trans (hb14.mono (hb12.trans (hb13.mono hb12.size)).size)).mono hba.size)⟩
        · have hle : ¬ (l.length : Int) < (P : Int) := by have := HIRR.out rfl; omega
          have hld : decide (l.length < P) = false := decide_eq_false (by omega)
          go_wp2
          go_meet
          exact ⟨rfl, hba.trans (((hb12.trans (hb13.mono hb12.size)).trans (hb14.mono (hb12.trans (hb13.mono hb12.size)).size)).mono hba.size)⟩
      case rest =>
        obtain ⟨rfl, hb11⟩ := hcut
        obtain ⟨w11, rfl⟩ : ∃ x, x = wc := ⟨_, rfl⟩
        have z11 := hb11.size
        have q11 : Below w.heap.size w w11 := q10.trans (hb11.mono q10.size)
        have C_11 := Lib.hid (C_10.out.below hb11)
        clear C_10
        have T_11 := Lib.hid (T_10.out.below hb11)
        clear T_10
        have S_11 := Lib.hid (S_10.out.below hb11)
        clear S_10
        have L1_11 := Lib.hid (L1_10.out.below hb11)
        clear L1_10
        have RR_11 := Lib.hid (RR_10.out.below hb11)
        clear RR_10
        have BX_11 := Lib.hid (BX.out.below hb11)
        clear BX
        clear BX_11 RR_11
        clear HH HIRR HIO HIQ
        go_wp2
        go_loopw [13] (fun i wr => ∃ k : Nat, k ≤ RL.length ∧ i = .int .i64 k ∧ Below w11.heap.size w11 wr) (fun i _ => RL.length - (intOf i).toNat)
        case atStart => exact ⟨0, Nat.zero_le _, rfl, Below.refl _ _⟩
        case round =>
          obtain ⟨k, hk, rfl, hbr⟩ := hrel
          have HBR := Lib.hid hbr
          clear hbr
          by_cases hlt : k < RL.length
          · have i1 : (k : Int) < (RL.length : Int) := by omega
            obtain ⟨g, off, ai, ci, ag, ao, rfl, rfl, x0, x1, x2⟩ := pair_at (L1_11.out.below HBR.out) hlt
            have hbd := HBD.out RL[k] (List.getElem_mem hlt)
            obtain ⟨hmin, htr⟩ := HALL.out RL[k] (List.getElem_mem hlt)
            have HTk := HTR.out (RL[k].2 : Int) (RL[k].1 : Int)
            rw [htr] at HTk
            clear htr
            generalize RL[k] = pq at x1 x2 hbd hmin HTk
            obtain ⟨u, v⟩ := pq
            simp only at x1 x2 hbd hmin HTk
            obtain ⟨Q, hQ⟩ : ∃ Q, Q = u * v := ⟨_, rfl⟩
            obtain ⟨r1, r2, r3⟩ := small_all hbd.1 hbd.2 hQ
            rw [← hQ] at hmin
            have hqd : decide (Q < P) = false := decide_eq_false (by omega)
            have X0 := cell_regrown x0
            have X1 := cell_regrown x1
            have X2 := cell_regrown x2
            have HQ0 := Lib.hid (fun d os => Calls.regrown_of (d := d) (os := os) (HTk (Go.Sort.grow (redrawn wr d) os) (T_11.out.below (HBR.out.trans ((below_regrown wr d os).mono HBR.out.size))) (S_11.out.below (HBR.out.trans ((below_regrown wr d os).mono HBR.out.size)))))
            clear hQ x0 x1 x2 HTk
            go_upto_region 16 with (fail)
            refine wp_region_quiet_below (by kernel_rfl) (by kernel_rfl) ?_
            repeat (go_big_quiet_step (first | exact HQ0.out _ _))
            refine wpQuiet_nil ?_
            intro _ hw'
            obtain ⟨⟨dq, osq⟩, hw''⟩ := hw'
            subst hw''
            have hbq := below_regrown wr dq osq
            go_wp2
            go_roundw
            case rel => exact ⟨k + 1, by omega, by go_num, HBR.out.trans (hbq.mono HBR.out.size)⟩
            case measure => simp [intOf]; omega
          · obtain rfl : k = RL.length := by omega
            obtain ⟨w12, rfl⟩ : ∃ x, x = wr := ⟨_, rfl⟩
            have hb12 := HBR.out
            have z12 := hb12.size
            have q12 : Below w.heap.size w w12 := q11.trans (hb12.mono q11.size)
            have C_12 := Lib.hid (C_11.out.below hb12)
            clear C_11
            have T_12 := Lib.hid (T_11.out.below hb12)
            clear T_11
            have S_12 := Lib.hid (S_11.out.below hb12)
            clear S_11
            have L1_12 := Lib.hid (L1_11.out.below hb12)
            clear L1_11
            clear HBR HALL HTR HBD hk hlt
            clear L1_12
            go_wp2_with fail
            refine (HDT.out _ C_12.out).mono ?_
            rintro e w13 ⟨at0, ct, lt, x, y, rfl, hx, hy, hlt8, hf, hb13⟩
            have z13 := hb13.size
            have q13 : Below w.heap.size w w13 := q12.trans (hb13.mono q12.size)
            have C_13 := Lib.hid (C_12.out.below hb13)
            clear C_12
            have T_13 := Lib.hid (T_12.out.below hb13)
            clear T_12
            have S_13 := Lib.hid (S_12.out.below hb13)
            clear S_12
            have ST := Lib.hid (hf.cells)
            clear hf
            have hnt : lt.length ≤ 1048576 := by omega
            go_wp2_with fail
            refine (HDI.out _ C_13.out).mono ?_
            rintro e w14 ⟨ai0, ci, li, rfl, hli8, hf, hb14⟩
            have z14 := hb14.size
            have q14 : Below w.heap.size w w14 := q13.trans (hb14.mono q13.size)
            have C_14 := Lib.hid (C_13.out.below hb14)
            clear C_13
            have T_14 := Lib.hid (T_13.out.below hb14)
            clear T_13
            have S_14 := Lib.hid (S_13.out.below hb14)
            clear S_13
            have ST_14 := Lib.hid (ST.out.below hb14)
            clear ST
            have SI := Lib.hid (hf.cells)
            clear hf
            have hni : li.length ≤ 1048576 := by omega
            go_wp2_with fail
            refine (HDC.out _ C_14.out).mono ?_
            rintro e w15 ⟨ae0, ce, le, rfl, hle8, hf, hb15⟩
            have z15 := hb15.size
            have q15 : Below w.heap.size w w15 := q14.trans (hb15.mono q14.size)
            have C_15 := Lib.hid (C_14.out.below hb15)
            clear C_14
            have T_15 := Lib.hid (T_14.out.below hb15)
            clear T_14
            have S_15 := Lib.hid (S_14.out.below hb15)
            clear S_14
            have ST_15 := Lib.hid (ST_14.out.below hb15)
            clear ST_14
            have SI_15 := Lib.hid (SI.out.below hb15)
            clear SI
            have SE := Lib.hid (hf.cells)
            clear hf
            have hne : le.length ≤ 1048576 := by omega
            have HT1 := Lib.hid (fun w h0 h1 => implTR at0 ct lt x y w hnt h0 h1)
            have HT2 := Lib.hid (fun w h1 => specTR at0 ct lt x y w hnt h1)
            have ht3 := fun w h0 h1 => implTR at0 ct lt y x w hnt h0 h1
            rw [trR_swap] at ht3
            have HT3 := Lib.hid ht3
            have HI1 := Lib.hid (fun w h1 => implRect ai0 ci li w hni h1)
            have HI2 := Lib.hid (fun w h1 => specRect ai0 ci li w hni h1)
            have HE1 := Lib.hid (fun w h1 => implRect ae0 ce le w hne h1)
            have HE2 := Lib.hid (fun w h1 => implBal ae0 ce le w hne h1)
            have HE3 := Lib.hid (fun w h1 => specBal ae0 ce le w hne h1)
            have hbal := bal_law le
            clear ht3
            generalize trR lt x y = t1 at HT1 HT2 HT3
            generalize isRect li = t2 at HI1 HI2
            generalize isRect le = t3 at HE1 hbal
            generalize balR le = bl at HE2 HE3 hbal
            have HBAL := Lib.hid hbal
            have bb1 : (t1 == t1) = true := by simp
            have bb2 : (t2 == t2) = true := by simp
            have bb3 : (bl == bl) = true := by simp
            clear hbal
            go_wp2_with fail
            refine (HE2.out _ SE.out).mono ?_
            rintro e w16 ⟨rfl, hb16⟩
            have z16 := hb16.size
            have q16 : Below w.heap.size w w16 := q15.trans (hb16.mono q15.size)
            have C_16 := Lib.hid (C_15.out.below hb16)
            clear C_15
            have T_16 := Lib.hid (T_15.out.below hb16)
            clear T_15
            have S_16 := Lib.hid (S_15.out.below hb16)
            clear S_15
            have ST_16 := Lib.hid (ST_15.out.below hb16)
            clear ST_15
            have SI_16 := Lib.hid (SI_15.out.below hb16)
            clear SI_15
            have SE_16 := Lib.hid (SE.out.below hb16)
            clear SE
            go_wp2_with fail
            refine (HT1.out _ T_16.out ST_16.out).mono ?_
            rintro e w17 ⟨rfl, hb17⟩
            have z17 := hb17.size
            have q17 : Below w.heap.size w w17 := q16.trans (hb17.mono q16.size)
            have C_17 := Lib.hid (C_16.out.below hb17)
            clear C_16
            have T_17 := Lib.hid (T_16.out.below hb17)
            clear T_16
            have S_17 := Lib.hid (S_16.out.below hb17)
            clear S_16
            have ST_17 := Lib.hid (ST_16.out.below hb17)
            clear ST_16
            have SI_17 := Lib.hid (SI_16.out.below hb17)
            clear SI_16
            have SE_17 := Lib.hid (SE_16.out.below hb17)
            clear SE_16
            go_wp2_with fail
            refine (HT2.out _ ST_17.out).mono ?_
            rintro e w18 ⟨rfl, hb18⟩
            have z18 := hb18.size
            have q18 : Below w.heap.size w w18 := q17.trans (hb18.mono q17.size)
            have C_18 := Lib.hid (C_17.out.below hb18)
            clear C_17
            have T_18 := Lib.hid (T_17.out.below hb18)
            clear T_17
            have S_18 := Lib.hid (S_17.out.below hb18)
            clear S_17
            have ST_18 := Lib.hid (ST_17.out.below hb18)
            clear ST_17
            have SI_18 := Lib.hid (SI_17.out.below hb18)
            clear SI_17
            have SE_18 := Lib.hid (SE_17.out.below hb18)
            clear SE_17
            go_wp2_with fail
            refine (HT1.out _ T_18.out ST_18.out).mono ?_
            rintro e w19 ⟨rfl, hb19⟩
            have z19 := hb19.size
            have q19 : Below w.heap.size w w19 := q18.trans (hb19.mono q18.size)
            have C_19 := Lib.hid (C_18.out.below hb19)
            clear C_18
            have T_19 := Lib.hid (T_18.out.below hb19)
            clear T_18
            have S_19 := Lib.hid (S_18.out.below hb19)
            clear S_18
            have ST_19 := Lib.hid (ST_18.out.below hb19)
            clear ST_18
            have SI_19 := Lib.hid (SI_18.out.below hb19)
            clear SI_18
            have SE_19 := Lib.hid (SE_18.out.below hb19)
            clear SE_18
            go_wp2_with fail
            refine (HT3.out _ T_19.out ST_19.out).mono ?_
            rintro e w20 ⟨rfl, hb20⟩
            have z20 := hb20.size
            have q20 : Below w.heap.size w w20 := q19.trans (hb20.mono q19.size)
            have C_20 := Lib.hid (C_19.out.below hb20)
            clear C_19
            have T_20 := Lib.hid (T_19.out.below hb20)
            clear T_19
            have S_20 := Lib.hid (S_19.out.below hb20)
            clear S_19
            have ST_20 := Lib.hid (ST_19.out.below hb20)
            clear ST_19
            have SI_20 := Lib.hid (SI_19.out.below hb20)
            clear SI_19
            have SE_20 := Lib.hid (SE_19.out.below hb20)
            clear SE_19
            go_wp2_with fail
            refine (HI1.out _ SI_20.out).mono ?_
            rintro e w21 ⟨rfl, hb21⟩
            have z21 := hb21.size
            have q21 : Below w.heap.size w w21 := q20.trans (hb21.mono q20.size)
            have C_21 := Lib.hid (C_20.out.below hb21)
            clear C_20
            have T_21 := Lib.hid (T_20.out.below hb21)
            clear T_20
            have S_21 := Lib.hid (S_20.out.below hb21)
            clear S_20
            have ST_21 := Lib.hid (ST_20.out.below hb21)
            clear ST_20
            have SI_21 := Lib.hid (SI_20.out.below hb21)
            clear SI_20
            have SE_21 := Lib.hid (SE_20.out.below hb21)
            clear SE_20
            go_wp2_with fail
            refine (HI2.out _ SI_21.out).mono ?_
            rintro e w22 ⟨rfl, hb22⟩
            have z22 := hb22.size
            have q22 : Below w.heap.size w w22 := q21.trans (hb22.mono q21.size)
            have C_22 := Lib.hid (C_21.out.below hb22)
            clear C_21
            have T_22 := Lib.hid (T_21.out.below hb22)
            clear T_21
            have S_22 := Lib.hid (S_21.out.below hb22)
            clear S_21
            have ST_22 := Lib.hid (ST_21.out.below hb22)
            clear ST_21
            have SI_22 := Lib.hid (SI_21.out.below hb22)
            clear SI_21
            have SE_22 := Lib.hid (SE_21.out.below hb22)
            clear SE_21
            go_wp2_with fail
            refine (HE3.out _ SE_22.out).mono ?_
            rintro e w23 ⟨rfl, hb23⟩
            have z23 := hb23.size
            have q23 : Below w.heap.size w w23 := q22.trans (hb23.mono q22.size)
            have C_23 := Lib.hid (C_22.out.below hb23)
            clear C_22
            have T_23 := Lib.hid (T_22.out.below hb23)
            clear T_22
            have S_23 := Lib.hid (S_22.out.below hb23)
            clear S_22
            have ST_23 := Lib.hid (ST_22.out.below hb23)
            clear ST_22
            have SI_23 := Lib.hid (SI_22.out.below hb23)
            clear SI_22
            have SE_23 := Lib.hid (SE_22.out.below hb23)
            clear SE_22
            go_wp2_with fail
            refine (HE1.out _ SE_23.out).mono ?_
            rintro e w24 ⟨rfl, hb24⟩
            have z24 := hb24.size
            have q24 : Below w.heap.size w w24 := q23.trans (hb24.mono q23.size)
            have C_24 := Lib.hid (C_23.out.below hb24)
            clear C_23
            have T_24 := Lib.hid (T_23.out.below hb24)
            clear T_23
            have S_24 := Lib.hid (S_23.out.below hb24)
            clear S_23
            have ST_24 := Lib.hid (ST_23.out.below hb24)
            clear ST_23
            have SI_24 := Lib.hid (SI_23.out.below hb24)
            clear SI_23
            have SE_24 := Lib.hid (SE_23.out.below hb24)
            clear SE_23
            cases t3
            · go_wp2
              go_ret
              exact ⟨rfl, q24⟩
            · obtain ⟨bl1, bl2⟩ := HBAL.out rfl
              have bd1 : decide (-1 ≤ bl) = true := decide_eq_true bl1
              have bd2 : decide (bl ≤ 1) = true := decide_eq_true bl2
              go_wp2
              go_ret
              exact ⟨rfl, q24⟩
    · have hd0 : decide (0 < RL.length) = false := decide_eq_false h0
      clear HLAW HIO HIQ HTR HBD
      clear L1_8
      go_wp2_with fail
      refine (HDT.out _ C_8.out).mono ?_
      rintro e w9 ⟨at0, ct, lt, x, y, rfl, hx, hy, hlt8, hf, hb9⟩
      have z9 := hb9.size
      have q9 : Below w.heap.size w w9 := q8.trans (hb9.mono q8.size)
      have C_9 := Lib.hid (C_8.out.below hb9)
      clear C_8
      have T_9 := Lib.hid (T_8.out.below hb9)
      clear T_8
      have S_9 := Lib.hid (S_8.out.below hb9)
      clear S_8
      have ST := Lib.hid (hf.cells)
      clear hf
      have hnt : lt.length ≤ 1048576 := by omega
      go_wp2_with fail
      refine (HDI.out _ C_9.out).mono ?_
      rintro e w10 ⟨ai0, ci, li, rfl, hli8, hf, hb10⟩
      have z10 := hb10.size
      have q10 : Below w.heap.size w w10 := q9.trans (hb10.mono q9.size)
      have C_10 := Lib.hid (C_9.out.below hb10)
      clear C_9
      have T_10 := Lib.hid (T_9.out.below hb10)
      clear T_9
      have S_10 := Lib.hid (S_9.out.below hb10)
      clear S_9
      have ST_10 := Lib.hid (ST.out.below hb10)
      clear ST
      have SI := Lib.hid (hf.cells)
      clear hf
      have hni : li.length ≤ 1048576 := by omega
      go_wp2_with fail
      refine (HDC.out _ C_10.out).mono ?_
      rintro e w11 ⟨ae0, ce, le, rfl, hle8, hf, hb11⟩
      have z11 := hb11.size
      have q11 : Below w.heap.size w w11 := q10.trans (hb11.mono q10.size)
      have C_11 := Lib.hid (C_10.out.below hb11)
      clear C_10
      have T_11 := Lib.hid (T_10.out.below hb11)
      clear T_10
      have S_11 := Lib.hid (S_10.out.below hb11)
      clear S_10
      have ST_11 := Lib.hid (ST_10.out.below hb11)
      clear ST_10
      have SI_11 := Lib.hid (SI.out.below hb11)
      clear SI
      have SE := Lib.hid (hf.cells)
      clear hf
      have hne : le.length ≤ 1048576 := by omega
      have HT1 := Lib.hid (fun w h0 h1 => implTR at0 ct lt x y w hnt h0 h1)
      have HT2 := Lib.hid (fun w h1 => specTR at0 ct lt x y w hnt h1)
      have ht3 := fun w h0 h1 => implTR at0 ct lt y x w hnt h0 h1
      rw [trR_swap] at ht3
      have HT3 := Lib.hid ht3
      have HI1 := Lib.hid (fun w h1 => implRect ai0 ci li w hni h1)
      have HI2 := Lib.hid (fun w h1 => specRect ai0 ci li w hni h1)
      have HE1 := Lib.hid (fun w h1 => implRect ae0 ce le w hne h1)
      have HE2 := Lib.hid (fun w h1 => implBal ae0 ce le w hne h1)
      have HE3 := Lib.hid (fun w h1 => specBal ae0 ce le w hne h1)
      have hbal := bal_law le
      clear ht3
      generalize trR lt x y = t1 at HT1 HT2 HT3
      generalize isRect li = t2 at HI1 HI2
      generalize isRect le = t3 at HE1 hbal
      generalize balR le = bl at HE2 HE3 hbal
      have HBAL := Lib.hid hbal
      have bb1 : (t1 == t1) = true := by simp
      have bb2 : (t2 == t2) = true := by simp
      have bb3 : (bl == bl) = true := by simp
      clear hbal
      go_wp2_with fail
      refine (HE2.out _ SE.out).mono ?_
      rintro e w12 ⟨rfl, hb12⟩
      have z12 := hb12.size
      have q12 : Below w.heap.size w w12 := q11.trans (hb12.mono q11.size)
      have C_12 := Lib.hid (C_11.out.below hb12)
      clear C_11
      have T_12 := Lib.hid (T_11.out.below hb12)
      clear T_11
      have S_12 := Lib.hid (S_11.out.below hb12)
      clear S_11
      have ST_12 := Lib.hid (ST_11.out.below hb12)
      clear ST_11
      have SI_12 := Lib.hid (SI_11.out.below hb12)
      clear SI_11
      have SE_12 := Lib.hid (SE.out.below hb12)
      clear SE
      go_wp2_with fail
      refine (HT1.out _ T_12.out ST_12.out).mono ?_
      rintro e w13 ⟨rfl, hb13⟩
      have z13 := hb13.size
      have q13 : Below w.heap.size w w13 := q12.trans (hb13.mono q12.size)
      have C_13 := Lib.hid (C_12.out.below hb13)
      clear C_12
      have T_13 := Lib.hid (T_12.out.below hb13)
      clear T_12
      have S_13 := Lib.hid (S_12.out.below hb13)
      clear S_12
      have ST_13 := Lib.hid (ST_12.out.below hb13)
      clear ST_12
      have SI_13 := Lib.hid (SI_12.out.below hb13)
      clear SI_12
      have SE_13 := Lib.hid (SE_12.out.below hb13)
      clear SE_12
      go_wp2_with fail
      refine (HT2.out _ ST_13.out).mono ?_
      rintro e w14 ⟨rfl, hb14⟩
      have z14 := hb14.size
      have q14 : Below w.heap.size w w14 := q13.trans (hb14.mono q13.size)
      have C_14 := Lib.hid (C_13.out.below hb14)
      clear C_13
      have T_14 := Lib.hid (T_13.out.below hb14)
      clear T_13
      have S_14 := Lib.hid (S_13.out.below hb14)
      clear S_13
      have ST_14 := Lib.hid (ST_13.out.below hb14)
      clear ST_13
      have SI_14 := Lib.hid (SI_13.out.below hb14)
      clear SI_13
      have SE_14 := Lib.hid (SE_13.out.below hb14)
      clear SE_13
      go_wp2_with fail
      refine (HT1.out _ T_14.out ST_14.out).mono ?_
      rintro e w15 ⟨rfl, hb15⟩
      have z15 := hb15.size
      have q15 : Below w.heap.size w w15 := q14.trans (hb15.mono q14.size)
      have C_15 := Lib.hid (C_14.out.below hb15)
      clear C_14
      have T_15 := Lib.hid (T_14.out.below hb15)
      clear T_14
      have S_15 := Lib.hid (S_14.out.below hb15)
      clear S_14
      have ST_15 := Lib.hid (ST_14.out.below hb15)
      clear ST_14
      have SI_15 := Lib.hid (SI_14.out.below hb15)
      clear SI_14
      have SE_15 := Lib.hid (SE_14.out.below hb15)
      clear SE_14
      go_wp2_with fail
      refine (HT3.out _ T_15.out ST_15.out).mono ?_
      rintro e w16 ⟨rfl, hb16⟩
      have z16 := hb16.size
      have q16 : Below w.heap.size w w16 := q15.trans (hb16.mono q15.size)
      have C_16 := Lib.hid (C_15.out.below hb16)
      clear C_15
      have T_16 := Lib.hid (T_15.out.below hb16)
      clear T_15
      have S_16 := Lib.hid (S_15.out.below hb16)
      clear S_15
      have ST_16 := Lib.hid (ST_15.out.below hb16)
      clear ST_15
      have SI_16 := Lib.hid (SI_15.out.below hb16)
      clear SI_15
      have SE_16 := Lib.hid (SE_15.out.below hb16)
      clear SE_15
      go_wp2_with fail
      refine (HI1.out _ SI_16.out).mono ?_
      rintro e w17 ⟨rfl, hb17⟩
      have z17 := hb17.size
      have q17 : Below w.heap.size w w17 := q16.trans (hb17.mono q16.size)
      have C_17 := Lib.hid (C_16.out.below hb17)
      clear C_16
      have T_17 := Lib.hid (T_16.out.below hb17)
      clear T_16
      have S_17 := Lib.hid (S_16.out.below hb17)
      clear S_16
      have ST_17 := Lib.hid (ST_16.out.below hb17)
      clear ST_16
      have SI_17 := Lib.hid (SI_16.out.below hb17)
      clear SI_16
      have SE_17 := Lib.hid (SE_16.out.below hb17)
      clear SE_16
      go_wp2_with fail
      refine (HI2.out _ SI_17.out).mono ?_
      rintro e w18 ⟨rfl, hb18⟩
      have z18 := hb18.size
      have q18 : Below w.heap.size w w18 := q17.trans (hb18.mono q17.size)
      have C_18 := Lib.hid (C_17.out.below hb18)
      clear C_17
      have T_18 := Lib.hid (T_17.out.below hb18)
      clear T_17
      have S_18 := Lib.hid (S_17.out.below hb18)
      clear S_17
      have ST_18 := Lib.hid (ST_17.out.below hb18)
      clear ST_17
      have SI_18 := Lib.hid (SI_17.out.below hb18)
      clear SI_17
      have SE_18 := Lib.hid (SE_17.out.below hb18)
      clear SE_17
      go_wp2_with fail
      refine (HE3.out _ SE_18.out).mono ?_
      rintro e w19 ⟨rfl, hb19⟩
      have z19 := hb19.size
      have q19 : Below w.heap.size w w19 := q18.trans (hb19.mono q18.size)
      have C_19 := Lib.hid (C_18.out.below hb19)
      clear C_18
      have T_19 := Lib.hid (T_18.out.below hb19)
      clear T_18
      have S_19 := Lib.hid (S_18.out.below hb19)
      clear S_18
      have ST_19 := Lib.hid (ST_18.out.below hb19)
      clear ST_18
      have SI_19 := Lib.hid (SI_18.out.below hb19)
      clear SI_18
      have SE_19 := Lib.hid (SE_18.out.below hb19)
      clear SE_18
      go_wp2_with fail
      refine (HE1.out _ SE_19.out).mono ?_
      rintro e w20 ⟨rfl, hb20⟩
      have z20 := hb20.size
      have q20 : Below w.heap.size w w20 := q19.trans (hb20.mono q19.size)
      have C_20 := Lib.hid (C_19.out.below hb20)
      clear C_19
      have T_20 := Lib.hid (T_19.out.below hb20)
      clear T_19
      have S_20 := Lib.hid (S_19.out.below hb20)
      clear S_19
      have ST_20 := Lib.hid (ST_19.out.below hb20)
      clear ST_19
      have SI_20 := Lib.hid (SI_19.out.below hb20)
      clear SI_19
      have SE_20 := Lib.hid (SE_19.out.below hb20)
      clear SE_19
      cases t3
      · go_wp2
        go_ret
        exact ⟨rfl, q20⟩
      · obtain ⟨bl1, bl2⟩ := HBAL.out rfl
        have bd1 : decide (-1 ≤ bl) = true := decide_eq_true bl1
        have bd2 : decide (bl ≤ 1) = true := decide_eq_true bl2
        go_wp2
        go_ret
        exact ⟨rfl, q20⟩
  · rw [decide_eq_true (by omega)] at hbig
    have HBIG := Lib.hid hbig
    clear hbig hc0 hw0 hT
    go_enter Tryz.func4, Tryz.ntmps4
    go_wp2_with fail
    refine (HBIG.out _).mono ?_
    rintro e w' ⟨rfl, rfl⟩
    go_wp2
    go_ret
    exact ⟨rfl, Below.refl _ _⟩

set_option maxRecDepth 100000 in
theorem lifted (os : Os) (started : os.Started) (H : Type) (enc : TypeId × Value → H) :
    ReturnsInHanded {} Tryz.checked os 4 .any (fun w args => (Rows.fnRectanglesSpec.pre enc Tryz.prog Tryz.f4 Rows.fnRectanglesRow.domain false w args ∧ laidMetH Tryz.prog tabs w) ∧ sizedMet enc Tryz.prog Tryz.f4 (OpenSpec.ofChange Rows.fnRectanglesSpec) false w args) (Rows.fnRectanglesSpec.post enc Tryz.prog Tryz.f4 false true false false) := by
  refine returnsInHanded_of_change_and (C := Tryz.checked) (X := fun w _ => laidMetH Tryz.prog tabs w) (fun _ _ _ hh h => h.of_heap hh) Tryz.own started (by kernel_rfl) Tryz.func4
    (ChangeSpec.witness_shaped (enc := enc) (C := Tryz.checked) (os := os) (X := fun w _ => laidMetH Tryz.prog tabs w) false (World.laidAll Tryz.prog os tabs) #[.slice none 0 0] 8 (World.laidAll_os _ _ _)
      (World.shaped_of_ZipB (by kernel_rfl) (by kernel_rfl)) (by kernel_rfl) (by kernel_rfl) (by kernel_rfl)
      (by rw [MakeChecks.laidMetH_plain _ _ _ (by kernel_rfl)]; exact laidMet_laidAll _ (by kernel_rfl) (by kernel_rfl))) ?_
  intro W base args ds gs before hval0 hW hcnd _ hL _
  have hval : ∀ (j : Nat) t v, Tryz.f4.params[j]? = some t → args[j]? = some v → Value.okWide Tryz.prog W .any base t v := hval0
  have hW' := hW
  obtain ⟨p, q, hA0, hV, rfl, hfz, hnd⟩ := hW
  have hA : DataW.TrodAll enc Tryz.prog W 0 (fun _ => true) true Tryz.f4.params.toList args.toList ds p := hA0
  rw [Tryz.params4] at hA hval
  obtain ⟨v0, vs0, d0, ds0, p0, q0, hargs, rfl, rfl, h0, r0⟩ := trodAll_cons hA
  obtain ⟨rfl, rfl, rfl⟩ := trodAll_nil r0
  obtain rfl : args = #[v0] := by cases args; simp_all
  obtain ⟨rfl, rfl⟩ := trodVars_none hV
  obtain ⟨ad0, cap0, xs0, rfl, hm0, hc0, hw0⟩ := openBts (hval 0 22 v0 rfl rfl) h0
  clear hA0 hval0
  refine (walk W ad0 cap0 xs0 hm0 hc0 hw0 (tab_of_laid hL)).mono fun e W' ⟨he, hb⟩ => ?_
  subst he
  exact ⟨_, rfl, law_post rfl hW' hb (by rw [Tryz.params4]; exact readable_all (by kernel_rfl)) (by kernel_rfl) (by kernel_rfl) rfl⟩

theorem proved : Rows.FnRectanglesSaid :=
  OpenClaim.holds_of_wide 4 Tryz.f4 rfl rfl rfl rfl rfl rfl rfl ⟨rfl, rfl, rfl, rfl, rfl⟩ rfl rfl rfl rfl rfl (by kernel_rfl) Tryz.func4 (by kernel_rfl)
    (of_decide_eq_true (by kernel_rfl)) (by unfold Func.isWrapper; first | (rw [if_pos (by decide +kernel)]; kernel_rfl) | (rw [if_neg (by decide +kernel)]; exact ⟨rfl, rfl⟩))
    (fun os started H enc _ => lifted os started H enc)

theorem card : Rows.FnRectanglesCardSaid :=
  Claim7.holds_tied_plain_at .later [] [.data, .data] true (true, "1f54207e01dd30c8355ef7b84748b97812893aadfc7b01de948ac43e2da837ab") false proved (fun _ h => by cases h) (by kernel_rfl) (fun _ h => by cases h) fnRectangles_row_tie rfl ⟨rfl, rfl⟩ (by kernel_rfl) rfl
    (fun f fn hf hfn => by
      obtain rfl : f = 4 := Option.some.inj ((show Tryz.prog.funcNamed "loop.example/g03400/laws.FnRectangles" = some 4 by kernel_rfl).symm.trans hf) |>.symm
      obtain rfl : fn = Tryz.f4 := (Option.some.inj (Tryz.func4.symm.trans hfn)).symm
      exact ⟨by kernel_rfl, fun j t ht => by
        have hm : t ∈ Tryz.f4.params.toList := Array.mem_toList_iff.2 (Array.mem_of_getElem? ht)
        have hall : (Tryz.f4.params.toList.all fun u => !Tryz.prog.wantsStandIn u) = true := by kernel_rfl
        exact (show Tryz.prog.wantsStandIn t = false by simpa using List.all_eq_true.1 hall t hm)⟩)
    (by kernel_rfl)
end Go.Proofs.YtajmdgcnnipdoaaGreatDoor.lawFRec
