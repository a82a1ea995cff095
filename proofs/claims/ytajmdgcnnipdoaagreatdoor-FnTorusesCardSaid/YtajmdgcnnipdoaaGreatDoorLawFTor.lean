/- LawFTor: FnToruses holds for every code, where the library's tables lie as their initialisers lay them (the card ties that to the program's text). -/
import Derived.Test.YtajmdgcnnipdoaaGreatDoorAllD0
import Derived.Test.YtajmdgcnnipdoaaGreatDoorDrawU
import Derived.Test.YtajmdgcnnipdoaaGreatDoorAllTB
import Derived.Test.YtajmdgcnnipdoaaGreatDoorBitsW
import Derived.Test.YtajmdgcnnipdoaaGreatDoorAllTil
import Derived.Test.YtajmdgcnnipdoaaGreatDoorAllTie
import Derived.Test.YtajmdgcnnipdoaaGreatDoorTie
import Derived.Test.YtajmdgcnnipdoaaGreatDoorCards
import Derived.SevenTiedAt
import Derived.Lib.QuietBelow
import Derived.BigQuiet
import Derived.Deep.CutRange
namespace Go.Proofs.YtajmdgcnnipdoaaGreatDoor.lawFTor
open Go.ChangeShapes Go.WideShapes Go.ChangeAt Go.RowKit

/-- A region lies in a box. -/
def BoxIn (w : World) (p : Nat) (v0 v1 : Value) : Prop := w.heap[p]? = some (.cells #[v0, v1] 26 (0, 0))
theorem BoxIn.below {w w' : World} {p : Nat} {v0 v1 : Value} (h : BoxIn w p v0 v1) (hb : Below w.heap.size w w') : BoxIn w' p v0 v1 :=
  (hb.block p (lt_of_block h)).trans h
theorem far_at {w : World} {base : Nat} {a : Option Addr} {c : Nat} {ps : List (List Cl)} (h : FarShps w base (.slice a ps.length c) ps) : ShpsAt w a ps := by
  obtain ⟨a', c', hv, hs⟩ := h.form
  injection hv with h1 _ _
  subst h1
  exact hs
theorem tor_moves {x y : Int} {ps : List (List Cl)} {l : List Int} (ht : ttR x y ps l = true) : ∃ U V : Nat, x = (U : Int) ∧ y = (V : Int) ∧ (1 ≤ U ∧ U ≤ 5) ∧ (1 ≤ V ∧ V ≤ 5) ∧
    ∀ X Y : Nat, X < U → Y < V → ∃ mv : Nat → Nat, mv 0 = 0 ∧ ∀ k, ∀ hk : k < l.length, ∃ v : Nat, l[k] = (v : Int) ∧ v < 2 ^ 36 ∧ ∃ m : Nat, m < 33554432 ∧ mv k < 33554432 ∧ shR (U : Int) (V : Int) (v : Int) (X : Int) (Y : Int) = (m : Int) ∧ pc m = pc v ∧ m &&& mv k = 0 ∧ mv (k + 1) = mv k ||| m := by
  have hs := tt_side ht
  obtain ⟨U, rfl⟩ := Int.eq_ofNat_of_zero_le (show 0 ≤ x by omega)
  obtain ⟨V, rfl⟩ := Int.eq_ofNat_of_zero_le (show 0 ≤ y by omega)
  have hU : 1 ≤ U ∧ U ≤ 5 := by omega
  have hV : 1 ≤ V ∧ V ≤ 5 := by omega
  refine ⟨U, V, rfl, rfl, hU, hV, fun X Y hX hY => ⟨fun k => smI U V X Y (usedTo l k), ?_, fun k hk => ?_⟩⟩
  · refine Nat.eq_of_testBit_eq fun i => ?_
    rw [Nat.zero_testBit, Bool.eq_false_iff]
    intro h
    obtain ⟨j, ⟨_, hj⟩, _⟩ := (smI_bits (by omega) hX hY _ i).1 h
    rw [show usedTo l 0 = 0 from rfl, Nat.zero_testBit] at hj
    cases hj
  · obtain ⟨v, h1, h2, m, h3, h4, h5, h6, h7⟩ := tt_moved hU hV ht hX hY k hk
    rw [h1] at h4
    exact ⟨v, h1, h2, m, h3, smI_lt hU hV hX hY _, h4, h5, h6, h7⟩
theorem rect_tor (x y : Int) (ps : List (List Cl)) (h : RcOk x y) (hx : x ≤ 5) (hy : y ≤ 5) (ht : someT (regF (rcB x y) (rcR x y) ps) = true) : someT (torF x y ps) = true := by
  obtain ⟨⟨h1, h2⟩, h3, h4⟩ := h
  obtain ⟨U, rfl⟩ := Int.eq_ofNat_of_zero_le (show 0 ≤ x by omega)
  obtain ⟨V, rfl⟩ := Int.eq_ofNat_of_zero_le (show 0 ≤ y by omega)
  have hok : RcOk U V := ⟨⟨h1, h2⟩, h3, h4⟩
  rw [show rcB U V = (U : Int) from if_pos hok, show rcR U V = rect U V by unfold rcR rect; rw [if_pos hok, Int.toNat_natCast, Int.toNat_natCast]] at ht
  exact rect_torus (by omega) (by omega) ht
theorem plane_tor (l : List Cl) (h : 0 < (planeL l).length) : 0 < ctR ((leastL (planeL l)).1 : Int) ((leastL (planeL l)).2 : Int) [l] := by
  have hm := (planeL_mem.1 (leastL_spec h).1).2.2
  unfold okT at hm
  rw [Bool.and_eq_true] at hm
  have h1 := (tor_law ((leastL (planeL l)).1 : Int) ((leastL (planeL l)).2 : Int) [l]).1
  rw [hm.2] at h1
  exact of_decide_eq_true h1
theorem torL_bd (a b : Int) (l : List Cl) : (torL a b l).length ≤ 1048576 := Nat.le_trans (torL_length a b l) (by decide)

set_option maxRecDepth 100000 in
set_option maxHeartbeats 8000000 in
theorem walk (w : World) (ad0 : Option Addr) (cap0 : Nat) (bs0 : List Nat) (hm0 : bs0.length ≤ maxLen) (hc0 : CellsAt w ad0 (bts bs0)) (hw0 : ∀ b ∈ bs0, b < 256) (hT : Tab w) :
    Calls Tryz.prog 5 #[.slice ad0 bs0.length cap0] w fun e w' => e = .returned (.bool true) ∧ Below w.heap.size w w' := by
  unfold maxLen at hm0
  have hbig := fun w => big_any ad0 cap0 bs0 w (by omega)
  by_cases hn : bs0.length ≤ 1048576
  · rw [decide_eq_false (by omega)] at hbig
    have HBIG := Lib.hid hbig
    have HW := Lib.hid hw0
    clear hbig hw0
    have q0 : Below w.heap.size w w := Below.refl _ _
    have C := Lib.hid (hc0)
    clear hc0
    have T := Lib.hid (hT)
    clear hT
    go_enter Tryz.func5, Tryz.ntmps5
    go_wp2_with fail
    refine (HBIG.out _).mono ?_
    rintro e w' ⟨rfl, rfl⟩
    have HDT := Lib.hid (fun w h => drawTT_any ad0 cap0 bs0 w hn HW.out h)
    have HDC := Lib.hid (fun w h => drawCT_any ad0 cap0 bs0 w hn HW.out h)
    have HDP := Lib.hid (fun w h => drawTP_any ad0 cap0 bs0 w hn HW.out h)
    have HDL := Lib.hid (fun w h => drawTPl_any ad0 cap0 bs0 w hn HW.out h)
    have HDM := Lib.hid (fun w h => drawSM_any ad0 cap0 bs0 w hn HW.out h)
    unfold TorPcsL at HDT
    unfold TorPcs at HDC
    unfold ClDrawn at HDP
    unfold TorCl at HDL
    go_wp2_with fail
    refine (HDT.out _ C.out).mono ?_
    rintro e w1 ⟨x, y, va, cv, ps, la, lc, ls, rfl, hx6, hy4, hp1, hp3, hp80, hll, hlw, hf, hol, hb1⟩
    have z1 := hb1.size
    have q1 : Below w.heap.size w w1 := q0.trans (hb1.mono q0.size)
    have C_1 := Lib.hid (C.out.below hb1)
    clear C
    have T_1 := Lib.hid (T.out.below hb1)
    clear T
    have S := Lib.hid (far_at hf)
    have L := Lib.hid (ownsRow_cellsAt hol)
    clear hf hol hlw
    have hnp : ps.length ≤ 1048576 := by omega
    have hnl : ls.length ≤ 1048576 := by omega
    have hlp : ∀ p ∈ ps, p.length ≤ 1048576 := fun p h => by have := hp80 p h; omega
    have HII := Lib.hid (fun w h0 h1 h2 => implTTA x y va cv ps la lc ls w hnp hlp hnl h0 h1 h2)
    have HSI := Lib.hid (fun w h1 h2 => specTTA x y va cv ps la lc ls w hnp hlp hnl h1 h2)
    have HMV := Lib.hid (fun h => tor_moves (x := x) (y := y) (ps := ps) (l := ls) h)
    clear hp80 hlp
    generalize ttR x y ps ls = tt at HII HSI HMV
    have btt : (tt == tt) = true := by simp
    have bnt : (tt != tt) = false := by simp
    go_wp2_with fail
    refine (HII.out _ T_1.out S.out L.out).mono ?_
    rintro e w2 ⟨rfl, hb2⟩
    have z2 := hb2.size
    have q2 : Below w.heap.size w w2 := q1.trans (hb2.mono q1.size)
    have C_2 := Lib.hid (C_1.out.below hb2)
    clear C_1
    have T_2 := Lib.hid (T_1.out.below hb2)
    clear T_1
    have S_2 := Lib.hid (S.out.below hb2)
    clear S
    have L_2 := Lib.hid (L.out.below hb2)
    clear L
    go_wp2_with fail
    refine (HSI.out _ S_2.out L_2.out).mono ?_
    rintro e w3 ⟨rfl, hb3⟩
    have z3 := hb3.size
    have q3 : Below w.heap.size w w3 := q2.trans (hb3.mono q2.size)
    have C_3 := Lib.hid (C_2.out.below hb3)
    clear C_2
    have T_3 := Lib.hid (T_2.out.below hb3)
    clear T_2
    have S_3 := Lib.hid (S_2.out.below hb3)
    clear S_2
    have L_3 := Lib.hid (L_2.out.below hb3)
    clear L_2
    clear HII HSI
    clear S_3
    cases tt
    · clear HMV
      clear L_3
      go_wp2_with fail
      refine (HDC.out _ C_3.out).mono ?_
      rintro e w4 ⟨a, b, vq, cq, pq, rfl, ha6, hb4, hq1, hq3, hq80, hf, hb4⟩
      have z4 := hb4.size
      have q4 : Below w.heap.size w w4 := q3.trans (hb4.mono q3.size)
      have C_4 := Lib.hid (C_3.out.below hb4)
      clear C_3
      have T_4 := Lib.hid (T_3.out.below hb4)
      clear T_3
      have Sq := Lib.hid (far_at hf)
      clear hf
      have hnq : pq.length ≤ 1048576 := by omega
      have hlq : ∀ p ∈ pq, p.length ≤ 1048576 := fun p h => by have := hq80 p h; omega
      have hfn := Nat.le_trans (torT_facts a b pq).1 (by decide : 1500 ≤ 1048576)
      have H1 := Lib.hid (fun w h0 h1 => implCTA a b vq cq pq w hnq hlq h0 h1)
      have H2 := Lib.hid (fun w h0 h1 => implFT a b vq cq pq w hnq hlq h0 h1)
      have H3 := Lib.hid (fun w h1 => specFT a b vq cq pq w hnq hlq h1)
      unfold FoundAt at H2 H3
      have H4 := Lib.hid (fun w h1 => specCTA a b vq cq pq w hnq hlq h1)
      have H5 := Lib.hid (fun al cl w h0 h1 h2 => implTTA a b vq cq pq al cl (firstT (torF a b pq)) w hnq hlq hfn h0 h1 h2)
      obtain ⟨hl1, hl2, hl3, hl4⟩ := tor_law a b pq
      have hrc := fun w => specRc a b w
      unfold RcAt at hrc
      have HRC := Lib.hid hrc
      have H6 := Lib.hid (fun b0 d0 w h1 h2 => specHasT (rcB a b) b0 d0 (rcR a b) vq cq pq w (Nat.le_trans (rcR_length a b) (by decide)) hnq hlq h1 h2)
      have hrt := fun h1 h2 h3 h4 => rect_tor a b pq h1 h2 h3 h4
      have hokd : decide (RcOk a b) = true → RcOk a b := fun h => of_decide_eq_true h
      have hrt2 := fun h1 => hrt (hokd h1)
      clear hq80 hlq hrc hrt hokd
      generalize rcB a b = rb at HRC H6 hrt2
      generalize rcR a b = rr at HRC H6 hrt2
      generalize decide (RcOk a b) = ok at HRC hrt2
      generalize someT (regF rb rr pq) = hv at H6 hrt2
      generalize ttR a b pq (firstT (torF a b pq)) = tq at H5 hl2
      generalize firstT (torF a b pq) = G at H2 H3 H5 hfn
      generalize someT (torF a b pq) = sm at H2 H3 hl1 hl2 hrt2
      generalize ctR a b pq = K at H1 H4 hl1 hl3 hl4
      have bkk : (K == K) = true := by simp
      have bss : (sm == sm) = true := by simp
      have bns : (sm != sm) = false := by simp
      have bnk : (K != K) = false := by simp
      have HL2 := Lib.hid hl2
      have HRT := Lib.hid hrt2
      clear hl2 hrt2
      go_wp2_with fail
      refine (H1.out _ T_4.out Sq.out).mono ?_
      rintro e w5 ⟨rfl, hb5⟩
      have z5 := hb5.size
      have q5 : Below w.heap.size w w5 := q4.trans (hb5.mono q4.size)
      have C_5 := Lib.hid (C_4.out.below hb5)
      clear C_4
      have T_5 := Lib.hid (T_4.out.below hb5)
      clear T_4
      have Sq_5 := Lib.hid (Sq.out.below hb5)
      clear Sq
      go_wp2_with fail
      refine (H2.out _ T_5.out Sq_5.out).mono ?_
      rintro e w6 ⟨m1, mc1, rfl, hom, hb6⟩
      have z6 := hb6.size
      have q6 : Below w.heap.size w w6 := q5.trans (hb6.mono q5.size)
      have C_6 := Lib.hid (C_5.out.below hb6)
      clear C_5
      have T_6 := Lib.hid (T_5.out.below hb6)
      clear T_5
      have Sq_6 := Lib.hid (Sq_5.out.below hb6)
      clear Sq_5
      have M1 := Lib.hid (ownsRow_cellsAt hom)
      clear hom
      go_wp2_with fail
      refine (H3.out _ Sq_6.out).mono ?_
      rintro e w7 ⟨m2, mc2, rfl, hom, hb7⟩
      have z7 := hb7.size
      have q7 : Below w.heap.size w w7 := q6.trans (hb7.mono q6.size)
      have C_7 := Lib.hid (C_6.out.below hb7)
      clear C_6
      have T_7 := Lib.hid (T_6.out.below hb7)
      clear T_6
      have Sq_7 := Lib.hid (Sq_6.out.below hb7)
      clear Sq_6
      have M1_7 := Lib.hid (M1.out.below hb7)
      clear M1
      have M2 := Lib.hid (ownsRow_cellsAt hom)
      clear hom H1 H2 H3
      go_upto_region 22 with (fail)
      go_cut [161] from 128 to 161 (fun c wx => c = .bool false ∧ Below w7.heap.size w7 wx)
      case first =>
        go_wp2_with fail
        refine (H4.out _ Sq_7.out).mono ?_
        rintro e w8 ⟨rfl, hb8⟩
        have z8 := hb8.size
        have q8 : Below w.heap.size w w8 := q7.trans (hb8.mono q7.size)
        have C_8 := Lib.hid (C_7.out.below hb8)
        clear C_7
        have T_8 := Lib.hid (T_7.out.below hb8)
        clear T_7
        have Sq_8 := Lib.hid (Sq_7.out.below hb8)
        clear Sq_7
        have M1_8 := Lib.hid (M1_7.out.below hb8)
        clear M1_7
        have M2_8 := Lib.hid (M2.out.below hb8)
        clear M2
        go_wp2_with fail
        refine (sameInts_same m1 m2 mc1 mc2 G _ hfn M1_8.out M2_8.out).mono ?_
        rintro e w9 ⟨rfl, hb9⟩
        have z9 := hb9.size
        have q9 : Below w.heap.size w w9 := q8.trans (hb9.mono q8.size)
        have C_9 := Lib.hid (C_8.out.below hb9)
        clear C_8
        have T_9 := Lib.hid (T_8.out.below hb9)
        clear T_8
        have Sq_9 := Lib.hid (Sq_8.out.below hb9)
        clear Sq_8
        have M1_9 := Lib.hid (M1_8.out.below hb9)
        clear M1_8
        have M2_9 := Lib.hid (M2_8.out.below hb9)
        clear M2_8
        cases sm
        · have hkd : decide (0 < K) = false := hl1
          have hkp : ¬0 < K := of_decide_eq_false hkd
          go_wp2
          go_meet
          exact ⟨rfl, (hb8.trans (hb9.mono hb8.size))⟩
        · have hkd : decide (0 < K) = true := hl1
          have hkp : 0 < K := of_decide_eq_true hkd
          obtain rfl : tq = true := HL2.out rfl
          go_wp2_with fail
          refine (H5.out m2 mc2 _ T_9.out Sq_9.out M2_9.out).mono ?_
          rintro e w10 ⟨rfl, hb10⟩
          have z10 := hb10.size
          have q10 : Below w.heap.size w w10 := q9.trans (hb10.mono q9.size)
          have C_10 := Lib.hid (C_9.out.below hb10)
          clear C_9
          have T_10 := Lib.hid (T_9.out.below hb10)
          clear T_9
          have Sq_10 := Lib.hid (Sq_9.out.below hb10)
          clear Sq_9
          have M1_10 := Lib.hid (M1_9.out.below hb10)
          clear M1_9
          have M2_10 := Lib.hid (M2_9.out.below hb10)
          clear M2_9
          go_wp2
          go_meet
          exact ⟨rfl, ((hb8.trans (hb9.mono hb8.size)).trans (hb10.mono (hb8.trans (hb9.mono hb8.size)).size))⟩
      case rest =>
        obtain ⟨rfl, hb8⟩ := hcut
        obtain ⟨w8, rfl⟩ : ∃ x, x = wc := ⟨_, rfl⟩
        have z8 := hb8.size
        have q8 : Below w.heap.size w w8 := q7.trans (hb8.mono q7.size)
        have C_8 := Lib.hid (C_7.out.below hb8)
        clear C_7
        have T_8 := Lib.hid (T_7.out.below hb8)
        clear T_7
        have Sq_8 := Lib.hid (Sq_7.out.below hb8)
        clear Sq_7
        have M1_8 := Lib.hid (M1_7.out.below hb8)
        clear M1_7
        have M2_8 := Lib.hid (M2.out.below hb8)
        clear M2
        clear M1_8 M2_8
        clear H4 H5 HL2 hl1
        go_wp2_with fail
        refine (HRC.out _).mono ?_
        rintro e w9 ⟨b0, d0, rfl, ho, hb9⟩
        have z9 := hb9.size
        have q9 : Below w.heap.size w w9 := q8.trans (hb9.mono q8.size)
        have C_9 := Lib.hid (C_8.out.below hb9)
        clear C_8
        have T_9 := Lib.hid (T_8.out.below hb9)
        clear T_8
        have Sq_9 := Lib.hid (Sq_8.out.below hb9)
        clear Sq_8
        have RR := Lib.hid (ownsRow_cellsAt ho)
        clear ho HRC
        have hba : Below w9.heap.size w9 (w9.alloc (.cells #[.int .i64 rb, .slice b0 rr.length d0] 26)) := (Below.refl _ _).alloc (Nat.le_refl _) _
        have hka : BoxIn (w9.alloc (.cells #[.int .i64 rb, .slice b0 rr.length d0] 26)) w9.heap.size (.int .i64 rb) (.slice b0 rr.length d0) := heap_alloc_new w9 _
        go_upto_region 25 with (fail)
        generalize w9.alloc (.cells #[.int .i64 rb, .slice b0 rr.length d0] 26) = w10 at hba hka ⊢
        have z10 := hba.size
        have q10 : Below w.heap.size w w10 := q9.trans (hba.mono q9.size)
        have C_10 := Lib.hid (C_9.out.below hba)
        clear C_9
        have T_10 := Lib.hid (T_9.out.below hba)
        clear T_9
        have Sq_10 := Lib.hid (Sq_9.out.below hba)
        clear Sq_9
        have RR_10 := Lib.hid (RR.out.below hba)
        clear RR
        have BX := Lib.hid hka
        clear hba hka
        go_cut [185] from 168 to 185 (fun c wx => c = .bool false ∧ Below w10.heap.size w10 wx)
        case first =>
          cases ok
          · go_wp2
            go_meet
            exact ⟨rfl, Below.refl _ _⟩
          · by_cases hx5 : a ≤ 5
            · have hx5d : decide (a ≤ 5) = true := decide_eq_true hx5
              by_cases hy5 : b ≤ 5
              · have hy5d : decide (b ≤ 5) = true := decide_eq_true hy5
                obtain ⟨y0, y1, y2, y3⟩ := boxAt BX.out
                go_wp2_with fail
                refine (H6.out b0 d0 _ RR_10.out Sq_10.out).mono ?_
                rintro e w11 ⟨rfl, hb11⟩
                have z11 := hb11.size
                have q11 : Below w.heap.size w w11 := q10.trans (hb11.mono q10.size)
                have C_11 := Lib.hid (C_10.out.below hb11)
                clear C_10
                have T_11 := Lib.hid (T_10.out.below hb11)
                clear T_10
                have Sq_11 := Lib.hid (Sq_10.out.below hb11)
                clear Sq_10
                have RR_11 := Lib.hid (RR_10.out.below hb11)
                clear RR_10
                have BX_11 := Lib.hid (BX.out.below hb11)
                clear BX
                cases hv
                · go_wp2
                  go_meet
                  exact ⟨rfl, hb11⟩
                · obtain rfl : sm = true := HRT.out (by first | rfl | trivial) hx5 hy5 (by first | rfl | trivial)
                  go_wp2
                  go_meet
                  exact ⟨rfl, hb11⟩
              · have hy5d : decide (b ≤ 5) = false := decide_eq_false hy5
                go_wp2
                go_meet
                exact ⟨rfl, Below.refl _ _⟩
            · have hx5d : decide (a ≤ 5) = false := decide_eq_false hx5
              go_wp2
              go_meet
              exact ⟨rfl, Below.refl _ _⟩
        case rest =>
          obtain ⟨rfl, hb11⟩ := hcut
          obtain ⟨w11, rfl⟩ : ∃ x, x = wc := ⟨_, rfl⟩
          have z11 := hb11.size
          have q11 : Below w.heap.size w w11 := q10.trans (hb11.mono q10.size)
          have C_11 := Lib.hid (C_10.out.below hb11)
          clear C_10
          have T_11 := Lib.hid (T_10.out.below hb11)
          clear T_10
          have Sq_11 := Lib.hid (Sq_10.out.below hb11)
          clear Sq_10
          have RR_11 := Lib.hid (RR_10.out.below hb11)
          clear RR_10
          have BX_11 := Lib.hid (BX.out.below hb11)
          clear BX
          clear BX_11 RR_11 Sq_11
          clear H6 HRT
          go_wp2_with fail
          refine (HDP.out _ C_11.out).mono ?_
          rintro e w12 ⟨as0, cs, s, rfl, hs8, hf, hb12⟩
          have z12 := hb12.size
          have q12 : Below w.heap.size w w12 := q11.trans (hb12.mono q11.size)
          have C_12 := Lib.hid (C_11.out.below hb12)
          clear C_11
          have T_12 := Lib.hid (T_11.out.below hb12)
          clear T_11
          have SS := Lib.hid (hf.cells)
          clear hf
          have hns : s.length ≤ 1048576 := by omega
          have HP1 := Lib.hid (fun w h0 h1 => implTP as0 cs s w hns h0 h1)
          have HP2 := Lib.hid (fun w h1 => specTP as0 cs s w hns h1)
          have HCT := Lib.hid (fun g w h0 h1 => implCTA ((leastL (planeL s)).1 : Int) ((leastL (planeL s)).2 : Int) (some ⟨g, 0, none⟩) 1 [s] w (by simp) (fun p hp => by rw [List.mem_singleton.1 hp]; exact hns) h0 h1)
          have hpt := plane_tor s
          generalize ctR ((leastL (planeL s)).1 : Int) ((leastL (planeL s)).2 : Int) [s] = k2 at HCT hpt
          have hpt2 : decide (0 < (planeL s).length) = true → 0 < k2 := fun h => hpt (of_decide_eq_true h)
          clear hpt
          generalize leastL (planeL s) = AB at HP1 HP2 HCT
          obtain ⟨A, B⟩ := AB
          simp only at HP1 HP2 HCT
          generalize decide (0 < (planeL s).length) = pn at HP1 HP2 hpt2
          have HPT := Lib.hid hpt2
          have bA : ((A : Int) == (A : Int)) = true := by simp
          have bB : ((B : Int) == (B : Int)) = true := by simp
          have bpn : (pn == pn) = true := by simp
          clear hpt2
          go_wp2_with fail
          refine (HP1.out _ T_12.out SS.out).mono ?_
          rintro e w13 ⟨rfl, hb13⟩
          have z13 := hb13.size
          have q13 : Below w.heap.size w w13 := q12.trans (hb13.mono q12.size)
          have C_13 := Lib.hid (C_12.out.below hb13)
          clear C_12
          have T_13 := Lib.hid (T_12.out.below hb13)
          clear T_12
          have SS_13 := Lib.hid (SS.out.below hb13)
          clear SS
          go_wp2_with fail
          refine (HP2.out _ SS_13.out).mono ?_
          rintro e w14 ⟨rfl, hb14⟩
          have z14 := hb14.size
          have q14 : Below w.heap.size w w14 := q13.trans (hb14.mono q13.size)
          have C_14 := Lib.hid (C_13.out.below hb14)
          clear C_13
          have T_14 := Lib.hid (T_13.out.below hb14)
          clear T_13
          have SS_14 := Lib.hid (SS_13.out.below hb14)
          clear SS_13
          go_wp2_with fail
          refine (HDL.out _ C_14.out).mono ?_
          rintro e w15 ⟨d, e5, ak, ck, kk, rfl, hd6, he4, hk80, hf, hb15⟩
          have z15 := hb15.size
          have q15 : Below w.heap.size w w15 := q14.trans (hb15.mono q14.size)
          have C_15 := Lib.hid (C_14.out.below hb15)
          clear C_14
          have T_15 := Lib.hid (T_14.out.below hb15)
          clear T_14
          have SS_15 := Lib.hid (SS_14.out.below hb15)
          clear SS_14
          have SK := Lib.hid (hf.cells)
          clear hf
          have hnk : kk.length ≤ 1048576 := by omega
          go_wp2_with fail
          refine (HDM.out _ C_15.out).mono ?_
          rintro e w16 ⟨i1, i2, i3, i4, i5, rfl, hb16⟩
          have z16 := hb16.size
          have q16 : Below w.heap.size w w16 := q15.trans (hb16.mono q15.size)
          have C_16 := Lib.hid (C_15.out.below hb16)
          clear C_15
          have T_16 := Lib.hid (T_15.out.below hb16)
          clear T_15
          have SS_16 := Lib.hid (SS_15.out.below hb16)
          clear SS_15
          have SK_16 := Lib.hid (SK.out.below hb16)
          clear SK
          have HK1 := Lib.hid (fun w h => (torPlBoth d e5 kk ak ck w hnk h).2)
          have HK2 := Lib.hid (fun w h => (torPlBoth d e5 kk ak ck w hnk h).1)
          unfold IntsOwn at HK1 HK2
          have HM1 := Lib.hid (shBoth i1 i2 i3 i4 i5).2
          have HM2 := Lib.hid (shBoth i1 i2 i3 i4 i5).1
          have hZ := torL_bd d e5 kk
          generalize torL d e5 kk = Z at HK1 HK2 hZ
          generalize shR i1 i2 i3 i4 i5 = sr at HM1 HM2
          have bsr : (sr == sr) = true := by simp
          clear HP1 HP2
          cases pn
          · clear HCT
            go_wp2_with fail
            refine (HK1.out _ SK_16.out).mono ?_
            rintro e w17 ⟨z1, zc1, rfl, hoz, hb17⟩
            have z17 := hb17.size
            have q17 : Below w.heap.size w w17 := q16.trans (hb17.mono q16.size)
            have C_17 := Lib.hid (C_16.out.below hb17)
            clear C_16
            have T_17 := Lib.hid (T_16.out.below hb17)
            clear T_16
            have SS_17 := Lib.hid (SS_16.out.below hb17)
            clear SS_16
            have SK_17 := Lib.hid (SK_16.out.below hb17)
            clear SK_16
            have Z1 := Lib.hid (ownsRow_cellsAt hoz)
            clear hoz
            go_wp2_with fail
            refine (HK2.out _ SK_17.out).mono ?_
            rintro e w18 ⟨z2, zc2, rfl, hoz, hb18⟩
            have z18 := hb18.size
            have q18 : Below w.heap.size w w18 := q17.trans (hb18.mono q17.size)
            have C_18 := Lib.hid (C_17.out.below hb18)
            clear C_17
            have T_18 := Lib.hid (T_17.out.below hb18)
            clear T_17
            have SS_18 := Lib.hid (SS_17.out.below hb18)
            clear SS_17
            have SK_18 := Lib.hid (SK_17.out.below hb18)
            clear SK_17
            have Z1_18 := Lib.hid (Z1.out.below hb18)
            clear Z1
            have Z2 := Lib.hid (ownsRow_cellsAt hoz)
            clear hoz
            go_wp2_with fail
            refine (sameInts_same z1 z2 zc1 zc2 Z _ hZ Z1_18.out Z2.out).mono ?_
            rintro e w19 ⟨rfl, hb19⟩
            have z19 := hb19.size
            have q19 : Below w.heap.size w w19 := q18.trans (hb19.mono q18.size)
            have C_19 := Lib.hid (C_18.out.below hb19)
            clear C_18
            have T_19 := Lib.hid (T_18.out.below hb19)
            clear T_18
            have SS_19 := Lib.hid (SS_18.out.below hb19)
            clear SS_18
            have SK_19 := Lib.hid (SK_18.out.below hb19)
            clear SK_18
            have Z1_19 := Lib.hid (Z1_18.out.below hb19)
            clear Z1_18
            have Z2_19 := Lib.hid (Z2.out.below hb19)
            clear Z2
            go_wp2_with fail
            refine (HM1.out _).mono ?_
            rintro e w20 ⟨rfl, hb20⟩
            have z20 := hb20.size
            have q20 : Below w.heap.size w w20 := q19.trans (hb20.mono q19.size)
            have C_20 := Lib.hid (C_19.out.below hb20)
            clear C_19
            have T_20 := Lib.hid (T_19.out.below hb20)
            clear T_19
            have SS_20 := Lib.hid (SS_19.out.below hb20)
            clear SS_19
            have SK_20 := Lib.hid (SK_19.out.below hb20)
            clear SK_19
            have Z1_20 := Lib.hid (Z1_19.out.below hb20)
            clear Z1_19
            have Z2_20 := Lib.hid (Z2_19.out.below hb20)
            clear Z2_19
            go_wp2_with fail
            refine (HM2.out _).mono ?_
            rintro e w21 ⟨rfl, hb21⟩
            have z21 := hb21.size
            have q21 : Below w.heap.size w w21 := q20.trans (hb21.mono q20.size)
            have C_21 := Lib.hid (C_20.out.below hb21)
            clear C_20
            have T_21 := Lib.hid (T_20.out.below hb21)
            clear T_20
            have SS_21 := Lib.hid (SS_20.out.below hb21)
            clear SS_20
            have SK_21 := Lib.hid (SK_20.out.below hb21)
            clear SK_20
            have Z1_21 := Lib.hid (Z1_20.out.below hb21)
            clear Z1_20
            have Z2_21 := Lib.hid (Z2_20.out.below hb21)
            clear Z2_20
            go_wp2
            go_ret
            exact ⟨rfl, q21⟩
          · have hk2 := HPT.out rfl
            have hk2d : decide (0 < k2) = true := decide_eq_true hk2
            have hba : Below w16.heap.size w16 (w16.alloc (.cells #[.slice as0 s.length cs] 40)) := (Below.refl _ _).alloc (Nat.le_refl _) _
            have hka := heap_alloc_new w16 (.cells #[.slice as0 s.length cs] 40)
            go_wp2_with fail
            generalize w16.alloc (.cells #[.slice as0 s.length cs] 40) = w17 at hba hka ⊢
            have z17 := hba.size
            have q17 : Below w.heap.size w w17 := q16.trans (hba.mono q16.size)
            have C_17 := Lib.hid (C_16.out.below hba)
            clear C_16
            have T_17 := Lib.hid (T_16.out.below hba)
            clear T_16
            have SS_17 := Lib.hid (SS_16.out.below hba)
            clear SS_16
            have SK_17 := Lib.hid (SK_16.out.below hba)
            clear SK_16
            have HSA := Lib.hid (shpsAt_one hka SS_17.out)
            clear hka
            refine (HCT.out (w16.heap.size) _ T_17.out HSA.out).mono ?_
            rintro e w18 ⟨rfl, hb18⟩
            have z18 := hb18.size
            have q18 : Below w.heap.size w w18 := q17.trans (hb18.mono q17.size)
            have C_18 := Lib.hid (C_17.out.below hb18)
            clear C_17
            have T_18 := Lib.hid (T_17.out.below hb18)
            clear T_17
            have SS_18 := Lib.hid (SS_17.out.below hb18)
            clear SS_17
            have SK_18 := Lib.hid (SK_17.out.below hb18)
            clear SK_17
            go_wp2_with fail
            refine (HK1.out _ SK_18.out).mono ?_
            rintro e w19 ⟨z1, zc1, rfl, hoz, hb19⟩
            have z19 := hb19.size
            have q19 : Below w.heap.size w w19 := q18.trans (hb19.mono q18.size)
            have C_19 := Lib.hid (C_18.out.below hb19)
            clear C_18
            have T_19 := Lib.hid (T_18.out.below hb19)
            clear T_18
            have SS_19 := Lib.hid (SS_18.out.below hb19)
            clear SS_18
            have SK_19 := Lib.hid (SK_18.out.below hb19)
            clear SK_18
            have Z1 := Lib.hid (ownsRow_cellsAt hoz)
            clear hoz
            go_wp2_with fail
            refine (HK2.out _ SK_19.out).mono ?_
            rintro e w20 ⟨z2, zc2, rfl, hoz, hb20⟩
            have z20 := hb20.size
            have q20 : Below w.heap.size w w20 := q19.trans (hb20.mono q19.size)
            have C_20 := Lib.hid (C_19.out.below hb20)
            clear C_19
            have T_20 := Lib.hid (T_19.out.below hb20)
            clear T_19
            have SS_20 := Lib.hid (SS_19.out.below hb20)
            clear SS_19
            have SK_20 := Lib.hid (SK_19.out.below hb20)
            clear SK_19
            have Z1_20 := Lib.hid (Z1.out.below hb20)
            clear Z1
            have Z2 := Lib.hid (ownsRow_cellsAt hoz)
            clear hoz
            go_wp2_with fail
            refine (sameInts_same z1 z2 zc1 zc2 Z _ hZ Z1_20.out Z2.out).mono ?_
            rintro e w21 ⟨rfl, hb21⟩
            have z21 := hb21.size
            have q21 : Below w.heap.size w w21 := q20.trans (hb21.mono q20.size)
            have C_21 := Lib.hid (C_20.out.below hb21)
            clear C_20
            have T_21 := Lib.hid (T_20.out.below hb21)
            clear T_20
            have SS_21 := Lib.hid (SS_20.out.below hb21)
            clear SS_20
            have SK_21 := Lib.hid (SK_20.out.below hb21)
            clear SK_20
            have Z1_21 := Lib.hid (Z1_20.out.below hb21)
            clear Z1_20
            have Z2_21 := Lib.hid (Z2.out.below hb21)
            clear Z2
            go_wp2_with fail
            refine (HM1.out _).mono ?_
            rintro e w22 ⟨rfl, hb22⟩
            have z22 := hb22.size
            have q22 : Below w.heap.size w w22 := q21.trans (hb22.mono q21.size)
            have C_22 := Lib.hid (C_21.out.below hb22)
            clear C_21
            have T_22 := Lib.hid (T_21.out.below hb22)
            clear T_21
            have SS_22 := Lib.hid (SS_21.out.below hb22)
            clear SS_21
            have SK_22 := Lib.hid (SK_21.out.below hb22)
            clear SK_21
            have Z1_22 := Lib.hid (Z1_21.out.below hb22)
            clear Z1_21
            have Z2_22 := Lib.hid (Z2_21.out.below hb22)
            clear Z2_21
            go_wp2_with fail
            refine (HM2.out _).mono ?_
            rintro e w23 ⟨rfl, hb23⟩
            have z23 := hb23.size
            have q23 : Below w.heap.size w w23 := q22.trans (hb23.mono q22.size)
            have C_23 := Lib.hid (C_22.out.below hb23)
            clear C_22
            have T_23 := Lib.hid (T_22.out.below hb23)
            clear T_22
            have SS_23 := Lib.hid (SS_22.out.below hb23)
            clear SS_22
            have SK_23 := Lib.hid (SK_22.out.below hb23)
            clear SK_22
            have Z1_23 := Lib.hid (Z1_22.out.below hb23)
            clear Z1_22
            have Z2_23 := Lib.hid (Z2_22.out.below hb23)
            clear Z2_22
            go_wp2
            go_ret
            exact ⟨rfl, q23⟩
    · obtain ⟨U, V, rfl, rfl, hU, hV, hmv⟩ := HMV.out rfl
      have HMW := Lib.hid hmv
      clear HMV hmv
      have HAT := Lib.hid (fun i w hi h => lawAt ad0 cap0 bs0 i w hi hn HW.out h)
      have U0 : ¬ (U : Int) = 0 := by omega
      have V0 : ¬ (V : Int) = 0 := by omega
      go_wp2_with fail
      refine (HAT.out 1 w3 (by decide) C_3.out).mono ?_
      rintro e w' ⟨p, rfl, hp, hww⟩
      have hww2 := hww.symm
      clear hww
      subst hww2
      obtain ⟨X, hX⟩ : ∃ r, r = p % U := ⟨_, rfl⟩
      have mX : (p : Int).tmod (U : Int) = (X : Int) := by rw [hX]; norm_cast
      have lX : X < U := by rw [hX]; exact Nat.mod_lt _ (by omega)
      have uX : IntKind.i64.wrap (X : Int) = (X : Int) := IntWalk.i64_in _ (by omega)
      clear hX
      go_wp2_with fail
      refine (HAT.out 2 w3 (by decide) C_3.out).mono ?_
      rintro e w' ⟨pp, rfl, hpp, hww⟩
      have hww2 := hww.symm
      clear hww
      subst hww2
      obtain ⟨Y, hY⟩ : ∃ r, r = pp % V := ⟨_, rfl⟩
      have mY : (pp : Int).tmod (V : Int) = (Y : Int) := by rw [hY]; norm_cast
      have lY : Y < V := by rw [hY]; exact Nat.mod_lt _ (by omega)
      have uY : IntKind.i64.wrap (Y : Int) = (Y : Int) := IntWalk.i64_in _ (by omega)
      clear hY
      obtain ⟨mv, hmv0, hmvk⟩ := HMW.out X Y lX lY
      have HMK := Lib.hid hmvk
      clear hmvk HMW HAT
      go_wp2
      go_loopw [10, 11] (fun z i wr => ∃ k q : Nat, k ≤ ls.length ∧ i = .int .i64 k ∧ z = .int .i64 q ∧ q = mv k ∧ Below w3.heap.size w3 wr) (fun _ i _ => ls.length - (intOf i).toNat)
      case atStart => exact ⟨0, 0, Nat.zero_le _, rfl, rfl, hmv0.symm, Below.refl _ _⟩
      case round =>
        obtain ⟨k, q, hk, rfl, rfl, hq, hbr⟩ := hrel
        have HBR := Lib.hid hbr
        have hszr := hbr.size
        clear hbr
        by_cases hlt : k < ls.length
        · have i1 : (k : Int) < (ls.length : Int) := by omega
          obtain ⟨v, hv, hv36, m, hm25, hmk, hsh, hpc, hand, hnext⟩ := HMK.out k hlt
          rw [← hq] at hmk hand hnext
          obtain ⟨g, off, rfl, hg, hcc⟩ := (L_3.out.below HBR.out).open (by rw [ints_length]; omega)
          have x0 := hcc k _ (ints_at ls k hlt)
          rw [hv] at x0
          have HSH := (shBoth (U : Int) (V : Int) (v : Int) (X : Int) (Y : Int)).2
          rw [hsh] at HSH
          have HSHH := Lib.hid HSH
          have HNX := Lib.hid hnext
          have hor : bits .or .i64 (q : Int) (m : Int) = ((q ||| m : Nat) : Int) := i64_or_nat q m (by omega) (by omega)
          have handI : bits .and .i64 (m : Int) (q : Int) = 0 := by rw [i64_and_nat m q (by omega) (by omega), hand]; rfl
          obtain ⟨PC, hPC⟩ : ∃ PC, PC = pc v := ⟨_, rfl⟩
          have hpm : pc m = PC := by rw [hpc, hPC]
          have HB1 := Lib.hid (fun w' => lawBits m (by omega) w')
          have HB2 := Lib.hid (fun w' => lawBits v hv36 w')
          rw [hpm] at HB1
          rw [← hPC] at HB2
          have bpc : ((PC : Int) != (PC : Int)) = false := by simp
          have hm0 : ¬ (m : Int) < 0 := by omega
          have hm0d : decide ((m : Int) < 0) = false := decide_eq_false hm0
          clear hcc hv hsh hpc hand hnext hPC hpm HSH hq
          go_wp2_with fail
          refine (HSHH.out wr).mono ?_
          rintro e w2 ⟨rfl, hb2⟩
          have x1 := (hb2.cell (p := ⟨g, off + k, none⟩) hg).trans x0
          have HBR2 := Lib.hid (HBR.out.trans (hb2.mono hszr))
          clear hb2 x0
          have X1 := cell_regrown x1
          have HQ1 := Lib.hid (fun d os => Calls.regrown_of (d := d) (os := os) ((HB1.out (Go.Sort.grow (redrawn w2 d) os)).mono fun e w' ⟨h1, h2⟩ => ⟨h1, by rw [h2]; exact Below.refl _ _⟩))
          have HQ2 := Lib.hid (fun d os => Calls.regrown_of (d := d) (os := os) ((HB2.out (Go.Sort.grow (redrawn w2 d) os)).mono fun e w' ⟨h1, h2⟩ => ⟨h1, by rw [h2]; exact Below.refl _ _⟩))
          go_upto_region 15 with (fail)
          refine wp_region_quiet_below (by kernel_rfl) (by kernel_rfl) ?_
          repeat (go_big_quiet_step (fail))
          go_big_quiet_step (exact HQ1.out _ _)
          repeat (go_big_quiet_step (fail))
          go_big_quiet_step (exact HQ2.out _ _)
          repeat (go_big_quiet_step (fail))
          refine wpQuiet_nil ?_
          intro _ hw'
          obtain ⟨⟨dq, osq⟩, hw''⟩ := hw'
          subst hw''
          have hbq := below_regrown w2 dq osq
          have HBR3 := Lib.hid (HBR2.out.trans (hbq.mono HBR2.out.size))
          clear hbq
          generalize Go.Sort.grow (redrawn w2 dq) osq = w3 at HBR3 ⊢
          clear X1 x1 HQ1 HQ2
          obtain ⟨qm, hqm⟩ : ∃ qm, qm = q ||| m := ⟨_, rfl⟩
          rw [← hqm] at hor
          have HQM := Lib.hid (show qm = mv (k + 1) by rw [HNX.out, hqm])
          clear hqm
          go_wp2
          go_roundw
          case rel => exact ⟨k + 1, qm, by omega, by go_num, by first | rfl | go_num, HQM.out, HBR3.out⟩
          case measure => simp [intOf]; omega
        · obtain rfl : k = ls.length := by omega
          obtain ⟨w4, rfl⟩ : ∃ x, x = wr := ⟨_, rfl⟩
          have hb4 := HBR.out
          have z4 := hb4.size
          have q4 : Below w.heap.size w w4 := q3.trans (hb4.mono q3.size)
          have C_4 := Lib.hid (C_3.out.below hb4)
          clear C_3
          have T_4 := Lib.hid (T_3.out.below hb4)
          clear T_3
          have L_4 := Lib.hid (L_3.out.below hb4)
          clear L_3
          clear HBR HMK hk hlt hq
          clear L_4
          go_wp2_with fail
          refine (HDC.out _ C_4.out).mono ?_
          rintro e w5 ⟨a, b, vq, cq, pq, rfl, ha6, hb4, hq1, hq3, hq80, hf, hb5⟩
          have z5 := hb5.size
          have q5 : Below w.heap.size w w5 := q4.trans (hb5.mono q4.size)
          have C_5 := Lib.hid (C_4.out.below hb5)
          clear C_4
          have T_5 := Lib.hid (T_4.out.below hb5)
          clear T_4
          have Sq := Lib.hid (far_at hf)
          clear hf
          have hnq : pq.length ≤ 1048576 := by omega
          have hlq : ∀ p ∈ pq, p.length ≤ 1048576 := fun p h => by have := hq80 p h; omega
          have hfn := Nat.le_trans (torT_facts a b pq).1 (by decide : 1500 ≤ 1048576)
          have H1 := Lib.hid (fun w h0 h1 => implCTA a b vq cq pq w hnq hlq h0 h1)
          have H2 := Lib.hid (fun w h0 h1 => implFT a b vq cq pq w hnq hlq h0 h1)
          have H3 := Lib.hid (fun w h1 => specFT a b vq cq pq w hnq hlq h1)
          unfold FoundAt at H2 H3
          have H4 := Lib.hid (fun w h1 => specCTA a b vq cq pq w hnq hlq h1)
          have H5 := Lib.hid (fun al cl w h0 h1 h2 => implTTA a b vq cq pq al cl (firstT (torF a b pq)) w hnq hlq hfn h0 h1 h2)
          obtain ⟨hl1, hl2, hl3, hl4⟩ := tor_law a b pq
          have hrc := fun w => specRc a b w
          unfold RcAt at hrc
          have HRC := Lib.hid hrc
          have H6 := Lib.hid (fun b0 d0 w h1 h2 => specHasT (rcB a b) b0 d0 (rcR a b) vq cq pq w (Nat.le_trans (rcR_length a b) (by decide)) hnq hlq h1 h2)
          have hrt := fun h1 h2 h3 h4 => rect_tor a b pq h1 h2 h3 h4
          have hokd : decide (RcOk a b) = true → RcOk a b := fun h => of_decide_eq_true h
          have hrt2 := fun h1 => hrt (hokd h1)
          clear hq80 hlq hrc hrt hokd
          generalize rcB a b = rb at HRC H6 hrt2
          generalize rcR a b = rr at HRC H6 hrt2
          generalize decide (RcOk a b) = ok at HRC hrt2
          generalize someT (regF rb rr pq) = hv at H6 hrt2
          generalize ttR a b pq (firstT (torF a b pq)) = tq at H5 hl2
          generalize firstT (torF a b pq) = G at H2 H3 H5 hfn
          generalize someT (torF a b pq) = sm at H2 H3 hl1 hl2 hrt2
          generalize ctR a b pq = K at H1 H4 hl1 hl3 hl4
          have bkk : (K == K) = true := by simp
          have bss : (sm == sm) = true := by simp
          have bns : (sm != sm) = false := by simp
          have bnk : (K != K) = false := by simp
          have HL2 := Lib.hid hl2
          have HRT := Lib.hid hrt2
          clear hl2 hrt2
          go_wp2_with fail
          refine (H1.out _ T_5.out Sq.out).mono ?_
          rintro e w6 ⟨rfl, hb6⟩
          have z6 := hb6.size
          have q6 : Below w.heap.size w w6 := q5.trans (hb6.mono q5.size)
          have C_6 := Lib.hid (C_5.out.below hb6)
          clear C_5
          have T_6 := Lib.hid (T_5.out.below hb6)
          clear T_5
          have Sq_6 := Lib.hid (Sq.out.below hb6)
          clear Sq
          go_wp2_with fail
          refine (H2.out _ T_6.out Sq_6.out).mono ?_
          rintro e w7 ⟨m1, mc1, rfl, hom, hb7⟩
          have z7 := hb7.size
          have q7 : Below w.heap.size w w7 := q6.trans (hb7.mono q6.size)
          have C_7 := Lib.hid (C_6.out.below hb7)
          clear C_6
          have T_7 := Lib.hid (T_6.out.below hb7)
          clear T_6
          have Sq_7 := Lib.hid (Sq_6.out.below hb7)
          clear Sq_6
          have M1 := Lib.hid (ownsRow_cellsAt hom)
          clear hom
          go_wp2_with fail
          refine (H3.out _ Sq_7.out).mono ?_
          rintro e w8 ⟨m2, mc2, rfl, hom, hb8⟩
          have z8 := hb8.size
          have q8 : Below w.heap.size w w8 := q7.trans (hb8.mono q7.size)
          have C_8 := Lib.hid (C_7.out.below hb8)
          clear C_7
          have T_8 := Lib.hid (T_7.out.below hb8)
          clear T_7
          have Sq_8 := Lib.hid (Sq_7.out.below hb8)
          clear Sq_7
          have M1_8 := Lib.hid (M1.out.below hb8)
          clear M1
          have M2 := Lib.hid (ownsRow_cellsAt hom)
          clear hom H1 H2 H3
          go_upto_region 22 with (fail)
          go_cut [161] from 128 to 161 (fun c wx => c = .bool false ∧ Below w8.heap.size w8 wx)
          case first =>
            go_wp2_with fail
            refine (H4.out _ Sq_8.out).mono ?_
            rintro e w9 ⟨rfl, hb9⟩
            have z9 := hb9.size
            have q9 : Below w.heap.size w w9 := q8.trans (hb9.mono q8.size)
            have C_9 := Lib.hid (C_8.out.below hb9)
            clear C_8
            have T_9 := Lib.hid (T_8.out.below hb9)
            clear T_8
            have Sq_9 := Lib.hid (Sq_8.out.below hb9)
            clear Sq_8
            have M1_9 := Lib.hid (M1_8.out.below hb9)
            clear M1_8
            have M2_9 := Lib.hid (M2.out.below hb9)
            clear M2
            go_wp2_with fail
            refine (sameInts_same m1 m2 mc1 mc2 G _ hfn M1_9.out M2_9.out).mono ?_
            rintro e w10 ⟨rfl, hb10⟩
            have z10 := hb10.size
            have q10 : Below w.heap.size w w10 := q9.trans (hb10.mono q9.size)
            have C_10 := Lib.hid (C_9.out.below hb10)
            clear C_9
            have T_10 := Lib.hid (T_9.out.below hb10)
            clear T_9
            have Sq_10 := Lib.hid (Sq_9.out.below hb10)
            clear Sq_9
            have M1_10 := Lib.hid (M1_9.out.below hb10)
            clear M1_9
            have M2_10 := Lib.hid (M2_9.out.below hb10)
            clear M2_9
            cases sm
            · have hkd : decide (0 < K) = false := hl1
              have hkp : ¬0 < K := of_decide_eq_false hkd
              go_wp2
              go_meet
              exact ⟨rfl, (hb9.trans (hb10.mono hb9.size))⟩
            · have hkd : decide (0 < K) = true := hl1
              have hkp : 0 < K := of_decide_eq_true hkd
              obtain rfl : tq = true := HL2.out rfl
              go_wp2_with fail
              refine (H5.out m2 mc2 _ T_10.out Sq_10.out M2_10.out).mono ?_
              rintro e w11 ⟨rfl, hb11⟩
              have z11 := hb11.size
              have q11 : Below w.heap.size w w11 := q10.trans (hb11.mono q10.size)
              have C_11 := Lib.hid (C_10.out.below hb11)
              clear C_10
              have T_11 := Lib.hid (T_10.out.below hb11)
              clear T_10
              have Sq_11 := Lib.hid (Sq_10.out.below hb11)
              clear Sq_10
              have M1_11 := Lib.hid (M1_10.out.below hb11)
              clear M1_10
              have M2_11 := Lib.hid (M2_10.out.below hb11)
              clear M2_10
              go_wp2
              go_meet
              exact ⟨rfl, ((hb9.trans (hb10.mono hb9.size)).trans (hb11.mono (hb9.trans (hb10.mono hb9.size)).size))⟩
          case rest =>
            obtain ⟨rfl, hb9⟩ := hcut
            obtain ⟨w9, rfl⟩ : ∃ x, x = wc := ⟨_, rfl⟩
            have z9 := hb9.size
            have q9 : Below w.heap.size w w9 := q8.trans (hb9.mono q8.size)
            have C_9 := Lib.hid (C_8.out.below hb9)
            clear C_8
            have T_9 := Lib.hid (T_8.out.below hb9)
            clear T_8
            have Sq_9 := Lib.hid (Sq_8.out.below hb9)
            clear Sq_8
            have M1_9 := Lib.hid (M1_8.out.below hb9)
            clear M1_8
            have M2_9 := Lib.hid (M2.out.below hb9)
            clear M2
            clear M1_9 M2_9
            clear H4 H5 HL2 hl1
            go_wp2_with fail
            refine (HRC.out _).mono ?_
            rintro e w10 ⟨b0, d0, rfl, ho, hb10⟩
            have z10 := hb10.size
            have q10 : Below w.heap.size w w10 := q9.trans (hb10.mono q9.size)
            have C_10 := Lib.hid (C_9.out.below hb10)
            clear C_9
            have T_10 := Lib.hid (T_9.out.below hb10)
            clear T_9
            have Sq_10 := Lib.hid (Sq_9.out.below hb10)
            clear Sq_9
            have RR := Lib.hid (ownsRow_cellsAt ho)
            clear ho HRC
            have hba : Below w10.heap.size w10 (w10.alloc (.cells #[.int .i64 rb, .slice b0 rr.length d0] 26)) := (Below.refl _ _).alloc (Nat.le_refl _) _
            have hka : BoxIn (w10.alloc (.cells #[.int .i64 rb, .slice b0 rr.length d0] 26)) w10.heap.size (.int .i64 rb) (.slice b0 rr.length d0) := heap_alloc_new w10 _
            go_upto_region 25 with (fail)
            generalize w10.alloc (.cells #[.int .i64 rb, .slice b0 rr.length d0] 26) = w11 at hba hka ⊢
            have z11 := hba.size
            have q11 : Below w.heap.size w w11 := q10.trans (hba.mono q10.size)
            have C_11 := Lib.hid (C_10.out.below hba)
            clear C_10
            have T_11 := Lib.hid (T_10.out.below hba)
            clear T_10
            have Sq_11 := Lib.hid (Sq_10.out.below hba)
            clear Sq_10
            have RR_11 := Lib.hid (RR.out.below hba)
            clear RR
            have BX := Lib.hid hka
            clear hba hka
            go_cut [185] from 168 to 185 (fun c wx => c = .bool false ∧ Below w11.heap.size w11 wx)
            case first =>
              cases ok
              · go_wp2
                go_meet
                exact ⟨rfl, Below.refl _ _⟩
              · by_cases hx5 : a ≤ 5
                · have hx5d : decide (a ≤ 5) = true := decide_eq_true hx5
                  by_cases hy5 : b ≤ 5
                  · have hy5d : decide (b ≤ 5) = true := decide_eq_true hy5
                    obtain ⟨y0, y1, y2, y3⟩ := boxAt BX.out
                    go_wp2_with fail
                    refine (H6.out b0 d0 _ RR_11.out Sq_11.out).mono ?_
                    rintro e w12 ⟨rfl, hb12⟩
                    have z12 := hb12.size
                    have q12 : Below w.heap.size w w12 := q11.trans (hb12.mono q11.size)
                    have C_12 := Lib.hid (C_11.out.below hb12)
                    clear C_11
                    have T_12 := Lib.hid (T_11.out.below hb12)
                    clear T_11
                    have Sq_12 := Lib.hid (Sq_11.out.below hb12)
                    clear Sq_11
                    have RR_12 := Lib.hid (RR_11.out.below hb12)
                    clear RR_11
                    have BX_12 := Lib.hid (BX.out.below hb12)
                    clear BX
                    cases hv
                    · go_wp2
                      go_meet
                      exact ⟨rfl, hb12⟩
                    · obtain rfl : sm = true := HRT.out (by first | rfl | trivial) hx5 hy5 (by first | rfl | trivial)
                      go_wp2
                      go_meet
                      exact ⟨rfl, hb12⟩
                  · have hy5d : decide (b ≤ 5) = false := decide_eq_false hy5
                    go_wp2
                    go_meet
                    exact ⟨rfl, Below.refl _ _⟩
                · have hx5d : decide (a ≤ 5) = false := decide_eq_false hx5
                  go_wp2
                  go_meet
                  exact ⟨rfl, Below.refl _ _⟩
            case rest =>
              obtain ⟨rfl, hb12⟩ := hcut
              obtain ⟨w12, rfl⟩ : ∃ x, x = wc := ⟨_, rfl⟩
              have z12 := hb12.size
              have q12 : Below w.heap.size w w12 := q11.trans (hb12.mono q11.size)
              have C_12 := Lib.hid (C_11.out.below hb12)
              clear C_11
              have T_12 := Lib.hid (T_11.out.below hb12)
              clear T_11
              have Sq_12 := Lib.hid (Sq_11.out.below hb12)
              clear Sq_11
              have RR_12 := Lib.hid (RR_11.out.below hb12)
              clear RR_11
              have BX_12 := Lib.hid (BX.out.below hb12)
              clear BX
              clear BX_12 RR_12 Sq_12
              clear H6 HRT
              go_wp2_with fail
              refine (HDP.out _ C_12.out).mono ?_
              rintro e w13 ⟨as0, cs, s, rfl, hs8, hf, hb13⟩
              have z13 := hb13.size
              have q13 : Below w.heap.size w w13 := q12.trans (hb13.mono q12.size)
              have C_13 := Lib.hid (C_12.out.below hb13)
              clear C_12
              have T_13 := Lib.hid (T_12.out.below hb13)
              clear T_12
              have SS := Lib.hid (hf.cells)
              clear hf
              have hns : s.length ≤ 1048576 := by omega
              have HP1 := Lib.hid (fun w h0 h1 => implTP as0 cs s w hns h0 h1)
              have HP2 := Lib.hid (fun w h1 => specTP as0 cs s w hns h1)
              have HCT := Lib.hid (fun g w h0 h1 => implCTA ((leastL (planeL s)).1 : Int) ((leastL (planeL s)).2 : Int) (some ⟨g, 0, none⟩) 1 [s] w (by simp) (fun p hp => by rw [List.mem_singleton.1 hp]; exact hns) h0 h1)
              have hpt := plane_tor s
              generalize ctR ((leastL (planeL s)).1 : Int) ((leastL (planeL s)).2 : Int) [s] = k2 at HCT hpt
              have hpt2 : decide (0 < (planeL s).length) = true → 0 < k2 := fun h => hpt (of_decide_eq_true h)
              clear hpt
              generalize leastL (planeL s) = AB at HP1 HP2 HCT
              obtain ⟨A, B⟩ := AB
              simp only at HP1 HP2 HCT
              generalize decide (0 < (planeL s).length) = pn at HP1 HP2 hpt2
              have HPT := Lib.hid hpt2
              have bA : ((A : Int) == (A : Int)) = true := by simp
              have bB : ((B : Int) == (B : Int)) = true := by simp
              have bpn : (pn == pn) = true := by simp
              clear hpt2
              go_wp2_with fail
              refine (HP1.out _ T_13.out SS.out).mono ?_
              rintro e w14 ⟨rfl, hb14⟩
              have z14 := hb14.size
              have q14 : Below w.heap.size w w14 := q13.trans (hb14.mono q13.size)
              have C_14 := Lib.hid (C_13.out.below hb14)
              clear C_13
              have T_14 := Lib.hid (T_13.out.below hb14)
              clear T_13
              have SS_14 := Lib.hid (SS.out.below hb14)
              clear SS
              go_wp2_with fail
              refine (HP2.out _ SS_14.out).mono ?_
              rintro e w15 ⟨rfl, hb15⟩
              have z15 := hb15.size
              have q15 : Below w.heap.size w w15 := q14.trans (hb15.mono q14.size)
              have C_15 := Lib.hid (C_14.out.below hb15)
              clear C_14
              have T_15 := Lib.hid (T_14.out.below hb15)
              clear T_14
              have SS_15 := Lib.hid (SS_14.out.below hb15)
              clear SS_14
              go_wp2_with fail
              refine (HDL.out _ C_15.out).mono ?_
              rintro e w16 ⟨d, e5, ak, ck, kk, rfl, hd6, he4, hk80, hf, hb16⟩
              have z16 := hb16.size
              have q16 : Below w.heap.size w w16 := q15.trans (hb16.mono q15.size)
              have C_16 := Lib.hid (C_15.out.below hb16)
              clear C_15
              have T_16 := Lib.hid (T_15.out.below hb16)
              clear T_15
              have SS_16 := Lib.hid (SS_15.out.below hb16)
              clear SS_15
              have SK := Lib.hid (hf.cells)
              clear hf
              have hnk : kk.length ≤ 1048576 := by omega
              go_wp2_with fail
              refine (HDM.out _ C_16.out).mono ?_
              rintro e w17 ⟨i1, i2, i3, i4, i5, rfl, hb17⟩
              have z17 := hb17.size
              have q17 : Below w.heap.size w w17 := q16.trans (hb17.mono q16.size)
              have C_17 := Lib.hid (C_16.out.below hb17)
              clear C_16
              have T_17 := Lib.hid (T_16.out.below hb17)
              clear T_16
              have SS_17 := Lib.hid (SS_16.out.below hb17)
              clear SS_16
              have SK_17 := Lib.hid (SK.out.below hb17)
              clear SK
              have HK1 := Lib.hid (fun w h => (torPlBoth d e5 kk ak ck w hnk h).2)
              have HK2 := Lib.hid (fun w h => (torPlBoth d e5 kk ak ck w hnk h).1)
              unfold IntsOwn at HK1 HK2
              have HM1 := Lib.hid (shBoth i1 i2 i3 i4 i5).2
              have HM2 := Lib.hid (shBoth i1 i2 i3 i4 i5).1
              have hZ := torL_bd d e5 kk
              generalize torL d e5 kk = Z at HK1 HK2 hZ
              generalize shR i1 i2 i3 i4 i5 = sr at HM1 HM2
              have bsr : (sr == sr) = true := by simp
              clear HP1 HP2
              cases pn
              · clear HCT
                go_wp2_with fail
                refine (HK1.out _ SK_17.out).mono ?_
                rintro e w18 ⟨z1, zc1, rfl, hoz, hb18⟩
                have z18 := hb18.size
                have q18 : Below w.heap.size w w18 := q17.trans (hb18.mono q17.size)
                have C_18 := Lib.hid (C_17.out.below hb18)
                clear C_17
                have T_18 := Lib.hid (T_17.out.below hb18)
                clear T_17
                have SS_18 := Lib.hid (SS_17.out.below hb18)
                clear SS_17
                have SK_18 := Lib.hid (SK_17.out.below hb18)
                clear SK_17
                have Z1 := Lib.hid (ownsRow_cellsAt hoz)
                clear hoz
                go_wp2_with fail
                refine (HK2.out _ SK_18.out).mono ?_
                rintro e w19 ⟨z2, zc2, rfl, hoz, hb19⟩
                have z19 := hb19.size
                have q19 : Below w.heap.size w w19 := q18.trans (hb19.mono q18.size)
                have C_19 := Lib.hid (C_18.out.below hb19)
                clear C_18
                have T_19 := Lib.hid (T_18.out.below hb19)
                clear T_18
                have SS_19 := Lib.hid (SS_18.out.below hb19)
                clear SS_18
                have SK_19 := Lib.hid (SK_18.out.below hb19)
                clear SK_18
                have Z1_19 := Lib.hid (Z1.out.below hb19)
                clear Z1
                have Z2 := Lib.hid (ownsRow_cellsAt hoz)
                clear hoz
                go_wp2_with fail
                refine (sameInts_same z1 z2 zc1 zc2 Z _ hZ Z1_19.out Z2.out).mono ?_
                rintro e w20 ⟨rfl, hb20⟩
                have z20 := hb20.size
                have q20 : Below w.heap.size w w20 := q19.trans (hb20.mono q19.size)
                have C_20 := Lib.hid (C_19.out.below hb20)
                clear C_19
                have T_20 := Lib.hid (T_19.out.below hb20)
                clear T_19
                have SS_20 := Lib.hid (SS_19.out.below hb20)
                clear SS_19
                have SK_20 := Lib.hid (SK_19.out.below hb20)
                clear SK_19
                have Z1_20 := Lib.hid (Z1_19.out.below hb20)
                clear Z1_19
                have Z2_20 := Lib.hid (Z2.out.below hb20)
                clear Z2
                go_wp2_with fail
                refine (HM1.out _).mono ?_
                rintro e w21 ⟨rfl, hb21⟩
                have z21 := hb21.size
                have q21 : Below w.heap.size w w21 := q20.trans (hb21.mono q20.size)
                have C_21 := Lib.hid (C_20.out.below hb21)
                clear C_20
                have T_21 := Lib.hid (T_20.out.below hb21)
                clear T_20
                have SS_21 := Lib.hid (SS_20.out.below hb21)
                clear SS_20
                have SK_21 := Lib.hid (SK_20.out.below hb21)
                clear SK_20
                have Z1_21 := Lib.hid (Z1_20.out.below hb21)
                clear Z1_20
                have Z2_21 := Lib.hid (Z2_20.out.below hb21)
                clear Z2_20
                go_wp2_with fail
                refine (HM2.out _).mono ?_
                rintro e w22 ⟨rfl, hb22⟩
                have z22 := hb22.size
                have q22 : Below w.heap.size w w22 := q21.trans (hb22.mono q21.size)
                have C_22 := Lib.hid (C_21.out.below hb22)
                clear C_21
                have T_22 := Lib.hid (T_21.out.below hb22)
                clear T_21
                have SS_22 := Lib.hid (SS_21.out.below hb22)
                clear SS_21
                have SK_22 := Lib.hid (SK_21.out.below hb22)
                clear SK_21
                have Z1_22 := Lib.hid (Z1_21.out.below hb22)
                clear Z1_21
                have Z2_22 := Lib.hid (Z2_21.out.below hb22)
                clear Z2_21
                go_wp2
                go_ret
                exact ⟨rfl, q22⟩
              · have hk2 := HPT.out rfl
                have hk2d : decide (0 < k2) = true := decide_eq_true hk2
                have hba : Below w17.heap.size w17 (w17.alloc (.cells #[.slice as0 s.length cs] 40)) := (Below.refl _ _).alloc (Nat.le_refl _) _
                have hka := heap_alloc_new w17 (.cells #[.slice as0 s.length cs] 40)
                go_wp2_with fail
                generalize w17.alloc (.cells #[.slice as0 s.length cs] 40) = w18 at hba hka ⊢
                have z18 := hba.size
                have q18 : Below w.heap.size w w18 := q17.trans (hba.mono q17.size)
                have C_18 := Lib.hid (C_17.out.below hba)
                clear C_17
                have T_18 := Lib.hid (T_17.out.below hba)
                clear T_17
                have SS_18 := Lib.hid (SS_17.out.below hba)
                clear SS_17
                have SK_18 := Lib.hid (SK_17.out.below hba)
                clear SK_17
                have HSA := Lib.hid (shpsAt_one hka SS_18.out)
                clear hka
                refine (HCT.out (w17.heap.size) _ T_18.out HSA.out).mono ?_
                rintro e w19 ⟨rfl, hb19⟩
                have z19 := hb19.size
                have q19 : Below w.heap.size w w19 := q18.trans (hb19.mono q18.size)
                have C_19 := Lib.hid (C_18.out.below hb19)
                clear C_18
                have T_19 := Lib.hid (T_18.out.below hb19)
                clear T_18
                have SS_19 := Lib.hid (SS_18.out.below hb19)
                clear SS_18
                have SK_19 := Lib.hid (SK_18.out.below hb19)
                clear SK_18
                go_wp2_with fail
                refine (HK1.out _ SK_19.out).mono ?_
                rintro e w20 ⟨z1, zc1, rfl, hoz, hb20⟩
                have z20 := hb20.size
                have q20 : Below w.heap.size w w20 := q19.trans (hb20.mono q19.size)
                have C_20 := Lib.hid (C_19.out.below hb20)
                clear C_19
                have T_20 := Lib.hid (T_19.out.below hb20)
                clear T_19
                have SS_20 := Lib.hid (SS_19.out.below hb20)
                clear SS_19
                have SK_20 := Lib.hid (SK_19.out.below hb20)
                clear SK_19
                have Z1 := Lib.hid (ownsRow_cellsAt hoz)
                clear hoz
                go_wp2_with fail
                refine (HK2.out _ SK_20.out).mono ?_
                rintro e w21 ⟨z2, zc2, rfl, hoz, hb21⟩
                have z21 := hb21.size
                have q21 : Below w.heap.size w w21 := q20.trans (hb21.mono q20.size)
                have C_21 := Lib.hid (C_20.out.below hb21)
                clear C_20
                have T_21 := Lib.hid (T_20.out.below hb21)
                clear T_20
                have SS_21 := Lib.hid (SS_20.out.below hb21)
                clear SS_20
                have SK_21 := Lib.hid (SK_20.out.below hb21)
                clear SK_20
                have Z1_21 := Lib.hid (Z1.out.below hb21)
                clear Z1
                have Z2 := Lib.hid (ownsRow_cellsAt hoz)
                clear hoz
                go_wp2_with fail
                refine (sameInts_same z1 z2 zc1 zc2 Z _ hZ Z1_21.out Z2.out).mono ?_
                rintro e w22 ⟨rfl, hb22⟩
                have z22 := hb22.size
                have q22 : Below w.heap.size w w22 := q21.trans (hb22.mono q21.size)
                have C_22 := Lib.hid (C_21.out.below hb22)
                clear C_21
                have T_22 := Lib.hid (T_21.out.below hb22)
                clear T_21
                have SS_22 := Lib.hid (SS_21.out.below hb22)
                clear SS_21
                have SK_22 := Lib.hid (SK_21.out.below hb22)
                clear SK_21
                have Z1_22 := Lib.hid (Z1_21.out.below hb22)
                clear Z1_21
                have Z2_22 := Lib.hid (Z2.out.below hb22)
                clear Z2
                go_wp2_with fail
                refine (HM1.out _).mono ?_
                rintro e w23 ⟨rfl, hb23⟩
                have z23 := hb23.size
                have q23 : Below w.heap.size w w23 := q22.trans (hb23.mono q22.size)
                have C_23 := Lib.hid (C_22.out.below hb23)
                clear C_22
                have T_23 := Lib.hid (T_22.out.below hb23)
                clear T_22
                have SS_23 := Lib.hid (SS_22.out.below hb23)
                clear SS_22
                have SK_23 := Lib.hid (SK_22.out.below hb23)
                clear SK_22
                have Z1_23 := Lib.hid (Z1_22.out.below hb23)
                clear Z1_22
                have Z2_23 := Lib.hid (Z2_22.out.below hb23)
                clear Z2_22
                go_wp2_with fail
                refine (HM2.out _).mono ?_
                rintro e w24 ⟨rfl, hb24⟩
                have z24 := hb24.size
                have q24 : Below w.heap.size w w24 := q23.trans (hb24.mono q23.size)
                have C_24 := Lib.hid (C_23.out.below hb24)
                clear C_23
                have T_24 := Lib.hid (T_23.out.below hb24)
                clear T_23
                have SS_24 := Lib.hid (SS_23.out.below hb24)
                clear SS_23
                have SK_24 := Lib.hid (SK_23.out.below hb24)
                clear SK_23
                have Z1_24 := Lib.hid (Z1_23.out.below hb24)
                clear Z1_23
                have Z2_24 := Lib.hid (Z2_23.out.below hb24)
                clear Z2_23
                go_wp2
                go_ret
                exact ⟨rfl, q24⟩
  · rw [decide_eq_true (by omega)] at hbig
    have HBIG := Lib.hid hbig
    clear hbig hc0 hw0 hT
    go_enter Tryz.func5, Tryz.ntmps5
    go_wp2_with fail
    refine (HBIG.out _).mono ?_
    rintro e w' ⟨rfl, rfl⟩
    go_wp2
    go_ret
    exact ⟨rfl, Below.refl _ _⟩

set_option maxRecDepth 100000 in
theorem lifted (os : Os) (started : os.Started) (H : Type) (enc : TypeId × Value → H) :
    ReturnsInHanded {} Tryz.checked os 5 .any (fun w args => (Rows.fnTorusesSpec.pre enc Tryz.prog Tryz.f5 Rows.fnTorusesRow.domain false w args ∧ laidMetH Tryz.prog tabs w) ∧ sizedMet enc Tryz.prog Tryz.f5 (OpenSpec.ofChange Rows.fnTorusesSpec) false w args) (Rows.fnTorusesSpec.post enc Tryz.prog Tryz.f5 false true false false) := by
  refine returnsInHanded_of_change_and (C := Tryz.checked) (X := fun w _ => laidMetH Tryz.prog tabs w) (fun _ _ _ hh h => h.of_heap hh) Tryz.own started (by kernel_rfl) Tryz.func5
    (ChangeSpec.witness_shaped (enc := enc) (C := Tryz.checked) (os := os) (X := fun w _ => laidMetH Tryz.prog tabs w) false (World.laidAll Tryz.prog os tabs) #[.slice none 0 0] 8 (World.laidAll_os _ _ _)
      (World.shaped_of_ZipB (by kernel_rfl) (by kernel_rfl)) (by kernel_rfl) (by kernel_rfl) (by kernel_rfl)
      (by rw [MakeChecks.laidMetH_plain _ _ _ (by kernel_rfl)]; exact laidMet_laidAll _ (by kernel_rfl) (by kernel_rfl))) ?_
  intro W base args ds gs before hval0 hW hcnd _ hL _
  have hval : ∀ (j : Nat) t v, Tryz.f5.params[j]? = some t → args[j]? = some v → Value.okWide Tryz.prog W .any base t v := hval0
  have hW' := hW
  obtain ⟨p, q, hA0, hV, rfl, hfz, hnd⟩ := hW
  have hA : DataW.TrodAll enc Tryz.prog W 0 (fun _ => true) true Tryz.f5.params.toList args.toList ds p := hA0
  rw [Tryz.params5] at hA hval
  obtain ⟨v0, vs0, d0, ds0, p0, q0, hargs, rfl, rfl, h0, r0⟩ := trodAll_cons hA
  obtain ⟨rfl, rfl, rfl⟩ := trodAll_nil r0
  obtain rfl : args = #[v0] := by cases args; simp_all
  obtain ⟨rfl, rfl⟩ := trodVars_none hV
  obtain ⟨ad0, cap0, xs0, rfl, hm0, hc0, hw0⟩ := openBts (hval 0 22 v0 rfl rfl) h0
  clear hA0 hval0
  refine (walk W ad0 cap0 xs0 hm0 hc0 hw0 (tab_of_laid hL)).mono fun e W' ⟨he, hb⟩ => ?_
  subst he
  exact ⟨_, rfl, law_post rfl hW' hb (by rw [Tryz.params5]; exact readable_all (by kernel_rfl)) (by kernel_rfl) (by kernel_rfl) rfl⟩

theorem proved : Rows.FnTorusesSaid :=
  OpenClaim.holds_of_wide 5 Tryz.f5 rfl rfl rfl rfl rfl rfl rfl ⟨rfl, rfl, rfl, rfl, rfl⟩ rfl rfl rfl rfl rfl (by kernel_rfl) Tryz.func5 (by kernel_rfl)
    (of_decide_eq_true (by kernel_rfl)) (by unfold Func.isWrapper; first | (rw [if_pos (by decide +kernel)]; kernel_rfl) | (rw [if_neg (by decide +kernel)]; exact ⟨rfl, rfl⟩))
    (fun os started H enc _ => lifted os started H enc)

theorem card : Rows.FnTorusesCardSaid :=
  Claim7.holds_tied_plain_at .later [] [.data, .data] true (true, "1f54207e01dd30c8355ef7b84748b97812893aadfc7b01de948ac43e2da837ab") false proved (fun _ h => by cases h) (by kernel_rfl) (fun _ h => by cases h) fnToruses_row_tie rfl ⟨rfl, rfl⟩ (by kernel_rfl) rfl
    (fun f fn hf hfn => by
      obtain rfl : f = 5 := Option.some.inj ((show Tryz.prog.funcNamed "loop.example/g03400/laws.FnToruses" = some 5 by kernel_rfl).symm.trans hf) |>.symm
      obtain rfl : fn = Tryz.f5 := (Option.some.inj (Tryz.func5.symm.trans hfn)).symm
      exact ⟨by kernel_rfl, fun j t ht => by
        have hm : t ∈ Tryz.f5.params.toList := Array.mem_toList_iff.2 (Array.mem_of_getElem? ht)
        have hall : (Tryz.f5.params.toList.all fun u => !Tryz.prog.wantsStandIn u) = true := by kernel_rfl
        exact (show Tryz.prog.wantsStandIn t = false by simpa using List.all_eq_true.1 hall t hm)⟩)
    (by kernel_rfl)
end Go.Proofs.YtajmdgcnnipdoaaGreatDoor.lawFTor
