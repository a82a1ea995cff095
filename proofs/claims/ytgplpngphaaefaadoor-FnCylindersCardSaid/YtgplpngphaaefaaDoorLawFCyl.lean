/- LawFCyl: FnCylinders holds for every code, where the library's tables lie as their initialisers lay them (the card ties that to the program's text). -/
import Derived.Test.YtgplpngphaaefaaDoorFrameBts
import Derived.Test.YtgplpngphaaefaaDoorSameI
import Derived.Test.YtgplpngphaaefaaDoorDrawC
import Derived.Test.YtgplpngphaaefaaDoorCylT
import Derived.Test.YtgplpngphaaefaaDoorTied
import Derived.Test.YtgplpngphaaefaaDoorTie
import Derived.Test.YtgplpngphaaefaaDoorCards
import Derived.SevenTiedAt
namespace Go.Proofs.YtgplpngphaaefaaDoor.lawFCyl
open Go.ChangeShapes Go.WideShapes Go.ChangeAt Go.RowKit

theorem implLog_b (ad : Option Addr) (c : Nat) (xs : List Int) (w : World) (hn : xs.length ≤ 1048576) (hc : CellsAt w ad (ints xs)) :
    Calls Tryd.prog 18 #[.slice ad xs.length c] w fun e w' => LogSays xs e ∧ Below w.heap.size w w' :=
  (implLog ad c xs w hn hc).mono fun _ _ ⟨h, n, hw⟩ => ⟨h, by rw [hw]; exact below_drewN (Below.refl _ _) n⟩
theorem specLog_b (ad : Option Addr) (c : Nat) (xs : List Int) (w : World) (hn : xs.length ≤ 1048576) (hc : CellsAt w ad (ints xs)) :
    Calls Tryd.prog 19 #[.slice ad xs.length c] w fun e w' => LogSays xs e ∧ Below w.heap.size w w' :=
  (specLog ad c xs w hn hc).mono fun _ _ ⟨h, n, hw⟩ => ⟨h, by rw [hw]; exact below_drewN (Below.refl _ _) n⟩
theorem implLog_yes (ad : Option Addr) (c : Nat) (xs : List Int) (w : World) (hn : xs.length ≤ 1048576) (hc : CellsAt w ad (ints xs)) (h : LogTo xs xs.length) :
    Calls Tryd.prog 18 #[.slice ad xs.length c] w fun e w' => e = .returned (.bool true) ∧ Below w.heap.size w w' :=
  (implLog_b ad c xs w hn hc).mono fun _ _ ⟨⟨b, hb, hi⟩, hw⟩ => ⟨by rw [hb, hi.2 h], hw⟩
theorem implLog_eq (ad : Option Addr) (c : Nat) (xs : List Int) : ∃ b : Bool, (∀ w, xs.length ≤ 1048576 → CellsAt w ad (ints xs) → Calls Tryd.prog 18 #[.slice ad xs.length c] w fun e w' => e = .returned (.bool b) ∧ Below w.heap.size w w') ∧
    ∀ w, xs.length ≤ 1048576 → CellsAt w ad (ints xs) → Calls Tryd.prog 19 #[.slice ad xs.length c] w fun e w' => e = .returned (.bool b) ∧ Below w.heap.size w w' := by
  by_cases h : LogTo xs xs.length
  · exact ⟨true, fun w hn hc => (implLog_b ad c xs w hn hc).mono fun _ _ ⟨⟨b, hb, hi⟩, hw⟩ => ⟨by rw [hb, hi.2 h], hw⟩, fun w hn hc => (specLog_b ad c xs w hn hc).mono fun _ _ ⟨⟨b, hb, hi⟩, hw⟩ => ⟨by rw [hb, hi.2 h], hw⟩⟩
  · have no : ∀ b : Bool, (b = true ↔ LogTo xs xs.length) → b = false := fun b hi => by cases b; rfl; exact absurd (hi.1 rfl) h
    exact ⟨false, fun w hn hc => (implLog_b ad c xs w hn hc).mono fun _ _ ⟨⟨b, hb, hi⟩, hw⟩ => ⟨by rw [hb, no b hi], hw⟩, fun w hn hc => (specLog_b ad c xs w hn hc).mono fun _ _ ⟨⟨b, hb, hi⟩, hw⟩ => ⟨by rw [hb, no b hi], hw⟩⟩

set_option maxRecDepth 100000 in
set_option maxHeartbeats 4000000 in
theorem walk (w : World) (ad0 : Option Addr) (cap0 : Nat) (bs0 : List Nat) (hm0 : bs0.length ≤ maxLen) (hc0 : CellsAt w ad0 (bts bs0)) (hw0 : ∀ b ∈ bs0, b < 256) (hT : Tab w) :
    Calls Tryd.prog 4 #[.slice ad0 bs0.length cap0] w fun e w' => e = .returned (.bool true) ∧ Below w.heap.size w w' := by
  unfold maxLen at hm0
  have hbig := fun w => big_any ad0 cap0 bs0 w (by omega)
  by_cases hn : bs0.length ≤ 1048576
  · rw [decide_eq_false (by omega)] at hbig
    have HBIG := Lib.hid hbig
    have HW := Lib.hid hw0
    clear hbig hw0
    have q0 : Below w.heap.size w w := Below.refl _ _
    have C := Lib.hid (hc0)
    clear hc0
    have T := Lib.hid (hT)
    clear hT
    go_enter Tryd.func4, Tryd.ntmps4
    go_wp2_with fail
    refine (HBIG.out _).mono ?_
    rintro e w' ⟨rfl, rfl⟩
    go_wp2_with fail
    refine (drawCC _ _ _ _ hn HW.out C.out).mono ?_
    rintro e w1 ⟨x, y, rfl, hx, hy, hb1⟩
    have z1 := hb1.size
    have q1 : Below w.heap.size w w1 := q0.trans (hb1.mono q0.size)
    have C_1 := Lib.hid (C.out.below hb1)
    clear C
    have T_1 := Lib.hid (T.out.below hb1)
    clear T
    have HCR := Lib.hid (fun h => cc_trace hx hy h)
    have HI := Lib.hid (fun w hT => implCC x y w hT)
    have HS := Lib.hid (fun w => specCC x y w)
    obtain ⟨c, hcc⟩ : ∃ c, c = ccR x y := ⟨_, rfl⟩
    rw [← hcc] at HCR HI HS
    have nnc : (c != c) = false := by simp
    clear hcc
    go_wp2_with fail
    refine (HI.out _ T_1.out).mono ?_
    rintro e w2 ⟨rfl, hb2⟩
    have z2 := hb2.size
    have q2 : Below w.heap.size w w2 := q1.trans (hb2.mono q1.size)
    have C_2 := Lib.hid (C_1.out.below hb2)
    clear C_1
    have T_2 := Lib.hid (T_1.out.below hb2)
    clear T_1
    go_wp2_with fail
    refine (HS.out _).mono ?_
    rintro e w3 ⟨rfl, hb3⟩
    have z3 := hb3.size
    have q3 : Below w.heap.size w w3 := q2.trans (hb3.mono q2.size)
    have C_3 := Lib.hid (C_2.out.below hb3)
    clear C_2
    have T_3 := Lib.hid (T_2.out.below hb3)
    clear T_2
    go_wp2_with fail
    refine (implCylP x y _).mono ?_
    rintro e w4 ⟨a1, c1, rfl, ho1, hb4⟩
    have z4 := hb4.size
    have q4 : Below w.heap.size w w4 := q3.trans (hb4.mono q3.size)
    have C_4 := Lib.hid (C_3.out.below hb4)
    clear C_3
    have T_4 := Lib.hid (T_3.out.below hb4)
    clear T_3
    have P1 := Lib.hid (ownsRow_cellsAt ho1)
    clear ho1
    go_wp2_with fail
    refine (specCylP x y _).mono ?_
    rintro e w5 ⟨a2, c2, rfl, ho2, hb5⟩
    have z5 := hb5.size
    have q5 : Below w.heap.size w w5 := q4.trans (hb5.mono q4.size)
    have C_5 := Lib.hid (C_4.out.below hb5)
    clear C_4
    have T_5 := Lib.hid (T_4.out.below hb5)
    clear T_4
    have P1_5 := Lib.hid (P1.out.below hb5)
    clear P1
    have P2 := Lib.hid (ownsRow_cellsAt ho2)
    clear ho2
    have hlP := cylL_length x y
    go_wp2_with fail
    refine (sameInts_same _ _ _ _ (cylL x y) _ (by omega) P1_5.out P2.out).mono ?_
    rintro e w6 ⟨rfl, hb6⟩
    have z6 := hb6.size
    have q6 : Below w.heap.size w w6 := q5.trans (hb6.mono q5.size)
    have C_6 := Lib.hid (C_5.out.below hb6)
    clear C_5
    have T_6 := Lib.hid (T_5.out.below hb6)
    clear T_5
    have P1_6 := Lib.hid (P1_5.out.below hb6)
    clear P1_5
    have P2_6 := Lib.hid (P2.out.below hb6)
    clear P2
    clear P1_6 P2_6
    clear hlP
    by_cases hc0 : 0 ≤ c
    · have hd0 : decide (0 ≤ c) = true := decide_eq_true hc0
      by_cases hc2 : c < 2000
      · have hd2 : decide (c < 2000) = true := decide_eq_true hc2
        have hcy := HCR.out hc0
        have HCY := Lib.hid (fun w => implCyl x y w)
        rw [← hcy] at HCY
        clear hcy
        go_wp2_with fail
        refine (HCY.out _).mono ?_
        rintro e w7 ⟨rfl, hb7⟩
        have z7 := hb7.size
        have q7 : Below w.heap.size w w7 := q6.trans (hb7.mono q6.size)
        have C_7 := Lib.hid (C_6.out.below hb7)
        clear C_6
        have T_7 := Lib.hid (T_6.out.below hb7)
        clear T_6
        go_wp2_with fail
        refine (drawCyl _ _ _ _ hn HW.out C_7.out).mono ?_
        rintro e w8 ⟨p, q, rfl, hp, hq, hb8⟩
        have z8 := hb8.size
        have q8 : Below w.heap.size w w8 := q7.trans (hb8.mono q7.size)
        have C_8 := Lib.hid (C_7.out.below hb8)
        clear C_7
        have T_8 := Lib.hid (T_7.out.below hb8)
        clear T_7
        go_wp2_with fail
        refine (implGrow p q _).mono ?_
        rintro e w9 ⟨a3, c3, rfl, ho3, hb9⟩
        have z9 := hb9.size
        have q9 : Below w.heap.size w w9 := q8.trans (hb9.mono q8.size)
        have C_9 := Lib.hid (C_8.out.below hb9)
        clear C_8
        have T_9 := Lib.hid (T_8.out.below hb9)
        clear T_8
        have G := Lib.hid (ownsRow_cellsAt ho3)
        clear ho3
        have HE := Lib.hid (grow_even p q)
        have hlG := growL_length p q
        have hil := ints_length (growL p q)
        have nnd : (cylCount p q != cylCount p q) = false := by simp
        go_wp2_with fail
        refine (implCyl p q _).mono ?_
        rintro e w10 ⟨rfl, hb10⟩
        have z10 := hb10.size
        have q10 : Below w.heap.size w w10 := q9.trans (hb10.mono q9.size)
        have C_10 := Lib.hid (C_9.out.below hb10)
        clear C_9
        have T_10 := Lib.hid (T_9.out.below hb10)
        clear T_9
        have G_10 := Lib.hid (G.out.below hb10)
        clear G
        go_wp2_with fail
        refine (specCyl p q _).mono ?_
        rintro e w11 ⟨rfl, hb11⟩
        have z11 := hb11.size
        have q11 : Below w.heap.size w w11 := q10.trans (hb11.mono q10.size)
        have C_11 := Lib.hid (C_10.out.below hb11)
        clear C_10
        have T_11 := Lib.hid (T_10.out.below hb11)
        clear T_10
        have G_11 := Lib.hid (G_10.out.below hb11)
        clear G_10
        go_wp2_with fail
        refine (specGrow p q _).mono ?_
        rintro e w12 ⟨a4, c4, rfl, ho4, hb12⟩
        have z12 := hb12.size
        have q12 : Below w.heap.size w w12 := q11.trans (hb12.mono q11.size)
        have C_12 := Lib.hid (C_11.out.below hb12)
        clear C_11
        have T_12 := Lib.hid (T_11.out.below hb12)
        clear T_11
        have G_12 := Lib.hid (G_11.out.below hb12)
        clear G_11
        have G2 := Lib.hid (ownsRow_cellsAt ho4)
        clear ho4
        go_wp2_with fail
        refine (sameInts_same _ _ _ _ (growL p q) _ (by omega) G_12.out G2.out).mono ?_
        rintro e w13 ⟨rfl, hb13⟩
        have z13 := hb13.size
        have q13 : Below w.heap.size w w13 := q12.trans (hb13.mono q12.size)
        have C_13 := Lib.hid (C_12.out.below hb13)
        clear C_12
        have T_13 := Lib.hid (T_12.out.below hb13)
        clear T_12
        have G_13 := Lib.hid (G_12.out.below hb13)
        clear G_12
        have G2_13 := Lib.hid (G2.out.below hb13)
        clear G2
        clear G2_13
        obtain ⟨L, hL⟩ : ∃ L, L = growL p q := ⟨_, rfl⟩
        rw [← hL] at HE hlG hil G_13 ⊢
        clear hL nnd
        obtain ⟨wo, rfl⟩ : ∃ wo, wo = w13 := ⟨_, rfl⟩
        have HE0 := Lib.hid (ownsRow_empty wo 3 1)
        have HB0 := Lib.hid (show Below wo.heap.size wo (wo.alloc (.cells #[] 3)) from (Below.refl _ _).alloc (Nat.le_refl _) _)
        go_wp2
        go_loopw [9, 10] (fun v i wr => ∃ k : Nat, 2 * k ≤ L.length ∧ i = .int .i64 ((2 * k + 1 : Nat) : Int) ∧ wr.ownsRow wo.heap.size 3 1 v k (ints (evenTo L k)) ∧ Below wo.heap.size wo wr) (fun _ i _ => L.length + 2 - (intOf i).toNat)
        case atStart => exact ⟨0, by omega, rfl, HE0.out, HB0.out⟩
        case round =>
          obtain ⟨k, hk, rfl, hown, hbr⟩ := hrel
          have HO := Lib.hid hown
          have HB := Lib.hid hbr
          have hsz := hbr.size
          clear hown
          obtain ⟨j, hj⟩ : ∃ j, j = 2 * k + 1 := ⟨_, rfl⟩
          rw [← hj]
          by_cases hlt : j < L.length
          · have hs := evenTo_snoc L k
            rw [← hj, List.getD_eq_getElem?_getD, List.getElem?_eq_getElem hlt, Option.getD_some] at hs
            have HJ := Lib.hid hj
            have hp : 0 < (ints L).length := by omega
            clear hj
            obtain ⟨g, off, rfl, hg, hcc⟩ := (G_13.out.below hbr).open hp
            have x0 := hcc j _ (ints_at L j hlt)
            generalize L[j] = z at x0 hs
            have HS2 := Lib.hid hs
            clear hcc hs hbr hil
            go_wp2_with (at_builtin; refine wpList_app1 rfl (.tmp 82) (.tmp 87) 29 rfl wo.heap.size 3 _ 1 8 Tryd.elemInt _ k _ _ _ _ rfl rfl rfl HO.out (by rfl) (by simp [Value.oneCell']) (by unfold maxLen; omega) (by omega) (by omega) ?_; intro g' cap w3 q1 q2 q3 q4 q5 q6)
            go_roundw
            case rel =>
              have hj := HJ.out
              refine ⟨k + 1, by omega, by rw [show 2 * (k + 1) + 1 = j + 2 from by omega]; go_num, ?_, HB.out.trans q2⟩
              rw [HS2.out, ints_append]
              exact q1
            case measure => simp [intOf]; omega
          · have hk2 : k = L.length / 2 := by omega
            obtain ⟨ae, ce, rfl, hce⟩ := ownsRow_cells HO.out
            rw [hk2] at hce
            have HCE := Lib.hid hce
            have he1 : k = (evenTo L (L.length / 2)).length := by rw [evenTo_length]; exact hk2
            generalize evenTo L (L.length / 2) = E at HE HCE he1
            subst he1
            have hjd : decide (j < L.length) = false := decide_eq_false hlt
            have hlE : E.length ≤ 12 := by omega
            clear hce HO HE0 HB0 hj hk2 hk hil
            obtain ⟨w14, rfl⟩ : ∃ x, x = wr := ⟨_, rfl⟩
            have hb14 := HB.out
            have z14 := hb14.size
            have q14 : Below w.heap.size w w14 := q13.trans (hb14.mono q13.size)
            have C_14 := Lib.hid (C_13.out.below hb14)
            clear C_13
            have T_14 := Lib.hid (T_13.out.below hb14)
            clear T_13
            have G_14 := Lib.hid (G_13.out.below hb14)
            clear G_13
            go_wp2_with fail
            refine (drawLog _ _ _ _ hn HW.out C_14.out).mono ?_
            rintro e w15 ⟨a5, c5, l, rfl, hl15, hcl, hb15⟩
            have z15 := hb15.size
            have q15 : Below w.heap.size w w15 := q14.trans (hb15.mono q14.size)
            have C_15 := Lib.hid (C_14.out.below hb15)
            clear C_14
            have T_15 := Lib.hid (T_14.out.below hb15)
            clear T_14
            have G_15 := Lib.hid (G_14.out.below hb15)
            clear G_14
            have E_15 := Lib.hid (HCE.out.below hb15)
            clear HCE
            have LL := Lib.hid (hcl)
            clear hcl
            go_wp2_with fail
            refine (implLog_yes _ _ E _ (by omega) E_15.out HE.out).mono ?_
            rintro e w16 ⟨rfl, hb16⟩
            have z16 := hb16.size
            have q16 : Below w.heap.size w w16 := q15.trans (hb16.mono q15.size)
            have C_16 := Lib.hid (C_15.out.below hb16)
            clear C_15
            have T_16 := Lib.hid (T_15.out.below hb16)
            clear T_15
            have G_16 := Lib.hid (G_15.out.below hb16)
            clear G_15
            have E_16 := Lib.hid (E_15.out.below hb16)
            clear E_15
            have LL_16 := Lib.hid (LL.out.below hb16)
            clear LL
            obtain ⟨bb, hli, hls⟩ := implLog_eq a5 c5 l
            have HLI := Lib.hid hli
            have HLS := Lib.hid hls
            clear hli hls
            go_wp2_with fail
            refine (HLI.out _ (by omega) LL_16.out).mono ?_
            rintro e w17 ⟨rfl, hb17⟩
            have z17 := hb17.size
            have q17 : Below w.heap.size w w17 := q16.trans (hb17.mono q16.size)
            have C_17 := Lib.hid (C_16.out.below hb17)
            clear C_16
            have T_17 := Lib.hid (T_16.out.below hb17)
            clear T_16
            have G_17 := Lib.hid (G_16.out.below hb17)
            clear G_16
            have E_17 := Lib.hid (E_16.out.below hb17)
            clear E_16
            have LL_17 := Lib.hid (LL_16.out.below hb17)
            clear LL_16
            go_wp2_with fail
            refine (HLS.out _ (by omega) LL_17.out).mono ?_
            rintro e w18 ⟨rfl, hb18⟩
            have z18 := hb18.size
            have q18 : Below w.heap.size w w18 := q17.trans (hb18.mono q17.size)
            have C_18 := Lib.hid (C_17.out.below hb18)
            clear C_17
            have T_18 := Lib.hid (T_17.out.below hb18)
            clear T_17
            have G_18 := Lib.hid (G_17.out.below hb18)
            clear G_17
            have E_18 := Lib.hid (E_17.out.below hb18)
            clear E_17
            have LL_18 := Lib.hid (LL_17.out.below hb18)
            clear LL_17
            have hbb : (bb == bb) = true := by cases bb <;> rfl
            go_wp2
            go_ret
            exact ⟨rfl, q18⟩
      · have hd2 : decide (c < 2000) = false := decide_eq_false hc2
        go_wp2_with fail
        refine (drawCyl _ _ _ _ hn HW.out C_6.out).mono ?_
        rintro e w7 ⟨p, q, rfl, hp, hq, hb7⟩
        have z7 := hb7.size
        have q7 : Below w.heap.size w w7 := q6.trans (hb7.mono q6.size)
        have C_7 := Lib.hid (C_6.out.below hb7)
        clear C_6
        have T_7 := Lib.hid (T_6.out.below hb7)
        clear T_6
        go_wp2_with fail
        refine (implGrow p q _).mono ?_
        rintro e w8 ⟨a3, c3, rfl, ho3, hb8⟩
        have z8 := hb8.size
        have q8 : Below w.heap.size w w8 := q7.trans (hb8.mono q7.size)
        have C_8 := Lib.hid (C_7.out.below hb8)
        clear C_7
        have T_8 := Lib.hid (T_7.out.below hb8)
        clear T_7
        have G := Lib.hid (ownsRow_cellsAt ho3)
        clear ho3
        have HE := Lib.hid (grow_even p q)
        have hlG := growL_length p q
        have hil := ints_length (growL p q)
        have nnd : (cylCount p q != cylCount p q) = false := by simp
        go_wp2_with fail
        refine (implCyl p q _).mono ?_
        rintro e w9 ⟨rfl, hb9⟩
        have z9 := hb9.size
        have q9 : Below w.heap.size w w9 := q8.trans (hb9.mono q8.size)
        have C_9 := Lib.hid (C_8.out.below hb9)
        clear C_8
        have T_9 := Lib.hid (T_8.out.below hb9)
        clear T_8
        have G_9 := Lib.hid (G.out.below hb9)
        clear G
        go_wp2_with fail
        refine (specCyl p q _).mono ?_
        rintro e w10 ⟨rfl, hb10⟩
        have z10 := hb10.size
        have q10 : Below w.heap.size w w10 := q9.trans (hb10.mono q9.size)
        have C_10 := Lib.hid (C_9.out.below hb10)
        clear C_9
        have T_10 := Lib.hid (T_9.out.below hb10)
        clear T_9
        have G_10 := Lib.hid (G_9.out.below hb10)
        clear G_9
        go_wp2_with fail
        refine (specGrow p q _).mono ?_
        rintro e w11 ⟨a4, c4, rfl, ho4, hb11⟩
        have z11 := hb11.size
        have q11 : Below w.heap.size w w11 := q10.trans (hb11.mono q10.size)
        have C_11 := Lib.hid (C_10.out.below hb11)
        clear C_10
        have T_11 := Lib.hid (T_10.out.below hb11)
        clear T_10
        have G_11 := Lib.hid (G_10.out.below hb11)
        clear G_10
        have G2 := Lib.hid (ownsRow_cellsAt ho4)
        clear ho4
        go_wp2_with fail
        refine (sameInts_same _ _ _ _ (growL p q) _ (by omega) G_11.out G2.out).mono ?_
        rintro e w12 ⟨rfl, hb12⟩
        have z12 := hb12.size
        have q12 : Below w.heap.size w w12 := q11.trans (hb12.mono q11.size)
        have C_12 := Lib.hid (C_11.out.below hb12)
        clear C_11
        have T_12 := Lib.hid (T_11.out.below hb12)
        clear T_11
        have G_12 := Lib.hid (G_11.out.below hb12)
        clear G_11
        have G2_12 := Lib.hid (G2.out.below hb12)
        clear G2
        clear G2_12
        obtain ⟨L, hL⟩ : ∃ L, L = growL p q := ⟨_, rfl⟩
        rw [← hL] at HE hlG hil G_12 ⊢
        clear hL nnd
        obtain ⟨wo, rfl⟩ : ∃ wo, wo = w12 := ⟨_, rfl⟩
        have HE0 := Lib.hid (ownsRow_empty wo 3 1)
        have HB0 := Lib.hid (show Below wo.heap.size wo (wo.alloc (.cells #[] 3)) from (Below.refl _ _).alloc (Nat.le_refl _) _)
        go_wp2
        go_loopw [9, 10] (fun v i wr => ∃ k : Nat, 2 * k ≤ L.length ∧ i = .int .i64 ((2 * k + 1 : Nat) : Int) ∧ wr.ownsRow wo.heap.size 3 1 v k (ints (evenTo L k)) ∧ Below wo.heap.size wo wr) (fun _ i _ => L.length + 2 - (intOf i).toNat)
        case atStart => exact ⟨0, by omega, rfl, HE0.out, HB0.out⟩
        case round =>
          obtain ⟨k, hk, rfl, hown, hbr⟩ := hrel
          have HO := Lib.hid hown
          have HB := Lib.hid hbr
          have hsz := hbr.size
          clear hown
          obtain ⟨j, hj⟩ : ∃ j, j = 2 * k + 1 := ⟨_, rfl⟩
          rw [← hj]
          by_cases hlt : j < L.length
          · have hs := evenTo_snoc L k
            rw [← hj, List.getD_eq_getElem?_getD, List.getElem?_eq_getElem hlt, Option.getD_some] at hs
            have HJ := Lib.hid hj
            have hp : 0 < (ints L).length := by omega
            clear hj
            obtain ⟨g, off, rfl, hg, hcc⟩ := (G_12.out.below hbr).open hp
            have x0 := hcc j _ (ints_at L j hlt)
            generalize L[j] = z at x0 hs
            have HS2 := Lib.hid hs
            clear hcc hs hbr hil
            go_wp2_with (at_builtin; refine wpList_app1 rfl (.tmp 82) (.tmp 87) 29 rfl wo.heap.size 3 _ 1 8 Tryd.elemInt _ k _ _ _ _ rfl rfl rfl HO.out (by rfl) (by simp [Value.oneCell']) (by unfold maxLen; omega) (by omega) (by omega) ?_; intro g' cap w3 q1 q2 q3 q4 q5 q6)
            go_roundw
            case rel =>
              have hj := HJ.out
              refine ⟨k + 1, by omega, by rw [show 2 * (k + 1) + 1 = j + 2 from by omega]; go_num, ?_, HB.out.trans q2⟩
              rw [HS2.out, ints_append]
              exact q1
            case measure => simp [intOf]; omega
          · have hk2 : k = L.length / 2 := by omega
            obtain ⟨ae, ce, rfl, hce⟩ := ownsRow_cells HO.out
            rw [hk2] at hce
            have HCE := Lib.hid hce
            have he1 : k = (evenTo L (L.length / 2)).length := by rw [evenTo_length]; exact hk2
            generalize evenTo L (L.length / 2) = E at HE HCE he1
            subst he1
            have hjd : decide (j < L.length) = false := decide_eq_false hlt
            have hlE : E.length ≤ 12 := by omega
            clear hce HO HE0 HB0 hj hk2 hk hil
            obtain ⟨w13, rfl⟩ : ∃ x, x = wr := ⟨_, rfl⟩
            have hb13 := HB.out
            have z13 := hb13.size
            have q13 : Below w.heap.size w w13 := q12.trans (hb13.mono q12.size)
            have C_13 := Lib.hid (C_12.out.below hb13)
            clear C_12
            have T_13 := Lib.hid (T_12.out.below hb13)
            clear T_12
            have G_13 := Lib.hid (G_12.out.below hb13)
            clear G_12
            go_wp2_with fail
            refine (drawLog _ _ _ _ hn HW.out C_13.out).mono ?_
            rintro e w14 ⟨a5, c5, l, rfl, hl15, hcl, hb14⟩
            have z14 := hb14.size
            have q14 : Below w.heap.size w w14 := q13.trans (hb14.mono q13.size)
            have C_14 := Lib.hid (C_13.out.below hb14)
            clear C_13
            have T_14 := Lib.hid (T_13.out.below hb14)
            clear T_13
            have G_14 := Lib.hid (G_13.out.below hb14)
            clear G_13
            have E_14 := Lib.hid (HCE.out.below hb14)
            clear HCE
            have LL := Lib.hid (hcl)
            clear hcl
            go_wp2_with fail
            refine (implLog_yes _ _ E _ (by omega) E_14.out HE.out).mono ?_
            rintro e w15 ⟨rfl, hb15⟩
            have z15 := hb15.size
            have q15 : Below w.heap.size w w15 := q14.trans (hb15.mono q14.size)
            have C_15 := Lib.hid (C_14.out.below hb15)
            clear C_14
            have T_15 := Lib.hid (T_14.out.below hb15)
            clear T_14
            have G_15 := Lib.hid (G_14.out.below hb15)
            clear G_14
            have E_15 := Lib.hid (E_14.out.below hb15)
            clear E_14
            have LL_15 := Lib.hid (LL.out.below hb15)
            clear LL
            obtain ⟨bb, hli, hls⟩ := implLog_eq a5 c5 l
            have HLI := Lib.hid hli
            have HLS := Lib.hid hls
            clear hli hls
            go_wp2_with fail
            refine (HLI.out _ (by omega) LL_15.out).mono ?_
            rintro e w16 ⟨rfl, hb16⟩
            have z16 := hb16.size
            have q16 : Below w.heap.size w w16 := q15.trans (hb16.mono q15.size)
            have C_16 := Lib.hid (C_15.out.below hb16)
            clear C_15
            have T_16 := Lib.hid (T_15.out.below hb16)
            clear T_15
            have G_16 := Lib.hid (G_15.out.below hb16)
            clear G_15
            have E_16 := Lib.hid (E_15.out.below hb16)
            clear E_15
            have LL_16 := Lib.hid (LL_15.out.below hb16)
            clear LL_15
            go_wp2_with fail
            refine (HLS.out _ (by omega) LL_16.out).mono ?_
            rintro e w17 ⟨rfl, hb17⟩
            have z17 := hb17.size
            have q17 : Below w.heap.size w w17 := q16.trans (hb17.mono q16.size)
            have C_17 := Lib.hid (C_16.out.below hb17)
            clear C_16
            have T_17 := Lib.hid (T_16.out.below hb17)
            clear T_16
            have G_17 := Lib.hid (G_16.out.below hb17)
            clear G_16
            have E_17 := Lib.hid (E_16.out.below hb17)
            clear E_16
            have LL_17 := Lib.hid (LL_16.out.below hb17)
            clear LL_16
            have hbb : (bb == bb) = true := by cases bb <;> rfl
            go_wp2
            go_ret
            exact ⟨rfl, q17⟩
    · have hd0 : decide (0 ≤ c) = false := decide_eq_false hc0
      go_wp2_with fail
      refine (drawCyl _ _ _ _ hn HW.out C_6.out).mono ?_
      rintro e w7 ⟨p, q, rfl, hp, hq, hb7⟩
      have z7 := hb7.size
      have q7 : Below w.heap.size w w7 := q6.trans (hb7.mono q6.size)
      have C_7 := Lib.hid (C_6.out.below hb7)
      clear C_6
      have T_7 := Lib.hid (T_6.out.below hb7)
      clear T_6
      go_wp2_with fail
      refine (implGrow p q _).mono ?_
      rintro e w8 ⟨a3, c3, rfl, ho3, hb8⟩
      have z8 := hb8.size
      have q8 : Below w.heap.size w w8 := q7.trans (hb8.mono q7.size)
      have C_8 := Lib.hid (C_7.out.below hb8)
      clear C_7
      have T_8 := Lib.hid (T_7.out.below hb8)
      clear T_7
      have G := Lib.hid (ownsRow_cellsAt ho3)
      clear ho3
      have HE := Lib.hid (grow_even p q)
      have hlG := growL_length p q
      have hil := ints_length (growL p q)
      have nnd : (cylCount p q != cylCount p q) = false := by simp
      go_wp2_with fail
      refine (implCyl p q _).mono ?_
      rintro e w9 ⟨rfl, hb9⟩
      have z9 := hb9.size
      have q9 : Below w.heap.size w w9 := q8.trans (hb9.mono q8.size)
      have C_9 := Lib.hid (C_8.out.below hb9)
      clear C_8
      have T_9 := Lib.hid (T_8.out.below hb9)
      clear T_8
      have G_9 := Lib.hid (G.out.below hb9)
      clear G
      go_wp2_with fail
      refine (specCyl p q _).mono ?_
      rintro e w10 ⟨rfl, hb10⟩
      have z10 := hb10.size
      have q10 : Below w.heap.size w w10 := q9.trans (hb10.mono q9.size)
      have C_10 := Lib.hid (C_9.out.below hb10)
      clear C_9
      have T_10 := Lib.hid (T_9.out.below hb10)
      clear T_9
      have G_10 := Lib.hid (G_9.out.below hb10)
      clear G_9
      go_wp2_with fail
      refine (specGrow p q _).mono ?_
      rintro e w11 ⟨a4, c4, rfl, ho4, hb11⟩
      have z11 := hb11.size
      have q11 : Below w.heap.size w w11 := q10.trans (hb11.mono q10.size)
      have C_11 := Lib.hid (C_10.out.below hb11)
      clear C_10
      have T_11 := Lib.hid (T_10.out.below hb11)
      clear T_10
      have G_11 := Lib.hid (G_10.out.below hb11)
      clear G_10
      have G2 := Lib.hid (ownsRow_cellsAt ho4)
      clear ho4
      go_wp2_with fail
      refine (sameInts_same _ _ _ _ (growL p q) _ (by omega) G_11.out G2.out).mono ?_
      rintro e w12 ⟨rfl, hb12⟩
      have z12 := hb12.size
      have q12 : Below w.heap.size w w12 := q11.trans (hb12.mono q11.size)
      have C_12 := Lib.hid (C_11.out.below hb12)
      clear C_11
      have T_12 := Lib.hid (T_11.out.below hb12)
      clear T_11
      have G_12 := Lib.hid (G_11.out.below hb12)
      clear G_11
      have G2_12 := Lib.hid (G2.out.below hb12)
      clear G2
      clear G2_12
      obtain ⟨L, hL⟩ : ∃ L, L = growL p q := ⟨_, rfl⟩
      rw [← hL] at HE hlG hil G_12 ⊢
      clear hL nnd
      obtain ⟨wo, rfl⟩ : ∃ wo, wo = w12 := ⟨_, rfl⟩
      have HE0 := Lib.hid (ownsRow_empty wo 3 1)
      have HB0 := Lib.hid (show Below wo.heap.size wo (wo.alloc (.cells #[] 3)) from (Below.refl _ _).alloc (Nat.le_refl _) _)
      go_wp2
      go_loopw [9, 10] (fun v i wr => ∃ k : Nat, 2 * k ≤ L.length ∧ i = .int .i64 ((2 * k + 1 : Nat) : Int) ∧ wr.ownsRow wo.heap.size 3 1 v k (ints (evenTo L k)) ∧ Below wo.heap.size wo wr) (fun _ i _ => L.length + 2 - (intOf i).toNat)
      case atStart => exact ⟨0, by omega, rfl, HE0.out, HB0.out⟩
      case round =>
        obtain ⟨k, hk, rfl, hown, hbr⟩ := hrel
        have HO := Lib.hid hown
        have HB := Lib.hid hbr
        have hsz := hbr.size
        clear hown
        obtain ⟨j, hj⟩ : ∃ j, j = 2 * k + 1 := ⟨_, rfl⟩
        rw [← hj]
        by_cases hlt : j < L.length
        · have hs := evenTo_snoc L k
          rw [← hj, List.getD_eq_getElem?_getD, List.getElem?_eq_getElem hlt, Option.getD_some] at hs
          have HJ := Lib.hid hj
          have hp : 0 < (ints L).length := by omega
          clear hj
          obtain ⟨g, off, rfl, hg, hcc⟩ := (G_12.out.below hbr).open hp
          have x0 := hcc j _ (ints_at L j hlt)
          generalize L[j] = z at x0 hs
          have HS2 := Lib.hid hs
          clear hcc hs hbr hil
          go_wp2_with (at_builtin; refine wpList_app1 rfl (.tmp 82) (.tmp 87) 29 rfl wo.heap.size 3 _ 1 8 Tryd.elemInt _ k _ _ _ _ rfl rfl rfl HO.out (by rfl) (by simp [Value.oneCell']) (by unfold maxLen; omega) (by omega) (by omega) ?_; intro g' cap w3 q1 q2 q3 q4 q5 q6)
          go_roundw
          case rel =>
            have hj := HJ.out
            refine ⟨k + 1, by omega, by rw [show 2 * (k + 1) + 1 = j + 2 from by omega]; go_num, ?_, HB.out.trans q2⟩
            rw [HS2.out, ints_append]
            exact q1
          case measure => simp [intOf]; omega
        · have hk2 : k = L.length / 2 := by omega
          obtain ⟨ae, ce, rfl, hce⟩ := ownsRow_cells HO.out
          rw [hk2] at hce
          have HCE := Lib.hid hce
          have he1 : k = (evenTo L (L.length / 2)).length := by rw [evenTo_length]; exact hk2
          generalize evenTo L (L.length / 2) = E at HE HCE he1
          subst he1
          have hjd : decide (j < L.length) = false := decide_eq_false hlt
          have hlE : E.length ≤ 12 := by omega
          clear hce HO HE0 HB0 hj hk2 hk hil
          obtain ⟨w13, rfl⟩ : ∃ x, x = wr := ⟨_, rfl⟩
          have hb13 := HB.out
          have z13 := hb13.size
          have q13 : Below w.heap.size w w13 := q12.trans (hb13.mono q12.size)
          have C_13 := Lib.hid (C_12.out.below hb13)
          clear C_12
          have T_13 := Lib.hid (T_12.out.below hb13)
          clear T_12
          have G_13 := Lib.hid (G_12.out.below hb13)
          clear G_12
          go_wp2_with fail
          refine (drawLog _ _ _ _ hn HW.out C_13.out).mono ?_
          rintro e w14 ⟨a5, c5, l, rfl, hl15, hcl, hb14⟩
          have z14 := hb14.size
          have q14 : Below w.heap.size w w14 := q13.trans (hb14.mono q13.size)
          have C_14 := Lib.hid (C_13.out.below hb14)
          clear C_13
          have T_14 := Lib.hid (T_13.out.below hb14)
          clear T_13
          have G_14 := Lib.hid (G_13.out.below hb14)
          clear G_13
          have E_14 := Lib.hid (HCE.out.below hb14)
          clear HCE
          have LL := Lib.hid (hcl)
          clear hcl
          go_wp2_with fail
          refine (implLog_yes _ _ E _ (by omega) E_14.out HE.out).mono ?_
          rintro e w15 ⟨rfl, hb15⟩
          have z15 := hb15.size
          have q15 : Below w.heap.size w w15 := q14.trans (hb15.mono q14.size)
          have C_15 := Lib.hid (C_14.out.below hb15)
          clear C_14
          have T_15 := Lib.hid (T_14.out.below hb15)
          clear T_14
          have G_15 := Lib.hid (G_14.out.below hb15)
          clear G_14
          have E_15 := Lib.hid (E_14.out.below hb15)
          clear E_14
          have LL_15 := Lib.hid (LL.out.below hb15)
          clear LL
          obtain ⟨bb, hli, hls⟩ := implLog_eq a5 c5 l
          have HLI := Lib.hid hli
          have HLS := Lib.hid hls
          clear hli hls
          go_wp2_with fail
          refine (HLI.out _ (by omega) LL_15.out).mono ?_
          rintro e w16 ⟨rfl, hb16⟩
          have z16 := hb16.size
          have q16 : Below w.heap.size w w16 := q15.trans (hb16.mono q15.size)
          have C_16 := Lib.hid (C_15.out.below hb16)
          clear C_15
          have T_16 := Lib.hid (T_15.out.below hb16)
          clear T_15
          have G_16 := Lib.hid (G_15.out.below hb16)
          clear G_15
          have E_16 := Lib.hid (E_15.out.below hb16)
          clear E_15
          have LL_16 := Lib.hid (LL_15.out.below hb16)
          clear LL_15
          go_wp2_with fail
          refine (HLS.out _ (by omega) LL_16.out).mono ?_
          rintro e w17 ⟨rfl, hb17⟩
          have z17 := hb17.size
          have q17 : Below w.heap.size w w17 := q16.trans (hb17.mono q16.size)
          have C_17 := Lib.hid (C_16.out.below hb17)
          clear C_16
          have T_17 := Lib.hid (T_16.out.below hb17)
          clear T_16
          have G_17 := Lib.hid (G_16.out.below hb17)
          clear G_16
          have E_17 := Lib.hid (E_16.out.below hb17)
          clear E_16
          have LL_17 := Lib.hid (LL_16.out.below hb17)
          clear LL_16
          have hbb : (bb == bb) = true := by cases bb <;> rfl
          go_wp2
          go_ret
          exact ⟨rfl, q17⟩
  · rw [decide_eq_true (by omega)] at hbig
    have HBIG := Lib.hid hbig
    clear hbig hc0 hw0 hT
    go_enter Tryd.func4, Tryd.ntmps4
    go_wp2_with fail
    refine (HBIG.out _).mono ?_
    rintro e w' ⟨rfl, rfl⟩
    go_wp2
    go_ret
    exact ⟨rfl, Below.refl _ _⟩

set_option maxRecDepth 100000 in
theorem lifted (os : Os) (started : os.Started) (H : Type) (enc : TypeId × Value → H) :
    ReturnsInHanded {} Tryd.checked os 4 .any (fun w args => (Rows.fnCylindersSpec.pre enc Tryd.prog Tryd.f4 Rows.fnCylindersRow.domain false w args ∧ laidMetH Tryd.prog tabs w) ∧ sizedMet enc Tryd.prog Tryd.f4 (OpenSpec.ofChange Rows.fnCylindersSpec) false w args) (Rows.fnCylindersSpec.post enc Tryd.prog Tryd.f4 false true false false) := by
  refine returnsInHanded_of_change_and (C := Tryd.checked) (X := fun w _ => laidMetH Tryd.prog tabs w) (fun _ _ _ hh h => h.of_heap hh) Tryd.own started (by kernel_rfl) Tryd.func4
    (ChangeSpec.witness_shaped (enc := enc) (C := Tryd.checked) (os := os) (X := fun w _ => laidMetH Tryd.prog tabs w) false (World.laidAll Tryd.prog os tabs) #[.slice none 0 0] 8 (World.laidAll_os _ _ _)
      (World.shaped_of_ZipB (by kernel_rfl) (by kernel_rfl)) (by kernel_rfl) (by kernel_rfl) (by kernel_rfl)
      (by rw [MakeChecks.laidMetH_plain _ _ _ (by kernel_rfl)]; exact laidMet_laidAll _ (by kernel_rfl) (by kernel_rfl))) ?_
  intro W base args ds gs before hval0 hW hcnd _ hL _
  have hval : ∀ (j : Nat) t v, Tryd.f4.params[j]? = some t → args[j]? = some v → Value.okWide Tryd.prog W .any base t v := hval0
  have hW' := hW
  obtain ⟨p, q, hA0, hV, rfl, hfz, hnd⟩ := hW
  have hA : DataW.TrodAll enc Tryd.prog W 0 (fun _ => true) true Tryd.f4.params.toList args.toList ds p := hA0
  rw [Tryd.params4] at hA hval
  obtain ⟨v0, vs0, d0, ds0, p0, q0, hargs, rfl, rfl, h0, r0⟩ := trodAll_cons hA
  obtain ⟨rfl, rfl, rfl⟩ := trodAll_nil r0
  obtain rfl : args = #[v0] := by cases args; simp_all
  obtain ⟨rfl, rfl⟩ := trodVars_none hV
  obtain ⟨ad0, cap0, xs0, rfl, hm0, hc0, hw0⟩ := openBts (hval 0 24 v0 rfl rfl) h0
  clear hA0 hval0
  refine (walk W ad0 cap0 xs0 hm0 hc0 hw0 (tab_of_laid hL)).mono fun e W' ⟨he, hb⟩ => ?_
  subst he
  exact ⟨_, rfl, law_post rfl hW' hb (by rw [Tryd.params4]; exact readable_all (by kernel_rfl)) (by kernel_rfl) (by kernel_rfl) rfl⟩

theorem proved : Rows.FnCylindersSaid :=
  OpenClaim.holds_of_wide 4 Tryd.f4 rfl rfl rfl rfl rfl rfl rfl ⟨rfl, rfl, rfl, rfl, rfl⟩ rfl rfl rfl rfl rfl (by kernel_rfl) Tryd.func4 (by kernel_rfl)
    (of_decide_eq_true (by kernel_rfl)) (by unfold Func.isWrapper; first | (rw [if_pos (by decide +kernel)]; kernel_rfl) | (rw [if_neg (by decide +kernel)]; exact ⟨rfl, rfl⟩))
    (fun os started H enc _ => lifted os started H enc)

theorem card : Rows.FnCylindersCardSaid :=
  Claim7.holds_tied_plain_at .later [] [.data, .data] true (true, "dd29099b795e0ecef7a01b74bb511e9b81c1cfa1e969918d1c8385e9d0eaad2d") false proved (fun _ h => by cases h) (by kernel_rfl) (fun _ h => by cases h) fnCylinders_row_tie rfl ⟨rfl, rfl⟩ (by kernel_rfl) rfl
    (fun f fn hf hfn => by
      obtain rfl : f = 4 := Option.some.inj ((show Tryd.prog.funcNamed "loop.example/g03400/laws.FnCylinders" = some 4 by kernel_rfl).symm.trans hf) |>.symm
      obtain rfl : fn = Tryd.f4 := (Option.some.inj (Tryd.func4.symm.trans hfn)).symm
      exact ⟨by kernel_rfl, fun j t ht => by
        have hm : t ∈ Tryd.f4.params.toList := Array.mem_toList_iff.2 (Array.mem_of_getElem? ht)
        have hall : (Tryd.f4.params.toList.all fun u => !Tryd.prog.wantsStandIn u) = true := by kernel_rfl
        exact (show Tryd.prog.wantsStandIn t = false by simpa using List.all_eq_true.1 hall t hm)⟩)
    (by kernel_rfl)
end Go.Proofs.YtgplpngphaaefaaDoor.lawFCyl
