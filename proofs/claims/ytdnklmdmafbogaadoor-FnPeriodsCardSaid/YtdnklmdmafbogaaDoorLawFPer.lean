/- LawFPer: FnPeriods holds for every code, where the library's tables lie as their initialisers lay them (the card ties that to the program's text). -/
import Derived.Test.YtdnklmdmafbogaaDoorFrameBts
import Derived.Test.YtdnklmdmafbogaaDoorSameL
import Derived.Test.YtdnklmdmafbogaaDoorDrawW2
import Derived.Test.YtdnklmdmafbogaaDoorPerLaw0
import Derived.Test.YtdnklmdmafbogaaDoorUseful2
import Derived.Test.YtdnklmdmafbogaaDoorRowGS
import Derived.Test.YtdnklmdmafbogaaDoorRowG
import Derived.Test.YtdnklmdmafbogaaDoorFindP3
import Derived.Test.YtdnklmdmafbogaaDoorVerd
import Derived.Test.YtdnklmdmafbogaaDoorTied3
import Derived.Test.YtdnklmdmafbogaaDoorTie
import Derived.Test.YtdnklmdmafbogaaDoorCards
import Derived.SevenTiedAt
import Derived.BigQuiet
namespace Go.Proofs.YtdnklmdmafbogaaDoor.lawFPer
open Go.ChangeShapes Go.WideShapes Go.ChangeAt Go.RowKit

theorem implPerX (ad : Option Addr) (c : Nat) (ts : List Tile) (x : List Nat) (a h : Int) (b : Bool) (w : World) (hP : PerRes ts x a h b) (hn : ts.length ≤ 1048576) (hc : CellsAt w ad (wangs ts)) :
    Calls Tryd.prog 37 #[.slice ad ts.length c] w fun e w' => ∃ ad' cap', e = .returned (.tuple #[.slice ad' (nats x).length cap', .int .i64 a, .int .i64 h, .bool b]) ∧
      w'.ownsRow w.heap.size 3 1 (.slice ad' (nats x).length cap') (nats x).length (ints (nats x)) ∧ Below w.heap.size w w' := by
  refine (implPer ad c ts w hn hc).mono ?_
  rintro e w' ⟨a1, c1, y, a', h', b', rfl, hQ, ho, hb⟩
  obtain ⟨rfl, rfl, rfl, rfl⟩ := hQ.same hP
  rw [nats_length]
  exact ⟨a1, c1, rfl, ho, hb⟩
theorem implUseX (ad : Option Addr) (c : Nat) (ts : List Tile) (w : World) (hn : ts.length ≤ 1048576) (hc : CellsAt w ad (wangs ts)) :
    Calls Tryd.prog 34 #[.slice ad ts.length c] w fun e w' => ∃ ad' cap', e = .returned (.slice ad' (nats (useful ts)).length cap') ∧
      w'.ownsRow w.heap.size 3 1 (.slice ad' (nats (useful ts)).length cap') (nats (useful ts)).length (ints (nats (useful ts))) ∧ Below w.heap.size w w' := by
  rw [nats_length]
  exact implUseful ad c ts w hn hc
theorem useful_small (ts : List Tile) : (useful ts).length ≤ 6 := by
  have : ∀ (n : Nat) (C : List Nat), (useIter ts n C).length ≤ C.length := by
    intro n
    induction n with
    | zero => intro C; exact Nat.le_refl _
    | succ n ih => intro C; exact Nat.le_trans (ih _) (useStep_le ts C)
  exact Nat.le_trans (this 6 _) (useStart_le ts)
theorem mem_take_next {U : List Int} {m : Nat} (h : m < U.length) (z : Int) : z ∈ U.take (m + 1) ↔ z ∈ U.take m ∨ U[m] = z := by
  rw [List.take_succ_eq_append_getElem h, List.mem_append, List.mem_singleton]
  exact ⟨fun q => q.imp id Eq.symm, fun q => q.imp id Eq.symm⟩
theorem expand_small (ts : List Tile) (a b k : Int) (xs : List Int) : (expand ts a b xs k).length ≤ 16 := by
  by_cases h : ExOk ts a b xs k
  · obtain ⟨hp, h1, h2⟩ := expand_per h
    have hl := hp.1.2.2.1
    obtain ⟨_, ⟨_, _⟩, h3, h4⟩ := h
    obtain ⟨p, hpp⟩ : ∃ p : Nat, a * k = (p : Int) := ⟨(a * k).toNat, by omega⟩
    obtain ⟨q, hqq⟩ : ∃ q : Nat, b * k = (q : Int) := ⟨(b * k).toNat, by omega⟩
    rw [hpp] at hl h3
    rw [hqq] at hl h4
    have : p * q ≤ 4 * 4 := Nat.mul_le_mul (by omega) (by omega)
    have e : (p : Int) * (q : Int) = ((p * q : Nat) : Int) := by norm_cast
    rw [e] at hl
    omega
  · have : expand ts a b xs k = [] := if_neg h
    rw [this]
    simp

set_option maxRecDepth 100000 in
set_option maxHeartbeats 8000000 in
theorem walk (w : World) (ad0 : Option Addr) (cap0 : Nat) (bs0 : List Nat) (hm0 : bs0.length ≤ maxLen) (hc0 : CellsAt w ad0 (bts bs0)) (hw0 : ∀ b ∈ bs0, b < 256) :
    Calls Tryd.prog 7 #[.slice ad0 bs0.length cap0] w fun e w' => e = .returned (.bool true) ∧ Below w.heap.size w w' := by
  unfold maxLen at hm0
  have hbig := fun w => big_any ad0 cap0 bs0 w (by omega)
  by_cases hn : bs0.length ≤ 1048576
  · rw [decide_eq_false (by omega)] at hbig
    have HBIG := Lib.hid hbig
    have HW := Lib.hid hw0
    clear hbig hw0
    have q0 : Below w.heap.size w w := Below.refl _ _
    have C := Lib.hid (hc0)
    clear hc0
    go_enter Tryd.func7, Tryd.ntmps7
    go_wp2_with fail
    refine (HBIG.out _).mono ?_
    rintro e w' ⟨rfl, rfl⟩
    go_wp2_with fail
    refine (drawFindPeriod _ _ _ _ hn HW.out C.out).mono ?_
    rintro e w1 ⟨a0, c0, ts, rfl, ht1, ht5, hts, hb1⟩
    have z1 := hb1.size
    have q1 : Below w.heap.size w w1 := q0.trans (hb1.mono q0.size)
    have C_1 := Lib.hid (C.out.below hb1)
    clear C
    have T := Lib.hid (hts)
    clear hts
    obtain ⟨x, a, h, b, hP⟩ := PerRes.total ts
    obtain ⟨A, H, hA, hH, hA10, hH10⟩ := hP.small
    have HIP := Lib.hid (fun w hc => implPerX a0 c0 ts x a h b w hP (by omega) hc)
    have HSP := Lib.hid (fun w hc => specPerX a0 c0 ts x a h b w hP (by omega) hc)
    have hP2 := hP
    rw [hA, hH] at hP2
    have HIV := Lib.hid (fun w hc => implVerd a0 c0 ts x A H b w (by omega) hP2 hA10 hH10 hc)
    have HSV := Lib.hid (fun w hc => specVerd a0 c0 ts x A H b w (by omega) hP2 hA10 hH10 hc)
    have HPH := Lib.hid hP
    have hxl : (nats x).length ≤ 16 := by rw [nats_length]; have := hP.length; omega
    have HIL := Lib.hid (fun w hc => implLargest a0 c0 ts w (by omega) hc)
    have HSL := Lib.hid (fun w hc => specLargest a0 c0 ts w (by omega) hc)
    have HSQ := Lib.hid (fun k (h1 : 1 ≤ k) (h2 : k ≤ bestTo ts 4) => squares (ts := ts) h1 h2)
    have hn4 := bestTo_le ts 4
    have HB4 := Lib.hid (fun (e : b = true) => (by subst e; exact hP.best : bestTo ts 4 = 4))
    have HPP := Lib.hid (fun (e : b = true) => (by subst e; exact hP.isPer : IsPer ts a h (nats x)))
    have HUS := Lib.hid (fun (e : b = true) => (by subst e; exact fun z hz => by obtain ⟨i, hi, rfl⟩ := List.mem_map.1 hz; exact List.mem_map.2 ⟨i, hP.useful i hi, rfl⟩ : ∀ z ∈ nats x, z ∈ nats (useful ts)))
    have HUL := Lib.hid (useful_small ts)
    generalize verS ts A H b = vs at HIV HSV
    generalize bestTo ts 4 = n at HIL HSL HSQ hn4 HB4
    generalize hXX : nats x = X at HIP HSP hxl HPP HUS
    have nna : (a != a) = false := by simp
    have nnh : (h != h) = false := by simp
    have nnb : (b != b) = false := by simp
    have nnn : ((n : Int) != (n : Int)) = false := by simp
    have nnv : (vs != vs) = false := ba_ne vs
    clear hP hP2 hA hH hXX HPH
    go_wp2_with fail
    refine (HIP.out _ T.out).mono ?_
    rintro e w2 ⟨a1, c1, rfl, ho1, hb2⟩
    have z2 := hb2.size
    have q2 : Below w.heap.size w w2 := q1.trans (hb2.mono q1.size)
    have C_2 := Lib.hid (C_1.out.below hb2)
    clear C_1
    have T_2 := Lib.hid (T.out.below hb2)
    clear T
    have X1 := Lib.hid (ownsRow_cellsAt ho1)
    clear ho1
    go_wp2_with fail
    refine (HSP.out _ T_2.out).mono ?_
    rintro e w3 ⟨a2, c2, rfl, ho2, hb3⟩
    have z3 := hb3.size
    have q3 : Below w.heap.size w w3 := q2.trans (hb3.mono q2.size)
    have C_3 := Lib.hid (C_2.out.below hb3)
    clear C_2
    have T_3 := Lib.hid (T_2.out.below hb3)
    clear T_2
    have X1_3 := Lib.hid (X1.out.below hb3)
    clear X1
    have X2 := Lib.hid (ownsRow_cellsAt ho2)
    have hcap2 := row_le_cap ho2
    clear ho2
    go_wp2_with fail
    refine (HIL.out _ T_3.out).mono ?_
    rintro e w4 ⟨rfl, hb4⟩
    have z4 := hb4.size
    have q4 : Below w.heap.size w w4 := q3.trans (hb4.mono q3.size)
    have C_4 := Lib.hid (C_3.out.below hb4)
    clear C_3
    have T_4 := Lib.hid (T_3.out.below hb4)
    clear T_3
    have X1_4 := Lib.hid (X1_3.out.below hb4)
    clear X1_3
    have X2_4 := Lib.hid (X2.out.below hb4)
    clear X2
    go_wp2_with fail
    refine (sameInts_same _ _ _ _ X _ (by omega) X1_4.out X2_4.out).mono ?_
    rintro e w5 ⟨rfl, hb5⟩
    have z5 := hb5.size
    have q5 : Below w.heap.size w w5 := q4.trans (hb5.mono q4.size)
    have C_5 := Lib.hid (C_4.out.below hb5)
    clear C_4
    have T_5 := Lib.hid (T_4.out.below hb5)
    clear T_4
    have X1_5 := Lib.hid (X1_4.out.below hb5)
    clear X1_4
    have X2_5 := Lib.hid (X2_4.out.below hb5)
    clear X2_4
    clear X1_5
    go_wp2_with fail
    refine (HSL.out _ T_5.out).mono ?_
    rintro e w6 ⟨rfl, hb6⟩
    have z6 := hb6.size
    have q6 : Below w.heap.size w w6 := q5.trans (hb6.mono q5.size)
    have C_6 := Lib.hid (C_5.out.below hb6)
    clear C_5
    have T_6 := Lib.hid (T_5.out.below hb6)
    clear T_5
    have X2_6 := Lib.hid (X2_5.out.below hb6)
    clear X2_5
    go_wp2_with fail
    refine (HIV.out _ T_6.out).mono ?_
    rintro e w7 ⟨rfl, hb7⟩
    have z7 := hb7.size
    have q7 : Below w.heap.size w w7 := q6.trans (hb7.mono q6.size)
    have C_7 := Lib.hid (C_6.out.below hb7)
    clear C_6
    have T_7 := Lib.hid (T_6.out.below hb7)
    clear T_6
    have X2_7 := Lib.hid (X2_6.out.below hb7)
    clear X2_6
    go_wp2_with fail
    refine (HSV.out _ T_7.out).mono ?_
    rintro e w8 ⟨rfl, hb8⟩
    have z8 := hb8.size
    have q8 : Below w.heap.size w w8 := q7.trans (hb8.mono q7.size)
    have C_8 := Lib.hid (C_7.out.below hb8)
    clear C_7
    have T_8 := Lib.hid (T_7.out.below hb8)
    clear T_7
    have X2_8 := Lib.hid (X2_7.out.below hb8)
    clear X2_7
    clear HIP HSP HIL HSL HIV HSV nna nnh nnb nnn nnv
    cases b
    · have hbF : (1 : Nat) = 1 := rfl
      clear hbF HPP HUS HB4
      go_wp2
      obtain ⟨wo1, rfl⟩ : ∃ x, x = w8 := ⟨_, rfl⟩
      have HBO := Lib.hid (Below.refl wo1.heap.size wo1)
      go_loopw [17] (fun i wr => ∃ k : Nat, 1 ≤ k ∧ k ≤ n + 1 ∧ i = .int .i64 k ∧ Below wo1.heap.size wo1 wr) (fun i _ => n + 1 - (intOf i).toNat)
      case atStart => exact ⟨1, by omega, by omega, rfl, Below.refl _ _⟩
      case round =>
        obtain ⟨k, hk1, hk2, rfl, hbr⟩ := hrel
        by_cases hlt : k ≤ n
        · have hd : decide ((k : Int) ≤ (n : Int)) = true := decide_eq_true (by omega)
          have hdn : decide (k ≤ n) = true := decide_eq_true hlt
          have hF := specFindX a0 c0 ts k k wr (by omega) (T_8.out.below hbr)
          rw [HSQ.out k hk1 hlt] at hF
          have HF := Lib.hid hF
          have HBR := Lib.hid hbr
          have hsz := hbr.size
          clear hF hbr
          go_wp2_with fail
          refine HF.out.mono ?_
          rintro e w2 ⟨af, cf, rfl, _, hb2⟩
          have HB2 := Lib.hid (HBR.out.trans (hb2.mono hsz))
          clear hb2
          go_wp2
          go_roundw
          case rel => exact ⟨k + 1, by omega, by omega, by go_num, HB2.out⟩
          case measure => simp [intOf]; omega
        · have hk : k = n + 1 := by omega
          have hd : decide ((k : Int) ≤ (n : Int)) = false := decide_eq_false (by omega)
          have hdn : decide (k ≤ n) = false := decide_eq_false hlt
          obtain ⟨w9, rfl⟩ : ∃ x, x = wr := ⟨_, rfl⟩
          have hb9 := hbr
          clear hbr hk
          have z9 := hb9.size
          have q9 : Below w.heap.size w w9 := q8.trans (hb9.mono q8.size)
          have C_9 := Lib.hid (C_8.out.below hb9)
          clear C_8
          have T_9 := Lib.hid (T_8.out.below hb9)
          clear T_8
          have X2_9 := Lib.hid (X2_8.out.below hb9)
          clear X2_8
          go_wp2_with fail
          refine (drawExpand _ _ _ _ hn HW.out C_9.out).mono ?_
          rintro e w10 ⟨a3, c3, ts3, x3, y3, af3, cf3, xs3, k3, rfl, hu1, hu5, hx3, hy3, hl3, hcap3, hk3, hts3, hxs3, hb10⟩
          have z10 := hb10.size
          have q10 : Below w.heap.size w w10 := q9.trans (hb10.mono q9.size)
          have C_10 := Lib.hid (C_9.out.below hb10)
          clear C_9
          have T_10 := Lib.hid (T_9.out.below hb10)
          clear T_9
          have X2_10 := Lib.hid (X2_9.out.below hb10)
          clear X2_9
          have T3 := Lib.hid (hts3)
          have X3 := Lib.hid (hxs3)
          clear hts3 hxs3 hlt hk1 hk2 hd hdn
          have hlE := expand_small ts3 x3 y3 k3 xs3
          have HEX := Lib.hid (fun h => expand_per (ts := ts3) (a := x3) (b := y3) (xs := xs3) (k := (k3 : Int)) h)
          have HIE := Lib.hid (fun w h1 h2 => implExpand a3 af3 c3 cf3 ts3 x3 y3 xs3 k3 w (by omega) (by omega) hcap3 (by omega) h1 h2)
          have HSE := Lib.hid (fun w h1 h2 => specExpand a3 af3 c3 cf3 ts3 x3 y3 xs3 k3 w (by omega) (by omega) hcap3 (by omega) h1 h2)
          have HIQ := Lib.hid (fun w h1 h2 => implPeriodic a3 af3 c3 cf3 ts3 x3 y3 xs3 w (by omega) (by omega) hcap3 h1 h2)
          have HSQ3 := Lib.hid (fun w h1 h2 => specPeriodic a3 af3 c3 cf3 ts3 x3 y3 xs3 w (by omega) (by omega) hcap3 h1 h2)
          have HK3 := Lib.hid (fun (h : ExOk ts3 x3 y3 xs3 (k3 : Int)) => h.2.2)
          generalize expand ts3 x3 y3 xs3 k3 = E at hlE HEX HIE HSE
          generalize decide (IsPer ts3 x3 y3 xs3) = bq at HIQ HSQ3
          have nnq : (bq != bq) = false := by simp
          by_cases hex : ExOk ts3 x3 y3 xs3 (k3 : Int)
          · rw [decide_eq_true hex] at HIE HSE
            obtain ⟨hEP, hp1, hq1⟩ := HEX.out hex
            obtain ⟨hp4, hq4⟩ := HK3.out hex
            obtain ⟨p, hp⟩ : ∃ p : Nat, x3 * (k3 : Int) = (p : Int) := ⟨(x3 * (k3 : Int)).toNat, by omega⟩
            obtain ⟨q, hq⟩ : ∃ q : Nat, y3 * (k3 : Int) = (q : Int) := ⟨(y3 * (k3 : Int)).toNat, by omega⟩
            rw [hp] at hEP hp1 hp4
            rw [hq] at hEP hq1 hq4
            have wp1 : IntKind.i64.wrap (p : Int) = (p : Int) := IntWalk.i64_in _ (by omega)
            have wq1 : IntKind.i64.wrap (q : Int) = (q : Int) := IntWalk.i64_in _ (by omega)
            have HEP := Lib.hid hEP
            clear hex hEP HEX HK3 hx3 hy3
            go_wp2_with fail
            refine (HIE.out _ T3.out X3.out).mono ?_
            rintro e w11 ⟨a4, c4, rfl, ho4, hb11⟩
            have z11 := hb11.size
            have q11 : Below w.heap.size w w11 := q10.trans (hb11.mono q10.size)
            have C_11 := Lib.hid (C_10.out.below hb11)
            clear C_10
            have T_11 := Lib.hid (T_10.out.below hb11)
            clear T_10
            have X2_11 := Lib.hid (X2_10.out.below hb11)
            clear X2_10
            have T3_11 := Lib.hid (T3.out.below hb11)
            clear T3
            have X3_11 := Lib.hid (X3.out.below hb11)
            clear X3
            have E1 := Lib.hid (ownsRow_cellsAt ho4)
            clear ho4
            go_wp2_with fail
            refine (HSE.out _ T3_11.out X3_11.out).mono ?_
            rintro e w12 ⟨a5, c5, rfl, ho5, hb12⟩
            have z12 := hb12.size
            have q12 : Below w.heap.size w w12 := q11.trans (hb12.mono q11.size)
            have C_12 := Lib.hid (C_11.out.below hb12)
            clear C_11
            have T_12 := Lib.hid (T_11.out.below hb12)
            clear T_11
            have X2_12 := Lib.hid (X2_11.out.below hb12)
            clear X2_11
            have T3_12 := Lib.hid (T3_11.out.below hb12)
            clear T3_11
            have X3_12 := Lib.hid (X3_11.out.below hb12)
            clear X3_11
            have E1_12 := Lib.hid (E1.out.below hb12)
            clear E1
            have E2 := Lib.hid (ownsRow_cellsAt ho5)
            have hcap5 := row_le_cap ho5
            clear ho5
            go_wp2_with fail
            refine (sameInts_same _ _ _ _ E _ (by omega) E1_12.out E2.out).mono ?_
            rintro e w13 ⟨rfl, hb13⟩
            have z13 := hb13.size
            have q13 : Below w.heap.size w w13 := q12.trans (hb13.mono q12.size)
            have C_13 := Lib.hid (C_12.out.below hb13)
            clear C_12
            have T_13 := Lib.hid (T_12.out.below hb13)
            clear T_12
            have X2_13 := Lib.hid (X2_12.out.below hb13)
            clear X2_12
            have T3_13 := Lib.hid (T3_12.out.below hb13)
            clear T3_12
            have X3_13 := Lib.hid (X3_12.out.below hb13)
            clear X3_12
            have E1_13 := Lib.hid (E1_12.out.below hb13)
            clear E1_12
            have E2_13 := Lib.hid (E2.out.below hb13)
            clear E2
            have HIQ2 := Lib.hid (fun w h1 h2 => implPeriodic a3 a5 c3 c5 ts3 p q E w (by omega) (by omega) hcap5 h1 h2)
            rw [decide_eq_true HEP.out] at HIQ2
            go_wp2_with fail
            refine (HIQ2.out _ T3_13.out E2_13.out).mono ?_
            rintro e w14 ⟨rfl, hb14⟩
            have z14 := hb14.size
            have q14 : Below w.heap.size w w14 := q13.trans (hb14.mono q13.size)
            have C_14 := Lib.hid (C_13.out.below hb14)
            clear C_13
            have T_14 := Lib.hid (T_13.out.below hb14)
            clear T_13
            have X2_14 := Lib.hid (X2_13.out.below hb14)
            clear X2_13
            have T3_14 := Lib.hid (T3_13.out.below hb14)
            clear T3_13
            have X3_14 := Lib.hid (X3_13.out.below hb14)
            clear X3_13
            have E1_14 := Lib.hid (E1_13.out.below hb14)
            clear E1_13
            have E2_14 := Lib.hid (E2_13.out.below hb14)
            clear E2_13
            clear E1_14 E2_14
            go_wp2_with fail
            refine (HIQ.out _ T3_14.out X3_14.out).mono ?_
            rintro e w15 ⟨rfl, hb15⟩
            have z15 := hb15.size
            have q15 : Below w.heap.size w w15 := q14.trans (hb15.mono q14.size)
            have C_15 := Lib.hid (C_14.out.below hb15)
            clear C_14
            have T_15 := Lib.hid (T_14.out.below hb15)
            clear T_14
            have X2_15 := Lib.hid (X2_14.out.below hb15)
            clear X2_14
            have T3_15 := Lib.hid (T3_14.out.below hb15)
            clear T3_14
            have X3_15 := Lib.hid (X3_14.out.below hb15)
            clear X3_14
            go_wp2_with fail
            refine (HSQ3.out _ T3_15.out X3_15.out).mono ?_
            rintro e w16 ⟨rfl, hb16⟩
            have z16 := hb16.size
            have q16 : Below w.heap.size w w16 := q15.trans (hb16.mono q15.size)
            have C_16 := Lib.hid (C_15.out.below hb16)
            clear C_15
            have T_16 := Lib.hid (T_15.out.below hb16)
            clear T_15
            have X2_16 := Lib.hid (X2_15.out.below hb16)
            clear X2_15
            have T3_16 := Lib.hid (T3_15.out.below hb16)
            clear T3_15
            have X3_16 := Lib.hid (X3_15.out.below hb16)
            clear X3_15
            clear T3_16 X3_16
            go_wp2_with fail
            refine (drawRowGraph _ _ _ _ hn HW.out C_16.out).mono ?_
            rintro e w17 ⟨a6, c6, ts6, x6, rfl, hv1, hv5, hx6, hts6, hb17⟩
            have z17 := hb17.size
            have q17 : Below w.heap.size w w17 := q16.trans (hb17.mono q16.size)
            have C_17 := Lib.hid (C_16.out.below hb17)
            clear C_16
            have T_17 := Lib.hid (T_16.out.below hb17)
            clear T_16
            have X2_17 := Lib.hid (X2_16.out.below hb17)
            clear X2_16
            have T6 := Lib.hid (hts6)
            clear hts6
            have HIR := Lib.hid (fun w hc => implRG a6 c6 ts6 x6 w (by omega) hc)
            have HSR := Lib.hid (fun w hc => specRG a6 c6 ts6 x6 w (by omega) hc)
            have HIC := Lib.hid (fun w hc => implCount a6 c6 ts6 x6 1 w (by omega) hc)
            have HRC := Lib.hid (fun h => rg_count (ts := ts6) (a := (x6 : Int)) h)
            have hrs := rg_small ts6 x6
            unfold RgAt at HIR HSR
            generalize rgL ts6 x6 = R at HIR HSR HRC hrs
            generalize rgB ts6 x6 = rb at HIR HSR HRC
            generalize countFills ts6 x6 1 = cf at HIC HRC
            obtain ⟨hR80, hR40⟩ := hrs
            have HR40 := Lib.hid hR40
            clear hR40
            cases rb
            · skip
              go_wp2_with fail
              refine (HIR.out _ T6.out).mono ?_
              rintro e w18 ⟨a7, c7, rfl, ho7, hb18⟩
              have z18 := hb18.size
              have q18 : Below w.heap.size w w18 := q17.trans (hb18.mono q17.size)
              have C_18 := Lib.hid (C_17.out.below hb18)
              clear C_17
              have T_18 := Lib.hid (T_17.out.below hb18)
              clear T_17
              have X2_18 := Lib.hid (X2_17.out.below hb18)
              clear X2_17
              have T6_18 := Lib.hid (T6.out.below hb18)
              clear T6
              have R1 := Lib.hid (OwnMat.rowsAt ho7)
              clear ho7
              go_wp2_with fail
              refine (HSR.out _ T6_18.out).mono ?_
              rintro e w19 ⟨a8, c8, rfl, ho8, hb19⟩
              have z19 := hb19.size
              have q19 : Below w.heap.size w w19 := q18.trans (hb19.mono q18.size)
              have C_19 := Lib.hid (C_18.out.below hb19)
              clear C_18
              have T_19 := Lib.hid (T_18.out.below hb19)
              clear T_18
              have X2_19 := Lib.hid (X2_18.out.below hb19)
              clear X2_18
              have T6_19 := Lib.hid (T6_18.out.below hb19)
              clear T6_18
              have R1_19 := Lib.hid (R1.out.below hb19)
              clear R1
              have R2 := Lib.hid (OwnMat.rowsAt ho8)
              clear ho8
              go_wp2_with fail
              refine (sameLists_same _ _ _ _ R _ (by omega) (fun r hr => by have := HR40.out r hr; omega) R1_19.out R2.out).mono ?_
              rintro e w20 ⟨rfl, hb20⟩
              have z20 := hb20.size
              have q20 : Below w.heap.size w w20 := q19.trans (hb20.mono q19.size)
              have C_20 := Lib.hid (C_19.out.below hb20)
              clear C_19
              have T_20 := Lib.hid (T_19.out.below hb20)
              clear T_19
              have X2_20 := Lib.hid (X2_19.out.below hb20)
              clear X2_19
              have T6_20 := Lib.hid (T6_19.out.below hb20)
              clear T6_19
              have R1_20 := Lib.hid (R1_19.out.below hb20)
              clear R1_19
              have R2_20 := Lib.hid (R2.out.below hb20)
              clear R2
              clear R1_20 R2_20
              go_wp2
              go_ret
              exact ⟨rfl, q20⟩

            · skip
              obtain ⟨hRC, hcf0, hcf40⟩ := HRC.out rfl
              obtain ⟨cn, rfl⟩ : ∃ cn : Nat, cf = (cn : Int) := ⟨cf.toNat, by omega⟩
              obtain ⟨dn, hdn⟩ : ∃ dn : Nat, dn = 2 * cn := ⟨_, rfl⟩
              have e1 : (2 : Int) * (cn : Int) = (dn : Int) := by omega
              have e2 : IntKind.i64.wrap (dn : Int) = (dn : Int) := IntWalk.i64_in _ (by omega)
              have e3 : (R.length : Int) = (dn : Int) := by omega
              have e4 : ((R.length : Int) == (dn : Int)) = true := by simp; omega
              have e5 : decide ((R.length : Int) = (dn : Int)) = true := decide_eq_true e3
              have HE3 := Lib.hid e3
              clear hRC hdn hcf0 hcf40 e3
              go_wp2_with fail
              refine (HIR.out _ T6.out).mono ?_
              rintro e w18 ⟨a7, c7, rfl, ho7, hb18⟩
              have z18 := hb18.size
              have q18 : Below w.heap.size w w18 := q17.trans (hb18.mono q17.size)
              have C_18 := Lib.hid (C_17.out.below hb18)
              clear C_17
              have T_18 := Lib.hid (T_17.out.below hb18)
              clear T_17
              have X2_18 := Lib.hid (X2_17.out.below hb18)
              clear X2_17
              have T6_18 := Lib.hid (T6.out.below hb18)
              clear T6
              have R1 := Lib.hid (OwnMat.rowsAt ho7)
              clear ho7
              go_wp2_with fail
              refine (HSR.out _ T6_18.out).mono ?_
              rintro e w19 ⟨a8, c8, rfl, ho8, hb19⟩
              have z19 := hb19.size
              have q19 : Below w.heap.size w w19 := q18.trans (hb19.mono q18.size)
              have C_19 := Lib.hid (C_18.out.below hb19)
              clear C_18
              have T_19 := Lib.hid (T_18.out.below hb19)
              clear T_18
              have X2_19 := Lib.hid (X2_18.out.below hb19)
              clear X2_18
              have T6_19 := Lib.hid (T6_18.out.below hb19)
              clear T6_18
              have R1_19 := Lib.hid (R1.out.below hb19)
              clear R1
              have R2 := Lib.hid (OwnMat.rowsAt ho8)
              clear ho8
              go_wp2_with fail
              refine (sameLists_same _ _ _ _ R _ (by omega) (fun r hr => by have := HR40.out r hr; omega) R1_19.out R2.out).mono ?_
              rintro e w20 ⟨rfl, hb20⟩
              have z20 := hb20.size
              have q20 : Below w.heap.size w w20 := q19.trans (hb20.mono q19.size)
              have C_20 := Lib.hid (C_19.out.below hb20)
              clear C_19
              have T_20 := Lib.hid (T_19.out.below hb20)
              clear T_19
              have X2_20 := Lib.hid (X2_19.out.below hb20)
              clear X2_19
              have T6_20 := Lib.hid (T6_19.out.below hb20)
              clear T6_19
              have R1_20 := Lib.hid (R1_19.out.below hb20)
              clear R1_19
              have R2_20 := Lib.hid (R2.out.below hb20)
              clear R2
              clear R1_20 R2_20
              go_wp2_with fail
              refine (HIC.out _ T6_20.out).mono ?_
              rintro e w21 ⟨rfl, hb21⟩
              have z21 := hb21.size
              have q21 : Below w.heap.size w w21 := q20.trans (hb21.mono q20.size)
              have C_21 := Lib.hid (C_20.out.below hb21)
              clear C_20
              have T_21 := Lib.hid (T_20.out.below hb21)
              clear T_20
              have X2_21 := Lib.hid (X2_20.out.below hb21)
              clear X2_20
              have T6_21 := Lib.hid (T6_20.out.below hb21)
              clear T6_20
              go_wp2
              go_ret
              exact ⟨by first | rfl | (simp [HE3.out]) | (congr 2; simp; have := HE3.out; omega), q21⟩
          · rw [decide_eq_false hex] at HIE HSE
            clear hex HEX HK3
            go_wp2_with fail
            refine (HIE.out _ T3.out X3.out).mono ?_
            rintro e w11 ⟨a4, c4, rfl, ho4, hb11⟩
            have z11 := hb11.size
            have q11 : Below w.heap.size w w11 := q10.trans (hb11.mono q10.size)
            have C_11 := Lib.hid (C_10.out.below hb11)
            clear C_10
            have T_11 := Lib.hid (T_10.out.below hb11)
            clear T_10
            have X2_11 := Lib.hid (X2_10.out.below hb11)
            clear X2_10
            have T3_11 := Lib.hid (T3.out.below hb11)
            clear T3
            have X3_11 := Lib.hid (X3.out.below hb11)
            clear X3
            have E1 := Lib.hid (ownsRow_cellsAt ho4)
            clear ho4
            go_wp2_with fail
            refine (HSE.out _ T3_11.out X3_11.out).mono ?_
            rintro e w12 ⟨a5, c5, rfl, ho5, hb12⟩
            have z12 := hb12.size
            have q12 : Below w.heap.size w w12 := q11.trans (hb12.mono q11.size)
            have C_12 := Lib.hid (C_11.out.below hb12)
            clear C_11
            have T_12 := Lib.hid (T_11.out.below hb12)
            clear T_11
            have X2_12 := Lib.hid (X2_11.out.below hb12)
            clear X2_11
            have T3_12 := Lib.hid (T3_11.out.below hb12)
            clear T3_11
            have X3_12 := Lib.hid (X3_11.out.below hb12)
            clear X3_11
            have E1_12 := Lib.hid (E1.out.below hb12)
            clear E1
            have E2 := Lib.hid (ownsRow_cellsAt ho5)
            clear ho5
            go_wp2_with fail
            refine (sameInts_same _ _ _ _ E _ (by omega) E1_12.out E2.out).mono ?_
            rintro e w13 ⟨rfl, hb13⟩
            have z13 := hb13.size
            have q13 : Below w.heap.size w w13 := q12.trans (hb13.mono q12.size)
            have C_13 := Lib.hid (C_12.out.below hb13)
            clear C_12
            have T_13 := Lib.hid (T_12.out.below hb13)
            clear T_12
            have X2_13 := Lib.hid (X2_12.out.below hb13)
            clear X2_12
            have T3_13 := Lib.hid (T3_12.out.below hb13)
            clear T3_12
            have X3_13 := Lib.hid (X3_12.out.below hb13)
            clear X3_12
            have E1_13 := Lib.hid (E1_12.out.below hb13)
            clear E1_12
            have E2_13 := Lib.hid (E2.out.below hb13)
            clear E2
            clear E1_13 E2_13
            go_wp2_with fail
            refine (HIQ.out _ T3_13.out X3_13.out).mono ?_
            rintro e w14 ⟨rfl, hb14⟩
            have z14 := hb14.size
            have q14 : Below w.heap.size w w14 := q13.trans (hb14.mono q13.size)
            have C_14 := Lib.hid (C_13.out.below hb14)
            clear C_13
            have T_14 := Lib.hid (T_13.out.below hb14)
            clear T_13
            have X2_14 := Lib.hid (X2_13.out.below hb14)
            clear X2_13
            have T3_14 := Lib.hid (T3_13.out.below hb14)
            clear T3_13
            have X3_14 := Lib.hid (X3_13.out.below hb14)
            clear X3_13
            go_wp2_with fail
            refine (HSQ3.out _ T3_14.out X3_14.out).mono ?_
            rintro e w15 ⟨rfl, hb15⟩
            have z15 := hb15.size
            have q15 : Below w.heap.size w w15 := q14.trans (hb15.mono q14.size)
            have C_15 := Lib.hid (C_14.out.below hb15)
            clear C_14
            have T_15 := Lib.hid (T_14.out.below hb15)
            clear T_14
            have X2_15 := Lib.hid (X2_14.out.below hb15)
            clear X2_14
            have T3_15 := Lib.hid (T3_14.out.below hb15)
            clear T3_14
            have X3_15 := Lib.hid (X3_14.out.below hb15)
            clear X3_14
            clear T3_15 X3_15
            go_wp2_with fail
            refine (drawRowGraph _ _ _ _ hn HW.out C_15.out).mono ?_
            rintro e w16 ⟨a6, c6, ts6, x6, rfl, hv1, hv5, hx6, hts6, hb16⟩
            have z16 := hb16.size
            have q16 : Below w.heap.size w w16 := q15.trans (hb16.mono q15.size)
            have C_16 := Lib.hid (C_15.out.below hb16)
            clear C_15
            have T_16 := Lib.hid (T_15.out.below hb16)
            clear T_15
            have X2_16 := Lib.hid (X2_15.out.below hb16)
            clear X2_15
            have T6 := Lib.hid (hts6)
            clear hts6
            have HIR := Lib.hid (fun w hc => implRG a6 c6 ts6 x6 w (by omega) hc)
            have HSR := Lib.hid (fun w hc => specRG a6 c6 ts6 x6 w (by omega) hc)
            have HIC := Lib.hid (fun w hc => implCount a6 c6 ts6 x6 1 w (by omega) hc)
            have HRC := Lib.hid (fun h => rg_count (ts := ts6) (a := (x6 : Int)) h)
            have hrs := rg_small ts6 x6
            unfold RgAt at HIR HSR
            generalize rgL ts6 x6 = R at HIR HSR HRC hrs
            generalize rgB ts6 x6 = rb at HIR HSR HRC
            generalize countFills ts6 x6 1 = cf at HIC HRC
            obtain ⟨hR80, hR40⟩ := hrs
            have HR40 := Lib.hid hR40
            clear hR40
            cases rb
            · skip
              go_wp2_with fail
              refine (HIR.out _ T6.out).mono ?_
              rintro e w17 ⟨a7, c7, rfl, ho7, hb17⟩
              have z17 := hb17.size
              have q17 : Below w.heap.size w w17 := q16.trans (hb17.mono q16.size)
              have C_17 := Lib.hid (C_16.out.below hb17)
              clear C_16
              have T_17 := Lib.hid (T_16.out.below hb17)
              clear T_16
              have X2_17 := Lib.hid (X2_16.out.below hb17)
              clear X2_16
              have T6_17 := Lib.hid (T6.out.below hb17)
              clear T6
              have R1 := Lib.hid (OwnMat.rowsAt ho7)
              clear ho7
              go_wp2_with fail
              refine (HSR.out _ T6_17.out).mono ?_
              rintro e w18 ⟨a8, c8, rfl, ho8, hb18⟩
              have z18 := hb18.size
              have q18 : Below w.heap.size w w18 := q17.trans (hb18.mono q17.size)
              have C_18 := Lib.hid (C_17.out.below hb18)
              clear C_17
              have T_18 := Lib.hid (T_17.out.below hb18)
              clear T_17
              have X2_18 := Lib.hid (X2_17.out.below hb18)
              clear X2_17
              have T6_18 := Lib.hid (T6_17.out.below hb18)
              clear T6_17
              have R1_18 := Lib.hid (R1.out.below hb18)
              clear R1
              have R2 := Lib.hid (OwnMat.rowsAt ho8)
              clear ho8
              go_wp2_with fail
              refine (sameLists_same _ _ _ _ R _ (by omega) (fun r hr => by have := HR40.out r hr; omega) R1_18.out R2.out).mono ?_
              rintro e w19 ⟨rfl, hb19⟩
              have z19 := hb19.size
              have q19 : Below w.heap.size w w19 := q18.trans (hb19.mono q18.size)
              have C_19 := Lib.hid (C_18.out.below hb19)
              clear C_18
              have T_19 := Lib.hid (T_18.out.below hb19)
              clear T_18
              have X2_19 := Lib.hid (X2_18.out.below hb19)
              clear X2_18
              have T6_19 := Lib.hid (T6_18.out.below hb19)
              clear T6_18
              have R1_19 := Lib.hid (R1_18.out.below hb19)
              clear R1_18
              have R2_19 := Lib.hid (R2.out.below hb19)
              clear R2
              clear R1_19 R2_19
              go_wp2
              go_ret
              exact ⟨rfl, q19⟩

            · skip
              obtain ⟨hRC, hcf0, hcf40⟩ := HRC.out rfl
              obtain ⟨cn, rfl⟩ : ∃ cn : Nat, cf = (cn : Int) := ⟨cf.toNat, by omega⟩
              obtain ⟨dn, hdn⟩ : ∃ dn : Nat, dn = 2 * cn := ⟨_, rfl⟩
              have e1 : (2 : Int) * (cn : Int) = (dn : Int) := by omega
              have e2 : IntKind.i64.wrap (dn : Int) = (dn : Int) := IntWalk.i64_in _ (by omega)
              have e3 : (R.length : Int) = (dn : Int) := by omega
              have e4 : ((R.length : Int) == (dn : Int)) = true := by simp; omega
              have e5 : decide ((R.length : Int) = (dn : Int)) = true := decide_eq_true e3
              have HE3 := Lib.hid e3
              clear hRC hdn hcf0 hcf40 e3
              go_wp2_with fail
              refine (HIR.out _ T6.out).mono ?_
              rintro e w17 ⟨a7, c7, rfl, ho7, hb17⟩
              have z17 := hb17.size
              have q17 : Below w.heap.size w w17 := q16.trans (hb17.mono q16.size)
              have C_17 := Lib.hid (C_16.out.below hb17)
              clear C_16
              have T_17 := Lib.hid (T_16.out.below hb17)
              clear T_16
              have X2_17 := Lib.hid (X2_16.out.below hb17)
              clear X2_16
              have T6_17 := Lib.hid (T6.out.below hb17)
              clear T6
              have R1 := Lib.hid (OwnMat.rowsAt ho7)
              clear ho7
              go_wp2_with fail
              refine (HSR.out _ T6_17.out).mono ?_
              rintro e w18 ⟨a8, c8, rfl, ho8, hb18⟩
              have z18 := hb18.size
              have q18 : Below w.heap.size w w18 := q17.trans (hb18.mono q17.size)
              have C_18 := Lib.hid (C_17.out.below hb18)
              clear C_17
              have T_18 := Lib.hid (T_17.out.below hb18)
              clear T_17
              have X2_18 := Lib.hid (X2_17.out.below hb18)
              clear X2_17
              have T6_18 := Lib.hid (T6_17.out.below hb18)
              clear T6_17
              have R1_18 := Lib.hid (R1.out.below hb18)
              clear R1
              have R2 := Lib.hid (OwnMat.rowsAt ho8)
              clear ho8
              go_wp2_with fail
              refine (sameLists_same _ _ _ _ R _ (by omega) (fun r hr => by have := HR40.out r hr; omega) R1_18.out R2.out).mono ?_
              rintro e w19 ⟨rfl, hb19⟩
              have z19 := hb19.size
              have q19 : Below w.heap.size w w19 := q18.trans (hb19.mono q18.size)
              have C_19 := Lib.hid (C_18.out.below hb19)
              clear C_18
              have T_19 := Lib.hid (T_18.out.below hb19)
              clear T_18
              have X2_19 := Lib.hid (X2_18.out.below hb19)
              clear X2_18
              have T6_19 := Lib.hid (T6_18.out.below hb19)
              clear T6_18
              have R1_19 := Lib.hid (R1_18.out.below hb19)
              clear R1_18
              have R2_19 := Lib.hid (R2.out.below hb19)
              clear R2
              clear R1_19 R2_19
              go_wp2_with fail
              refine (HIC.out _ T6_19.out).mono ?_
              rintro e w20 ⟨rfl, hb20⟩
              have z20 := hb20.size
              have q20 : Below w.heap.size w w20 := q19.trans (hb20.mono q19.size)
              have C_20 := Lib.hid (C_19.out.below hb20)
              clear C_19
              have T_20 := Lib.hid (T_19.out.below hb20)
              clear T_19
              have X2_20 := Lib.hid (X2_19.out.below hb20)
              clear X2_19
              have T6_20 := Lib.hid (T6_19.out.below hb20)
              clear T6_19
              go_wp2
              go_ret
              exact ⟨by first | rfl | (simp [HE3.out]) | (congr 2; simp; have := HE3.out; omega), q20⟩
    · have hn4e : n = 4 := HB4.out rfl
      have nn4 : ((n : Int) != 4) = false := by rw [hn4e]; rfl
      have hIPQ := fun w h1 h2 => implPeriodic a0 a2 c0 c2 ts a h X w (by omega) (by omega) hcap2 h1 h2
      rw [decide_eq_true (HPP.out rfl)] at hIPQ
      have HIPQ := Lib.hid hIPQ
      have HUS2 := Lib.hid (HUS.out rfl)
      have HIU := Lib.hid (fun w hc => implUseX a0 c0 ts w (by omega) hc)
      have hul : (nats (useful ts)).length ≤ 6 := by rw [nats_length]; exact HUL.out
      generalize nats (useful ts) = U at HIU HUS2 hul
      clear hIPQ HPP HUS HB4 HUL hn4e
      go_wp2_with fail
      refine (HIPQ.out _ T_8.out X2_8.out).mono ?_
      rintro e w9 ⟨rfl, hb9⟩
      have z9 := hb9.size
      have q9 : Below w.heap.size w w9 := q8.trans (hb9.mono q8.size)
      have C_9 := Lib.hid (C_8.out.below hb9)
      clear C_8
      have T_9 := Lib.hid (T_8.out.below hb9)
      clear T_8
      have X2_9 := Lib.hid (X2_8.out.below hb9)
      clear X2_8
      go_wp2_with fail
      refine (HIU.out _ T_9.out).mono ?_
      rintro e w10 ⟨a9, c9, rfl, ho9, hb10⟩
      have z10 := hb10.size
      have q10 : Below w.heap.size w w10 := q9.trans (hb10.mono q9.size)
      have C_10 := Lib.hid (C_9.out.below hb10)
      clear C_9
      have T_10 := Lib.hid (T_9.out.below hb10)
      clear T_9
      have X2_10 := Lib.hid (X2_9.out.below hb10)
      clear X2_9
      have UF := Lib.hid (ownsRow_cellsAt ho9)
      clear ho9 HIU HIPQ nn4
      go_wp2
      obtain ⟨wp, rfl⟩ : ∃ x, x = w10 := ⟨_, rfl⟩
      have hilX := ints_length X
      have hilU := ints_length U
      go_loopw [14] (fun i wr => ∃ j : Nat, j ≤ X.length ∧ i = .int .i64 j ∧ Below wp.heap.size wp wr) (fun i _ => X.length - (intOf i).toNat)
      case atStart => exact ⟨0, by omega, rfl, Below.refl _ _⟩
      case round =>
        obtain ⟨j, hj, rfl, hbr⟩ := hrel
        by_cases hlt : j < X.length
        · have hmem := HUS2.out _ (List.getElem_mem hlt)
          have hat := ints_at X j hlt
          generalize X[j] = z at hmem hat
          have HMEM := Lib.hid hmem
          have HAT := Lib.hid hat
          have HBR := Lib.hid hbr
          have hszr := hbr.size
          have HX := Lib.hid (X2_10.out.below hbr)
          have HU := Lib.hid (UF.out.below hbr)
          obtain ⟨wi, rfl⟩ : ∃ x, x = wr := ⟨_, rfl⟩
          clear hmem hat hbr
          go_wp2
          go_loopw [15, 16] (fun f k wr => ∃ m : Nat, m ≤ U.length ∧ f = .bool (decide (z ∈ U.take m)) ∧ k = .int .i64 m ∧ Below wi.heap.size wi wr) (fun _ k _ => U.length - (intOf k).toNat)
          case atStart => exact ⟨0, by omega, by simp, rfl, Below.refl _ _⟩
          case round =>
            obtain ⟨m, hm, rfl, rfl, hbi⟩ := hrel
            have HBI := Lib.hid hbi
            by_cases hlt2 : m < U.length
            · have hnx := mem_take_next hlt2 z
              have hau := ints_at U m hlt2
              generalize U[m] = u at hnx hau
              have hp1 : 0 < (ints X).length := by omega
              have hp2 : 0 < (ints U).length := by omega
              obtain ⟨gx, ox, rfl, _, hcx⟩ := (HX.out.below hbi).open hp1
              obtain ⟨gu, ou, rfl, _, hcu⟩ := (HU.out.below hbi).open hp2
              have x0 := hcx j _ HAT.out
              have u0 := hcu m _ hau
              have HNX := Lib.hid hnx
              have i1 : (j : Int) < (X.length : Int) := by omega
              have i2 : (m : Int) < (U.length : Int) := by omega
              clear hnx hau hcx hcu hbi hilX hilU hp1 hp2
              obtain ⟨fb, hfb⟩ : ∃ fb, fb = decide (z ∈ U.take m) := ⟨_, rfl⟩
              rw [← hfb]
              have HFB := Lib.hid hfb
              clear hfb
              by_cases hz : u = z
              · subst hz
                have hze : (u == u) = true := by simp
                have hrn : decide (u ∈ U.take (m + 1)) = true := decide_eq_true (HNX.out.2 (.inr rfl))
                have HRN := Lib.hid hrn
                clear hrn
                cases fb
                · go_wp2
                  go_big_quiet (fail)
                  go_wp2
                  go_roundw
                  case rel => exact ⟨m + 1, by omega, by rw [HRN.out], by go_num, by first | exact HBI.out.drew | exact HBI.out | exact below_drewN HBI.out _⟩
                  case measure => simp [intOf]; omega
                · go_wp2
                  go_big_quiet (fail)
                  go_wp2
                  go_roundw
                  case rel => exact ⟨m + 1, by omega, by rw [HRN.out], by go_num, by first | exact HBI.out.drew | exact HBI.out | exact below_drewN HBI.out _⟩
                  case measure => simp [intOf]; omega
              · have hze : (u == z) = false := by simp [hz]
                have hzd : decide (u = z) = false := decide_eq_false hz
                have hrn : decide (z ∈ U.take (m + 1)) = fb := by
                  rw [HFB.out]
                  exact decide_eq_decide.2 ⟨fun q => (HNX.out.1 q).resolve_right hz, fun q => HNX.out.2 (.inl q)⟩
                have HRN := Lib.hid hrn
                clear hrn
                cases fb
                · go_wp2
                  go_big_quiet (fail)
                  go_wp2
                  go_roundw
                  case rel => exact ⟨m + 1, by omega, by rw [HRN.out], by go_num, by first | exact HBI.out.drew | exact HBI.out | exact below_drewN HBI.out _⟩
                  case measure => simp [intOf]; omega
                · go_wp2
                  go_big_quiet (fail)
                  go_wp2
                  go_roundw
                  case rel => exact ⟨m + 1, by omega, by rw [HRN.out], by go_num, by first | exact HBI.out.drew | exact HBI.out | exact below_drewN HBI.out _⟩
                  case measure => simp [intOf]; omega
            · obtain rfl : m = U.length := by omega
              have hall : decide (z ∈ U.take U.length) = true := decide_eq_true (by rw [List.take_length]; exact HMEM.out)
              rw [hall]
              have HB2 := Lib.hid (HBR.out.trans (hbi.mono hszr))
              clear hbi
              go_wp2
              go_roundw
              case rel => exact ⟨j + 1, by omega, by go_num, HB2.out⟩
              case measure => simp [intOf]; omega
        · obtain rfl : j = X.length := by omega
          obtain ⟨w11, rfl⟩ : ∃ x, x = wr := ⟨_, rfl⟩
          have hb11 := hbr
          clear hbr hilX hilU
          have z11 := hb11.size
          have q11 : Below w.heap.size w w11 := q10.trans (hb11.mono q10.size)
          have C_11 := Lib.hid (C_10.out.below hb11)
          clear C_10
          have T_11 := Lib.hid (T_10.out.below hb11)
          clear T_10
          have X2_11 := Lib.hid (X2_10.out.below hb11)
          clear X2_10
          have UF_11 := Lib.hid (UF.out.below hb11)
          clear UF
          clear UF_11 X2_11
          clear hlt hj HUS2
          go_wp2
          obtain ⟨wo2, rfl⟩ : ∃ x, x = w11 := ⟨_, rfl⟩
          have HBO := Lib.hid (Below.refl wo2.heap.size wo2)
          go_loopw [17] (fun i wr => ∃ k : Nat, 1 ≤ k ∧ k ≤ n + 1 ∧ i = .int .i64 k ∧ Below wo2.heap.size wo2 wr) (fun i _ => n + 1 - (intOf i).toNat)
          case atStart => exact ⟨1, by omega, by omega, rfl, Below.refl _ _⟩
          case round =>
            obtain ⟨k, hk1, hk2, rfl, hbr⟩ := hrel
            by_cases hlt : k ≤ n
            · have hd : decide ((k : Int) ≤ (n : Int)) = true := decide_eq_true (by omega)
              have hdn : decide (k ≤ n) = true := decide_eq_true hlt
              have hF := specFindX a0 c0 ts k k wr (by omega) (T_11.out.below hbr)
              rw [HSQ.out k hk1 hlt] at hF
              have HF := Lib.hid hF
              have HBR := Lib.hid hbr
              have hsz := hbr.size
              clear hF hbr
              go_wp2_with fail
              refine HF.out.mono ?_
              rintro e w2 ⟨af, cf, rfl, _, hb2⟩
              have HB2 := Lib.hid (HBR.out.trans (hb2.mono hsz))
              clear hb2
              go_wp2
              go_roundw
              case rel => exact ⟨k + 1, by omega, by omega, by go_num, HB2.out⟩
              case measure => simp [intOf]; omega
            · have hk : k = n + 1 := by omega
              have hd : decide ((k : Int) ≤ (n : Int)) = false := decide_eq_false (by omega)
              have hdn : decide (k ≤ n) = false := decide_eq_false hlt
              obtain ⟨w12, rfl⟩ : ∃ x, x = wr := ⟨_, rfl⟩
              have hb12 := hbr
              clear hbr hk
              have z12 := hb12.size
              have q12 : Below w.heap.size w w12 := q11.trans (hb12.mono q11.size)
              have C_12 := Lib.hid (C_11.out.below hb12)
              clear C_11
              have T_12 := Lib.hid (T_11.out.below hb12)
              clear T_11
              go_wp2_with fail
              refine (drawExpand _ _ _ _ hn HW.out C_12.out).mono ?_
              rintro e w13 ⟨a3, c3, ts3, x3, y3, af3, cf3, xs3, k3, rfl, hu1, hu5, hx3, hy3, hl3, hcap3, hk3, hts3, hxs3, hb13⟩
              have z13 := hb13.size
              have q13 : Below w.heap.size w w13 := q12.trans (hb13.mono q12.size)
              have C_13 := Lib.hid (C_12.out.below hb13)
              clear C_12
              have T_13 := Lib.hid (T_12.out.below hb13)
              clear T_12
              have T3 := Lib.hid (hts3)
              have X3 := Lib.hid (hxs3)
              clear hts3 hxs3 hlt hk1 hk2 hd hdn
              have hlE := expand_small ts3 x3 y3 k3 xs3
              have HEX := Lib.hid (fun h => expand_per (ts := ts3) (a := x3) (b := y3) (xs := xs3) (k := (k3 : Int)) h)
              have HIE := Lib.hid (fun w h1 h2 => implExpand a3 af3 c3 cf3 ts3 x3 y3 xs3 k3 w (by omega) (by omega) hcap3 (by omega) h1 h2)
              have HSE := Lib.hid (fun w h1 h2 => specExpand a3 af3 c3 cf3 ts3 x3 y3 xs3 k3 w (by omega) (by omega) hcap3 (by omega) h1 h2)
              have HIQ := Lib.hid (fun w h1 h2 => implPeriodic a3 af3 c3 cf3 ts3 x3 y3 xs3 w (by omega) (by omega) hcap3 h1 h2)
              have HSQ3 := Lib.hid (fun w h1 h2 => specPeriodic a3 af3 c3 cf3 ts3 x3 y3 xs3 w (by omega) (by omega) hcap3 h1 h2)
              have HK3 := Lib.hid (fun (h : ExOk ts3 x3 y3 xs3 (k3 : Int)) => h.2.2)
              generalize expand ts3 x3 y3 xs3 k3 = E at hlE HEX HIE HSE
              generalize decide (IsPer ts3 x3 y3 xs3) = bq at HIQ HSQ3
              have nnq : (bq != bq) = false := by simp
              by_cases hex : ExOk ts3 x3 y3 xs3 (k3 : Int)
              · rw [decide_eq_true hex] at HIE HSE
                obtain ⟨hEP, hp1, hq1⟩ := HEX.out hex
                obtain ⟨hp4, hq4⟩ := HK3.out hex
                obtain ⟨p, hp⟩ : ∃ p : Nat, x3 * (k3 : Int) = (p : Int) := ⟨(x3 * (k3 : Int)).toNat, by omega⟩
                obtain ⟨q, hq⟩ : ∃ q : Nat, y3 * (k3 : Int) = (q : Int) := ⟨(y3 * (k3 : Int)).toNat, by omega⟩
                rw [hp] at hEP hp1 hp4
                rw [hq] at hEP hq1 hq4
                have wp1 : IntKind.i64.wrap (p : Int) = (p : Int) := IntWalk.i64_in _ (by omega)
                have wq1 : IntKind.i64.wrap (q : Int) = (q : Int) := IntWalk.i64_in _ (by omega)
                have HEP := Lib.hid hEP
                clear hex hEP HEX HK3 hx3 hy3
                go_wp2_with fail
                refine (HIE.out _ T3.out X3.out).mono ?_
                rintro e w14 ⟨a4, c4, rfl, ho4, hb14⟩
                have z14 := hb14.size
                have q14 : Below w.heap.size w w14 := q13.trans (hb14.mono q13.size)
                have C_14 := Lib.hid (C_13.out.below hb14)
                clear C_13
                have T_14 := Lib.hid (T_13.out.below hb14)
                clear T_13
                have T3_14 := Lib.hid (T3.out.below hb14)
                clear T3
                have X3_14 := Lib.hid (X3.out.below hb14)
                clear X3
                have E1 := Lib.hid (ownsRow_cellsAt ho4)
                clear ho4
                go_wp2_with fail
                refine (HSE.out _ T3_14.out X3_14.out).mono ?_
                rintro e w15 ⟨a5, c5, rfl, ho5, hb15⟩
                have z15 := hb15.size
                have q15 : Below w.heap.size w w15 := q14.trans (hb15.mono q14.size)
                have C_15 := Lib.hid (C_14.out.below hb15)
                clear C_14
                have T_15 := Lib.hid (T_14.out.below hb15)
                clear T_14
                have T3_15 := Lib.hid (T3_14.out.below hb15)
                clear T3_14
                have X3_15 := Lib.hid (X3_14.out.below hb15)
                clear X3_14
                have E1_15 := Lib.hid (E1.out.below hb15)
                clear E1
                have E2 := Lib.hid (ownsRow_cellsAt ho5)
                have hcap5 := row_le_cap ho5
                clear ho5
                go_wp2_with fail
                refine (sameInts_same _ _ _ _ E _ (by omega) E1_15.out E2.out).mono ?_
                rintro e w16 ⟨rfl, hb16⟩
                have z16 := hb16.size
                have q16 : Below w.heap.size w w16 := q15.trans (hb16.mono q15.size)
                have C_16 := Lib.hid (C_15.out.below hb16)
                clear C_15
                have T_16 := Lib.hid (T_15.out.below hb16)
                clear T_15
                have T3_16 := Lib.hid (T3_15.out.below hb16)
                clear T3_15
                have X3_16 := Lib.hid (X3_15.out.below hb16)
                clear X3_15
                have E1_16 := Lib.hid (E1_15.out.below hb16)
                clear E1_15
                have E2_16 := Lib.hid (E2.out.below hb16)
                clear E2
                have HIQ2 := Lib.hid (fun w h1 h2 => implPeriodic a3 a5 c3 c5 ts3 p q E w (by omega) (by omega) hcap5 h1 h2)
                rw [decide_eq_true HEP.out] at HIQ2
                go_wp2_with fail
                refine (HIQ2.out _ T3_16.out E2_16.out).mono ?_
                rintro e w17 ⟨rfl, hb17⟩
                have z17 := hb17.size
                have q17 : Below w.heap.size w w17 := q16.trans (hb17.mono q16.size)
                have C_17 := Lib.hid (C_16.out.below hb17)
                clear C_16
                have T_17 := Lib.hid (T_16.out.below hb17)
                clear T_16
                have T3_17 := Lib.hid (T3_16.out.below hb17)
                clear T3_16
                have X3_17 := Lib.hid (X3_16.out.below hb17)
                clear X3_16
                have E1_17 := Lib.hid (E1_16.out.below hb17)
                clear E1_16
                have E2_17 := Lib.hid (E2_16.out.below hb17)
                clear E2_16
                clear E1_17 E2_17
                go_wp2_with fail
                refine (HIQ.out _ T3_17.out X3_17.out).mono ?_
                rintro e w18 ⟨rfl, hb18⟩
                have z18 := hb18.size
                have q18 : Below w.heap.size w w18 := q17.trans (hb18.mono q17.size)
                have C_18 := Lib.hid (C_17.out.below hb18)
                clear C_17
                have T_18 := Lib.hid (T_17.out.below hb18)
                clear T_17
                have T3_18 := Lib.hid (T3_17.out.below hb18)
                clear T3_17
                have X3_18 := Lib.hid (X3_17.out.below hb18)
                clear X3_17
                go_wp2_with fail
                refine (HSQ3.out _ T3_18.out X3_18.out).mono ?_
                rintro e w19 ⟨rfl, hb19⟩
                have z19 := hb19.size
                have q19 : Below w.heap.size w w19 := q18.trans (hb19.mono q18.size)
                have C_19 := Lib.hid (C_18.out.below hb19)
                clear C_18
                have T_19 := Lib.hid (T_18.out.below hb19)
                clear T_18
                have T3_19 := Lib.hid (T3_18.out.below hb19)
                clear T3_18
                have X3_19 := Lib.hid (X3_18.out.below hb19)
                clear X3_18
                clear T3_19 X3_19
                go_wp2_with fail
                refine (drawRowGraph _ _ _ _ hn HW.out C_19.out).mono ?_
                rintro e w20 ⟨a6, c6, ts6, x6, rfl, hv1, hv5, hx6, hts6, hb20⟩
                have z20 := hb20.size
                have q20 : Below w.heap.size w w20 := q19.trans (hb20.mono q19.size)
                have C_20 := Lib.hid (C_19.out.below hb20)
                clear C_19
                have T_20 := Lib.hid (T_19.out.below hb20)
                clear T_19
                have T6 := Lib.hid (hts6)
                clear hts6
                have HIR := Lib.hid (fun w hc => implRG a6 c6 ts6 x6 w (by omega) hc)
                have HSR := Lib.hid (fun w hc => specRG a6 c6 ts6 x6 w (by omega) hc)
                have HIC := Lib.hid (fun w hc => implCount a6 c6 ts6 x6 1 w (by omega) hc)
                have HRC := Lib.hid (fun h => rg_count (ts := ts6) (a := (x6 : Int)) h)
                have hrs := rg_small ts6 x6
                unfold RgAt at HIR HSR
                generalize rgL ts6 x6 = R at HIR HSR HRC hrs
                generalize rgB ts6 x6 = rb at HIR HSR HRC
                generalize countFills ts6 x6 1 = cf at HIC HRC
                obtain ⟨hR80, hR40⟩ := hrs
                have HR40 := Lib.hid hR40
                clear hR40
                cases rb
                · skip
                  go_wp2_with fail
                  refine (HIR.out _ T6.out).mono ?_
                  rintro e w21 ⟨a7, c7, rfl, ho7, hb21⟩
                  have z21 := hb21.size
                  have q21 : Below w.heap.size w w21 := q20.trans (hb21.mono q20.size)
                  have C_21 := Lib.hid (C_20.out.below hb21)
                  clear C_20
                  have T_21 := Lib.hid (T_20.out.below hb21)
                  clear T_20
                  have T6_21 := Lib.hid (T6.out.below hb21)
                  clear T6
                  have R1 := Lib.hid (OwnMat.rowsAt ho7)
                  clear ho7
                  go_wp2_with fail
                  refine (HSR.out _ T6_21.out).mono ?_
                  rintro e w22 ⟨a8, c8, rfl, ho8, hb22⟩
                  have z22 := hb22.size
                  have q22 : Below w.heap.size w w22 := q21.trans (hb22.mono q21.size)
                  have C_22 := Lib.hid (C_21.out.below hb22)
                  clear C_21
                  have T_22 := Lib.hid (T_21.out.below hb22)
                  clear T_21
                  have T6_22 := Lib.hid (T6_21.out.below hb22)
                  clear T6_21
                  have R1_22 := Lib.hid (R1.out.below hb22)
                  clear R1
                  have R2 := Lib.hid (OwnMat.rowsAt ho8)
                  clear ho8
                  go_wp2_with fail
                  refine (sameLists_same _ _ _ _ R _ (by omega) (fun r hr => by have := HR40.out r hr; omega) R1_22.out R2.out).mono ?_
                  rintro e w23 ⟨rfl, hb23⟩
                  have z23 := hb23.size
                  have q23 : Below w.heap.size w w23 := q22.trans (hb23.mono q22.size)
                  have C_23 := Lib.hid (C_22.out.below hb23)
                  clear C_22
                  have T_23 := Lib.hid (T_22.out.below hb23)
                  clear T_22
                  have T6_23 := Lib.hid (T6_22.out.below hb23)
                  clear T6_22
                  have R1_23 := Lib.hid (R1_22.out.below hb23)
                  clear R1_22
                  have R2_23 := Lib.hid (R2.out.below hb23)
                  clear R2
                  clear R1_23 R2_23
                  go_wp2
                  go_ret
                  exact ⟨rfl, q23⟩

                · skip
                  obtain ⟨hRC, hcf0, hcf40⟩ := HRC.out rfl
                  obtain ⟨cn, rfl⟩ : ∃ cn : Nat, cf = (cn : Int) := ⟨cf.toNat, by omega⟩
                  obtain ⟨dn, hdn⟩ : ∃ dn : Nat, dn = 2 * cn := ⟨_, rfl⟩
                  have e1 : (2 : Int) * (cn : Int) = (dn : Int) := by omega
                  have e2 : IntKind.i64.wrap (dn : Int) = (dn : Int) := IntWalk.i64_in _ (by omega)
                  have e3 : (R.length : Int) = (dn : Int) := by omega
                  have e4 : ((R.length : Int) == (dn : Int)) = true := by simp; omega
                  have e5 : decide ((R.length : Int) = (dn : Int)) = true := decide_eq_true e3
                  have HE3 := Lib.hid e3
                  clear hRC hdn hcf0 hcf40 e3
                  go_wp2_with fail
                  refine (HIR.out _ T6.out).mono ?_
                  rintro e w21 ⟨a7, c7, rfl, ho7, hb21⟩
                  have z21 := hb21.size
                  have q21 : Below w.heap.size w w21 := q20.trans (hb21.mono q20.size)
                  have C_21 := Lib.hid (C_20.out.below hb21)
                  clear C_20
                  have T_21 := Lib.hid (T_20.out.below hb21)
                  clear T_20
                  have T6_21 := Lib.hid (T6.out.below hb21)
                  clear T6
                  have R1 := Lib.hid (OwnMat.rowsAt ho7)
                  clear ho7
                  go_wp2_with fail
                  refine (HSR.out _ T6_21.out).mono ?_
                  rintro e w22 ⟨a8, c8, rfl, ho8, hb22⟩
                  have z22 := hb22.size
                  have q22 : Below w.heap.size w w22 := q21.trans (hb22.mono q21.size)
                  have C_22 := Lib.hid (C_21.out.below hb22)
                  clear C_21
                  have T_22 := Lib.hid (T_21.out.below hb22)
                  clear T_21
                  have T6_22 := Lib.hid (T6_21.out.below hb22)
                  clear T6_21
                  have R1_22 := Lib.hid (R1.out.below hb22)
                  clear R1
                  have R2 := Lib.hid (OwnMat.rowsAt ho8)
                  clear ho8
                  go_wp2_with fail
                  refine (sameLists_same _ _ _ _ R _ (by omega) (fun r hr => by have := HR40.out r hr; omega) R1_22.out R2.out).mono ?_
                  rintro e w23 ⟨rfl, hb23⟩
                  have z23 := hb23.size
                  have q23 : Below w.heap.size w w23 := q22.trans (hb23.mono q22.size)
                  have C_23 := Lib.hid (C_22.out.below hb23)
                  clear C_22
                  have T_23 := Lib.hid (T_22.out.below hb23)
                  clear T_22
                  have T6_23 := Lib.hid (T6_22.out.below hb23)
                  clear T6_22
                  have R1_23 := Lib.hid (R1_22.out.below hb23)
                  clear R1_22
                  have R2_23 := Lib.hid (R2.out.below hb23)
                  clear R2
                  clear R1_23 R2_23
                  go_wp2_with fail
                  refine (HIC.out _ T6_23.out).mono ?_
                  rintro e w24 ⟨rfl, hb24⟩
                  have z24 := hb24.size
                  have q24 : Below w.heap.size w w24 := q23.trans (hb24.mono q23.size)
                  have C_24 := Lib.hid (C_23.out.below hb24)
                  clear C_23
                  have T_24 := Lib.hid (T_23.out.below hb24)
                  clear T_23
                  have T6_24 := Lib.hid (T6_23.out.below hb24)
                  clear T6_23
                  go_wp2
                  go_ret
                  exact ⟨by first | rfl | (simp [HE3.out]) | (congr 2; simp; have := HE3.out; omega), q24⟩
              · rw [decide_eq_false hex] at HIE HSE
                clear hex HEX HK3
                go_wp2_with fail
                refine (HIE.out _ T3.out X3.out).mono ?_
                rintro e w14 ⟨a4, c4, rfl, ho4, hb14⟩
                have z14 := hb14.size
                have q14 : Below w.heap.size w w14 := q13.trans (hb14.mono q13.size)
                have C_14 := Lib.hid (C_13.out.below hb14)
                clear C_13
                have T_14 := Lib.hid (T_13.out.below hb14)
                clear T_13
                have T3_14 := Lib.hid (T3.out.below hb14)
                clear T3
                have X3_14 := Lib.hid (X3.out.below hb14)
                clear X3
                have E1 := Lib.hid (ownsRow_cellsAt ho4)
                clear ho4
                go_wp2_with fail
                refine (HSE.out _ T3_14.out X3_14.out).mono ?_
                rintro e w15 ⟨a5, c5, rfl, ho5, hb15⟩
                have z15 := hb15.size
                have q15 : Below w.heap.size w w15 := q14.trans (hb15.mono q14.size)
                have C_15 := Lib.hid (C_14.out.below hb15)
                clear C_14
                have T_15 := Lib.hid (T_14.out.below hb15)
                clear T_14
                have T3_15 := Lib.hid (T3_14.out.below hb15)
                clear T3_14
                have X3_15 := Lib.hid (X3_14.out.below hb15)
                clear X3_14
                have E1_15 := Lib.hid (E1.out.below hb15)
                clear E1
                have E2 := Lib.hid (ownsRow_cellsAt ho5)
                clear ho5
                go_wp2_with fail
                refine (sameInts_same _ _ _ _ E _ (by omega) E1_15.out E2.out).mono ?_
                rintro e w16 ⟨rfl, hb16⟩
                have z16 := hb16.size
                have q16 : Below w.heap.size w w16 := q15.trans (hb16.mono q15.size)
                have C_16 := Lib.hid (C_15.out.below hb16)
                clear C_15
                have T_16 := Lib.hid (T_15.out.below hb16)
                clear T_15
                have T3_16 := Lib.hid (T3_15.out.below hb16)
                clear T3_15
                have X3_16 := Lib.hid (X3_15.out.below hb16)
                clear X3_15
                have E1_16 := Lib.hid (E1_15.out.below hb16)
                clear E1_15
                have E2_16 := Lib.hid (E2.out.below hb16)
                clear E2
                clear E1_16 E2_16
                go_wp2_with fail
                refine (HIQ.out _ T3_16.out X3_16.out).mono ?_
                rintro e w17 ⟨rfl, hb17⟩
                have z17 := hb17.size
                have q17 : Below w.heap.size w w17 := q16.trans (hb17.mono q16.size)
                have C_17 := Lib.hid (C_16.out.below hb17)
                clear C_16
                have T_17 := Lib.hid (T_16.out.below hb17)
                clear T_16
                have T3_17 := Lib.hid (T3_16.out.below hb17)
                clear T3_16
                have X3_17 := Lib.hid (X3_16.out.below hb17)
                clear X3_16
                go_wp2_with fail
                refine (HSQ3.out _ T3_17.out X3_17.out).mono ?_
                rintro e w18 ⟨rfl, hb18⟩
                have z18 := hb18.size
                have q18 : Below w.heap.size w w18 := q17.trans (hb18.mono q17.size)
                have C_18 := Lib.hid (C_17.out.below hb18)
                clear C_17
                have T_18 := Lib.hid (T_17.out.below hb18)
                clear T_17
                have T3_18 := Lib.hid (T3_17.out.below hb18)
                clear T3_17
                have X3_18 := Lib.hid (X3_17.out.below hb18)
                clear X3_17
                clear T3_18 X3_18
                go_wp2_with fail
                refine (drawRowGraph _ _ _ _ hn HW.out C_18.out).mono ?_
                rintro e w19 ⟨a6, c6, ts6, x6, rfl, hv1, hv5, hx6, hts6, hb19⟩
                have z19 := hb19.size
                have q19 : Below w.heap.size w w19 := q18.trans (hb19.mono q18.size)
                have C_19 := Lib.hid (C_18.out.below hb19)
                clear C_18
                have T_19 := Lib.hid (T_18.out.below hb19)
                clear T_18
                have T6 := Lib.hid (hts6)
                clear hts6
                have HIR := Lib.hid (fun w hc => implRG a6 c6 ts6 x6 w (by omega) hc)
                have HSR := Lib.hid (fun w hc => specRG a6 c6 ts6 x6 w (by omega) hc)
                have HIC := Lib.hid (fun w hc => implCount a6 c6 ts6 x6 1 w (by omega) hc)
                have HRC := Lib.hid (fun h => rg_count (ts := ts6) (a := (x6 : Int)) h)
                have hrs := rg_small ts6 x6
                unfold RgAt at HIR HSR
                generalize rgL ts6 x6 = R at HIR HSR HRC hrs
                generalize rgB ts6 x6 = rb at HIR HSR HRC
                generalize countFills ts6 x6 1 = cf at HIC HRC
                obtain ⟨hR80, hR40⟩ := hrs
                have HR40 := Lib.hid hR40
                clear hR40
                cases rb
                · skip
                  go_wp2_with fail
                  refine (HIR.out _ T6.out).mono ?_
                  rintro e w20 ⟨a7, c7, rfl, ho7, hb20⟩
                  have z20 := hb20.size
                  have q20 : Below w.heap.size w w20 := q19.trans (hb20.mono q19.size)
                  have C_20 := Lib.hid (C_19.out.below hb20)
                  clear C_19
                  have T_20 := Lib.hid (T_19.out.below hb20)
                  clear T_19
                  have T6_20 := Lib.hid (T6.out.below hb20)
                  clear T6
                  have R1 := Lib.hid (OwnMat.rowsAt ho7)
                  clear ho7
                  go_wp2_with fail
                  refine (HSR.out _ T6_20.out).mono ?_
                  rintro e w21 ⟨a8, c8, rfl, ho8, hb21⟩
                  have z21 := hb21.size
                  have q21 : Below w.heap.size w w21 := q20.trans (hb21.mono q20.size)
                  have C_21 := Lib.hid (C_20.out.below hb21)
                  clear C_20
                  have T_21 := Lib.hid (T_20.out.below hb21)
                  clear T_20
                  have T6_21 := Lib.hid (T6_20.out.below hb21)
                  clear T6_20
                  have R1_21 := Lib.hid (R1.out.below hb21)
                  clear R1
                  have R2 := Lib.hid (OwnMat.rowsAt ho8)
                  clear ho8
                  go_wp2_with fail
                  refine (sameLists_same _ _ _ _ R _ (by omega) (fun r hr => by have := HR40.out r hr; omega) R1_21.out R2.out).mono ?_
                  rintro e w22 ⟨rfl, hb22⟩
                  have z22 := hb22.size
                  have q22 : Below w.heap.size w w22 := q21.trans (hb22.mono q21.size)
                  have C_22 := Lib.hid (C_21.out.below hb22)
                  clear C_21
                  have T_22 := Lib.hid (T_21.out.below hb22)
                  clear T_21
                  have T6_22 := Lib.hid (T6_21.out.below hb22)
                  clear T6_21
                  have R1_22 := Lib.hid (R1_21.out.below hb22)
                  clear R1_21
                  have R2_22 := Lib.hid (R2.out.below hb22)
                  clear R2
                  clear R1_22 R2_22
                  go_wp2
                  go_ret
                  exact ⟨rfl, q22⟩

                · skip
                  obtain ⟨hRC, hcf0, hcf40⟩ := HRC.out rfl
                  obtain ⟨cn, rfl⟩ : ∃ cn : Nat, cf = (cn : Int) := ⟨cf.toNat, by omega⟩
                  obtain ⟨dn, hdn⟩ : ∃ dn : Nat, dn = 2 * cn := ⟨_, rfl⟩
                  have e1 : (2 : Int) * (cn : Int) = (dn : Int) := by omega
                  have e2 : IntKind.i64.wrap (dn : Int) = (dn : Int) := IntWalk.i64_in _ (by omega)
                  have e3 : (R.length : Int) = (dn : Int) := by omega
                  have e4 : ((R.length : Int) == (dn : Int)) = true := by simp; omega
                  have e5 : decide ((R.length : Int) = (dn : Int)) = true := decide_eq_true e3
                  have HE3 := Lib.hid e3
                  clear hRC hdn hcf0 hcf40 e3
                  go_wp2_with fail
                  refine (HIR.out _ T6.out).mono ?_
                  rintro e w20 ⟨a7, c7, rfl, ho7, hb20⟩
                  have z20 := hb20.size
                  have q20 : Below w.heap.size w w20 := q19.trans (hb20.mono q19.size)
                  have C_20 := Lib.hid (C_19.out.below hb20)
                  clear C_19
                  have T_20 := Lib.hid (T_19.out.below hb20)
                  clear T_19
                  have T6_20 := Lib.hid (T6.out.below hb20)
                  clear T6
                  have R1 := Lib.hid (OwnMat.rowsAt ho7)
                  clear ho7
                  go_wp2_with fail
                  refine (HSR.out _ T6_20.out).mono ?_
                  rintro e w21 ⟨a8, c8, rfl, ho8, hb21⟩
                  have z21 := hb21.size
                  have q21 : Below w.heap.size w w21 := q20.trans (hb21.mono q20.size)
                  have C_21 := Lib.hid (C_20.out.below hb21)
                  clear C_20
                  have T_21 := Lib.hid (T_20.out.below hb21)
                  clear T_20
                  have T6_21 := Lib.hid (T6_20.out.below hb21)
                  clear T6_20
                  have R1_21 := Lib.hid (R1.out.below hb21)
                  clear R1
                  have R2 := Lib.hid (OwnMat.rowsAt ho8)
                  clear ho8
                  go_wp2_with fail
                  refine (sameLists_same _ _ _ _ R _ (by omega) (fun r hr => by have := HR40.out r hr; omega) R1_21.out R2.out).mono ?_
                  rintro e w22 ⟨rfl, hb22⟩
                  have z22 := hb22.size
                  have q22 : Below w.heap.size w w22 := q21.trans (hb22.mono q21.size)
                  have C_22 := Lib.hid (C_21.out.below hb22)
                  clear C_21
                  have T_22 := Lib.hid (T_21.out.below hb22)
                  clear T_21
                  have T6_22 := Lib.hid (T6_21.out.below hb22)
                  clear T6_21
                  have R1_22 := Lib.hid (R1_21.out.below hb22)
                  clear R1_21
                  have R2_22 := Lib.hid (R2.out.below hb22)
                  clear R2
                  clear R1_22 R2_22
                  go_wp2_with fail
                  refine (HIC.out _ T6_22.out).mono ?_
                  rintro e w23 ⟨rfl, hb23⟩
                  have z23 := hb23.size
                  have q23 : Below w.heap.size w w23 := q22.trans (hb23.mono q22.size)
                  have C_23 := Lib.hid (C_22.out.below hb23)
                  clear C_22
                  have T_23 := Lib.hid (T_22.out.below hb23)
                  clear T_22
                  have T6_23 := Lib.hid (T6_22.out.below hb23)
                  clear T6_22
                  go_wp2
                  go_ret
                  exact ⟨by first | rfl | (simp [HE3.out]) | (congr 2; simp; have := HE3.out; omega), q23⟩
  · rw [decide_eq_true (by omega)] at hbig
    have HBIG := Lib.hid hbig
    clear hbig hc0 hw0
    go_enter Tryd.func7, Tryd.ntmps7
    go_wp2_with fail
    refine (HBIG.out _).mono ?_
    rintro e w' ⟨rfl, rfl⟩
    go_wp2
    go_ret
    exact ⟨rfl, Below.refl _ _⟩

set_option maxRecDepth 100000 in
theorem lifted (os : Os) (started : os.Started) (H : Type) (enc : TypeId × Value → H) :
    ReturnsInHanded {} Tryd.checked os 7 .any (fun w args => (Rows.fnPeriodsSpec.pre enc Tryd.prog Tryd.f7 Rows.fnPeriodsRow.domain false w args ∧ laidMetH Tryd.prog tabs3 w) ∧ sizedMet enc Tryd.prog Tryd.f7 (OpenSpec.ofChange Rows.fnPeriodsSpec) false w args) (Rows.fnPeriodsSpec.post enc Tryd.prog Tryd.f7 false true false false) := by
  refine returnsInHanded_of_change_and (C := Tryd.checked) (X := fun w _ => laidMetH Tryd.prog tabs3 w) (fun _ _ _ hh h => h.of_heap hh) Tryd.own started (by kernel_rfl) Tryd.func7
    (ChangeSpec.witness_shaped (enc := enc) (C := Tryd.checked) (os := os) (X := fun w _ => laidMetH Tryd.prog tabs3 w) false (World.laidAll Tryd.prog os tabs3) #[.slice none 0 0] 8 (World.laidAll_os _ _ _)
      (World.shaped_of_ZipB (by kernel_rfl) (by kernel_rfl)) (by kernel_rfl) (by kernel_rfl) (by kernel_rfl)
      (by rw [MakeChecks.laidMetH_plain _ _ _ (by kernel_rfl)]; exact laidMet_laidAll _ (by kernel_rfl) (by kernel_rfl))) ?_
  intro W base args ds gs before hval0 hW hcnd _ hL _
  have hval : ∀ (j : Nat) t v, Tryd.f7.params[j]? = some t → args[j]? = some v → Value.okWide Tryd.prog W .any base t v := hval0
  have hW' := hW
  obtain ⟨p, q, hA0, hV, rfl, hfz, hnd⟩ := hW
  have hA : DataW.TrodAll enc Tryd.prog W 0 (fun _ => true) true Tryd.f7.params.toList args.toList ds p := hA0
  rw [Tryd.params7] at hA hval
  obtain ⟨v0, vs0, d0, ds0, p0, q0, hargs, rfl, rfl, h0, r0⟩ := trodAll_cons hA
  obtain ⟨rfl, rfl, rfl⟩ := trodAll_nil r0
  obtain rfl : args = #[v0] := by cases args; simp_all
  obtain ⟨rfl, rfl⟩ := trodVars_none hV
  obtain ⟨ad0, cap0, xs0, rfl, hm0, hc0, hw0⟩ := openBts (hval 0 33 v0 rfl rfl) h0
  clear hA0 hval0
  refine (walk W ad0 cap0 xs0 hm0 hc0 hw0).mono fun e W' ⟨he, hb⟩ => ?_
  subst he
  exact ⟨_, rfl, law_post rfl hW' hb (by rw [Tryd.params7]; exact readable_all (by kernel_rfl)) (by kernel_rfl) (by kernel_rfl) rfl⟩

theorem proved : Rows.FnPeriodsSaid :=
  OpenClaim.holds_of_wide 7 Tryd.f7 rfl rfl rfl rfl rfl rfl rfl ⟨rfl, rfl, rfl, rfl, rfl⟩ rfl rfl rfl rfl rfl (by kernel_rfl) Tryd.func7 (by kernel_rfl)
    (of_decide_eq_true (by kernel_rfl)) (by unfold Func.isWrapper; first | (rw [if_pos (by decide +kernel)]; kernel_rfl) | (rw [if_neg (by decide +kernel)]; exact ⟨rfl, rfl⟩))
    (fun os started H enc _ => lifted os started H enc)

theorem card : Rows.FnPeriodsCardSaid :=
  Claim7.holds_tied_plain_at .later [] [.data, .data, .data] true (true, "4819d24e09a884b5f2ccb9661a81f42dec9b3b02da50283e748b7986a53aa823") false proved (fun _ h => by cases h) (by kernel_rfl) (fun _ h => by cases h) fnPeriods_row_tie rfl ⟨rfl, rfl⟩ (by kernel_rfl) rfl
    (fun f fn hf hfn => by
      obtain rfl : f = 7 := Option.some.inj ((show Tryd.prog.funcNamed "loop.example/g03400/laws.FnPeriods" = some 7 by kernel_rfl).symm.trans hf) |>.symm
      obtain rfl : fn = Tryd.f7 := (Option.some.inj (Tryd.func7.symm.trans hfn)).symm
      exact ⟨by kernel_rfl, fun j t ht => by
        have hm : t ∈ Tryd.f7.params.toList := Array.mem_toList_iff.2 (Array.mem_of_getElem? ht)
        have hall : (Tryd.f7.params.toList.all fun u => !Tryd.prog.wantsStandIn u) = true := by kernel_rfl
        exact (show Tryd.prog.wantsStandIn t = false by simpa using List.all_eq_true.1 hall t hm)⟩)
    (by kernel_rfl)
end Go.Proofs.YtdnklmdmafbogaaDoor.lawFPer
