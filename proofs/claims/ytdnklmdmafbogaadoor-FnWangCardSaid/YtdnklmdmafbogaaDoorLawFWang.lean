/- LawFWang: FnWang holds for every code, where the library's tables lie as their initialisers lay them (the card ties that to the program's text). -/
import Derived.Test.YtdnklmdmafbogaaDoorFrameBts
import Derived.Test.YtdnklmdmafbogaaDoorSameI
import Derived.Test.YtdnklmdmafbogaaDoorDrawPW
import Derived.Test.YtdnklmdmafbogaaDoorWangLaw0
import Derived.Test.YtdnklmdmafbogaaDoorUseful2
import Derived.Test.YtdnklmdmafbogaaDoorUseful
import Derived.Test.YtdnklmdmafbogaaDoorFmtI
import Derived.Test.YtdnklmdmafbogaaDoorParseS
import Derived.Test.YtdnklmdmafbogaaDoorTiedP
import Derived.Test.YtdnklmdmafbogaaDoorTie
import Derived.Test.YtdnklmdmafbogaaDoorCards
import Derived.SevenTiedAt
import Derived.BigQuiet
import Derived.Laws.StructEq
namespace Go.Proofs.YtdnklmdmafbogaaDoor
open Go.ChangeShapes Go.WideShapes Go.ChangeAt Go.RowKit
abbrev tabs5 : List (String × DataW Unit) := [("math/bits.deBruijn32tab", Rows.laid_math_bits_deBruijn32tab), ("math/bits.deBruijn64tab", Rows.laid_math_bits_deBruijn64tab), ("internal/strconv.uint64pow10", Rows.laid_internal_strconv_uint64pow10), ("unicode/utf8.acceptRanges", Rows.laid_unicode_utf8_acceptRanges), ("unicode/utf8.first", Rows.laid_unicode_utf8_first)]
end Go.Proofs.YtdnklmdmafbogaaDoor
namespace Go.Proofs.YtdnklmdmafbogaaDoor.lawFWang
open Go.ChangeShapes Go.WideShapes Go.ChangeAt Go.RowKit

theorem implUseX (ad : Option Addr) (c : Nat) (ts : List Tile) (w : World) (hn : ts.length ≤ 1048576) (hc : CellsAt w ad (wangs ts)) :
    Calls Tryd.prog 34 #[.slice ad ts.length c] w fun e w' => ∃ ad' cap', e = .returned (.slice ad' (nats (useful ts)).length cap') ∧
      w'.ownsRow w.heap.size 3 1 (.slice ad' (nats (useful ts)).length cap') (nats (useful ts)).length (ints (nats (useful ts))) ∧ Below w.heap.size w w' := by
  rw [nats_length]
  exact implUseful ad c ts w hn hc
theorem specUseX (ad : Option Addr) (c : Nat) (ts : List Tile) (w : World) (hn : ts.length ≤ 1048576) (hc : CellsAt w ad (wangs ts)) :
    Calls Tryd.prog 35 #[.slice ad ts.length c] w fun e w' => ∃ ad' cap', e = .returned (.slice ad' (nats (useful ts)).length cap') ∧
      w'.ownsRow w.heap.size 3 1 (.slice ad' (nats (useful ts)).length cap') (nats (useful ts)).length (ints (nats (useful ts))) ∧ Below w.heap.size w w' := by
  rw [nats_length]
  exact specUseful ad c ts w hn hc
theorem useful_small (ts : List Tile) : (useful ts).length ≤ 6 := by
  have : ∀ (n : Nat) (C : List Nat), (useIter ts n C).length ≤ C.length := by
    intro n
    induction n with
    | zero => intro C; exact Nat.le_refl _
    | succ n ih => intro C; exact Nat.le_trans (ih _) (useStep_le ts C)
  exact Nat.le_trans (this 6 _) (useStart_le ts)
theorem turned_small (ts : List Tile) : (turned ts).length ≤ ts.length := by
  unfold turned
  split
  · rw [List.length_map]; exact Nat.le_refl _
  · exact Nat.zero_le _

theorem wang_eq (ax ay bx by' : Int) (w : World) : Sem.run Tryd.prog (Op.equalIn 10000 45 (.agg #[.int .i64 ax, .int .i64 ay, .int .i64 bx, .int .i64 by']) (.agg #[.int .i64 ax, .int .i64 ay, .int .i64 bx, .int .i64 by'])) w = .ok true w := by
  have u3 := Tryd.underlying3
  have a3 := Tryd.isAgg3
  have z3 := Tryd.sizeOf3
  have hS : Tryd.prog.underlying 45 = some (.struct (Tryd.prog.fieldsOf 45)) := by kernel_rfl
  have hp : Tryd.prog.stoodInHeld 45 = false := by kernel_rfl
  rw [show (10000 : Nat) = 9999 + 1 from rfl, run_equalIn_agg w 9999 45 _ _ hS hp]
  simp only [Program.fieldsOf, Tryd.underlying45]
  go_simp

set_option maxRecDepth 100000 in
set_option maxHeartbeats 8000000 in
theorem walk (w : World) (ad0 : Option Addr) (cap0 : Nat) (bs0 : List Nat) (hm0 : bs0.length ≤ maxLen) (hc0 : CellsAt w ad0 (bts bs0)) (hw0 : ∀ b ∈ bs0, b < 256) (hT : MaxAt w) :
    Calls Tryd.prog 6 #[.slice ad0 bs0.length cap0] w fun e w' => e = .returned (.bool true) ∧ Below w.heap.size w w' := by
  unfold maxLen at hm0
  have hbig := fun w => big_any ad0 cap0 bs0 w (by omega)
  by_cases hn : bs0.length ≤ 1048576
  · rw [decide_eq_false (by omega)] at hbig
    have HBIG := Lib.hid hbig
    have HW := Lib.hid hw0
    clear hbig hw0
    have q0 : Below w.heap.size w w := Below.refl _ _
    have C := Lib.hid (hc0)
    clear hc0
    have M := Lib.hid (hT)
    clear hT
    go_enter Tryd.func6, Tryd.ntmps6
    go_wp2_with fail
    refine (HBIG.out _).mono ?_
    rintro e w' ⟨rfl, rfl⟩
    go_wp2_with fail
    refine (drawFindWang _ _ _ _ hn HW.out C.out).mono ?_
    rintro e w1 ⟨a0, c0, ts, x, y, rfl, ht1, ht5, hx6, hy4, hts, hb1⟩
    have z1 := hb1.size
    have q1 : Below w.heap.size w w1 := q0.trans (hb1.mono q0.size)
    have C_1 := Lib.hid (C.out.below hb1)
    clear C
    have M_1 := Lib.hid (M.out.below hb1)
    clear M
    have T := Lib.hid (hts)
    clear hts
    have HIF := Lib.hid (fun w hc => implFindX a0 c0 ts x y w (by omega) hc)
    have HSF := Lib.hid (fun w hc => specFindX a0 c0 ts x y w (by omega) hc)
    have HIC := Lib.hid (fun w hc => implCount a0 c0 ts x y w (by omega) hc)
    have HSC := Lib.hid (fun w hc => specCount a0 c0 ts x y w (by omega) hc)
    have hch := count_has ts x y
    have hfl := fillL_small ts x y
    have HFF := Lib.hid (fun h => find_fill (ts := ts) (a := (x : Int)) (b := (y : Int)) h)
    have HTC := Lib.hid (fun h => turn_count (ts := ts) (a := (x : Int)) (b := (y : Int)) h)
    have hcwf := count_wf ts x y
    have HTW := Lib.hid (fun h => turned_wangs (ts := ts) h)
    have htl := turned_small ts
    have HIT := Lib.hid (fun w hc => implTurn a0 c0 ts w (by omega) hc)
    have HST := Lib.hid (fun w hc => specTurn a0 c0 ts w (by omega) hc)
    have HIM := Lib.hid (fun w hc => implFmt a0 c0 ts w (by omega) hc)
    have HSM := Lib.hid (fun w hc => specFmt a0 c0 ts w (by omega) hc)
    have hsm := fmtW_small ts
    have HPF := Lib.hid (fun h => parse_fmt (ts := ts) h)
    have HOK := Lib.hid (ok_fmt ts)
    have HSA := Lib.hid (fun w hc => specAre a0 c0 ts w (by omega) hc)
    have HIA := Lib.hid (fun w hc => implAre a0 c0 ts w (by omega) hc)
    rw [show nats (findFill ts x y) = fillL ts x y from rfl] at HFF
    generalize fillL ts x y = X at HIF HSF hfl HFF
    generalize hasFill ts x y = is at HIF HSF hch HFF
    obtain ⟨n, hnn⟩ : ∃ n, n = countFills ts x y := ⟨_, rfl⟩
    rw [← hnn] at HIC HSC hch HTC hcwf
    have HNP := Lib.hid (fun h => count_pos (ts := ts) (a := (x : Int)) (b := (y : Int)) (by rw [← hnn]; exact h) : 0 ≤ n → Wangs ts)
    clear hnn
    have nnb : (is != is) = false := by simp
    have nnn : (n != n) = false := by simp
    have nng : (decide (0 < n) != is) = false := by rw [hch]; simp
    have HCH := Lib.hid hch
    clear hch
    go_wp2_with fail
    refine (HIF.out _ T.out).mono ?_
    rintro e w2 ⟨a1, c1, rfl, ho1, hb2⟩
    have z2 := hb2.size
    have q2 : Below w.heap.size w w2 := q1.trans (hb2.mono q1.size)
    have C_2 := Lib.hid (C_1.out.below hb2)
    clear C_1
    have M_2 := Lib.hid (M_1.out.below hb2)
    clear M_1
    have T_2 := Lib.hid (T.out.below hb2)
    clear T
    have X1 := Lib.hid (ownsRow_cellsAt ho1)
    clear ho1
    go_wp2_with fail
    refine (HSF.out _ T_2.out).mono ?_
    rintro e w3 ⟨a2, c2, rfl, ho2, hb3⟩
    have z3 := hb3.size
    have q3 : Below w.heap.size w w3 := q2.trans (hb3.mono q2.size)
    have C_3 := Lib.hid (C_2.out.below hb3)
    clear C_2
    have M_3 := Lib.hid (M_2.out.below hb3)
    clear M_2
    have T_3 := Lib.hid (T_2.out.below hb3)
    clear T_2
    have X1_3 := Lib.hid (X1.out.below hb3)
    clear X1
    have X2 := Lib.hid (ownsRow_cellsAt ho2)
    have hcap2 := row_le_cap ho2
    clear ho2
    go_wp2_with fail
    refine (HIC.out _ T_3.out).mono ?_
    rintro e w4 ⟨rfl, hb4⟩
    have z4 := hb4.size
    have q4 : Below w.heap.size w w4 := q3.trans (hb4.mono q3.size)
    have C_4 := Lib.hid (C_3.out.below hb4)
    clear C_3
    have M_4 := Lib.hid (M_3.out.below hb4)
    clear M_3
    have T_4 := Lib.hid (T_3.out.below hb4)
    clear T_3
    have X1_4 := Lib.hid (X1_3.out.below hb4)
    clear X1_3
    have X2_4 := Lib.hid (X2.out.below hb4)
    clear X2
    go_wp2_with fail
    refine (sameInts_same _ _ _ _ X _ (by omega) X1_4.out X2_4.out).mono ?_
    rintro e w5 ⟨rfl, hb5⟩
    have z5 := hb5.size
    have q5 : Below w.heap.size w w5 := q4.trans (hb5.mono q4.size)
    have C_5 := Lib.hid (C_4.out.below hb5)
    clear C_4
    have M_5 := Lib.hid (M_4.out.below hb5)
    clear M_4
    have T_5 := Lib.hid (T_4.out.below hb5)
    clear T_4
    have X1_5 := Lib.hid (X1_4.out.below hb5)
    clear X1_4
    have X2_5 := Lib.hid (X2_4.out.below hb5)
    clear X2_4
    clear X1_5
    go_wp2_with fail
    refine (HSC.out _ T_5.out).mono ?_
    rintro e w6 ⟨rfl, hb6⟩
    have z6 := hb6.size
    have q6 : Below w.heap.size w w6 := q5.trans (hb6.mono q5.size)
    have C_6 := Lib.hid (C_5.out.below hb6)
    clear C_5
    have M_6 := Lib.hid (M_5.out.below hb6)
    clear M_5
    have T_6 := Lib.hid (T_5.out.below hb6)
    clear T_5
    have X2_6 := Lib.hid (X2_5.out.below hb6)
    clear X2_5
    cases is
    · skip
      have hd9 : decide (0 < n) = false := HCH.out
      clear nng HCH HFF
      clear X2_6
      go_wp2_with fail
      refine (HIT.out _ T_6.out).mono ?_
      rintro e w7 ⟨a3, c3, rfl, ho3, hb7⟩
      have z7 := hb7.size
      have q7 : Below w.heap.size w w7 := q6.trans (hb7.mono q6.size)
      have C_7 := Lib.hid (C_6.out.below hb7)
      clear C_6
      have M_7 := Lib.hid (M_6.out.below hb7)
      clear M_6
      have T_7 := Lib.hid (T_6.out.below hb7)
      clear T_6
      have U1 := Lib.hid (ownsRow_cellsAt ho3)
      clear ho3
      go_wp2_with fail
      refine (HST.out _ T_7.out).mono ?_
      rintro e w8 ⟨a4, c4, rfl, ho4, hb8⟩
      have z8 := hb8.size
      have q8 : Below w.heap.size w w8 := q7.trans (hb8.mono q7.size)
      have C_8 := Lib.hid (C_7.out.below hb8)
      clear C_7
      have M_8 := Lib.hid (M_7.out.below hb8)
      clear M_7
      have T_8 := Lib.hid (T_7.out.below hb8)
      clear T_7
      have U1_8 := Lib.hid (U1.out.below hb8)
      clear U1
      have U2 := Lib.hid (ownsRow_cellsAt ho4)
      clear ho4
      obtain ⟨U, hU⟩ : ∃ U, U = turned ts := ⟨_, rfl⟩
      rw [← hU] at HTC HTW htl U1_8 U2 ⊢
      have HU := Lib.hid hU
      clear hU
      obtain ⟨fine, hfine⟩ : ∃ fine, fine = decide (Wangs ts) := ⟨_, rfl⟩
      rw [← hfine] at HSA HIA ⊢
      have HFI := Lib.hid hfine
      have nnf : (fine != fine) = false := by simp
      have nnl : ((U.length : Int) != (U.length : Int)) = false := by simp
      clear hfine
      go_wp2
      obtain ⟨wo1, rfl⟩ : ∃ x, x = w8 := ⟨_, rfl⟩
      go_loopw [15] (fun i wr => ∃ k : Nat, k ≤ U.length ∧ i = .int .i64 k ∧ Below wo1.heap.size wo1 wr) (fun i _ => U.length - (intOf i).toNat)
      case atStart => exact ⟨0, by omega, rfl, Below.refl _ _⟩
      case round =>
        obtain ⟨k, hk, rfl, hbr⟩ := hrel
        have HB := Lib.hid hbr
        by_cases hlt : k < U.length
        · obtain ⟨g, off, rfl, _, hcc⟩ := wang_open (U1_8.out.below hbr) (by omega)
          obtain ⟨g', off', rfl, _, hcc'⟩ := wang_open (U2.out.below hbr) (by omega)
          obtain ⟨p0, p1, p2, p3⟩ := hcc k hlt
          obtain ⟨q0, q1, q2, q3⟩ := hcc' k hlt
          generalize U[k] = u at p0 p1 p2 p3 q0 q1 q2 q3
          obtain ⟨ua, ub, uc, ud⟩ := u
          simp only at p0 p1 p2 p3 q0 q1 q2 q3
          have eq1 : ∀ w1 : World, Sem.run Tryd.prog (Op.equalIn 10000 45 (.agg #[.int .i64 ua, .int .i64 ub, .int .i64 uc, .int .i64 ud]) (.agg #[.int .i64 ua, .int .i64 ub, .int .i64 uc, .int .i64 ud])) w1 = .ok true w1 := fun w1 => wang_eq ua ub uc ud w1
          have i1 : (k : Int) < (U.length : Int) := by omega
          clear hcc hcc' hbr
          go_wp2
          go_region
          go_wp2
          go_roundw
          case rel => exact ⟨k + 1, by omega, by go_num, by first | exact HB.out.drew | exact HB.out⟩
          case measure => simp [intOf]; omega
        · obtain rfl : k = U.length := by omega
          obtain ⟨w9, rfl⟩ : ∃ x, x = wr := ⟨_, rfl⟩
          have hb9 := hbr
          clear hbr HB
          have z9 := hb9.size
          have q9 : Below w.heap.size w w9 := q8.trans (hb9.mono q8.size)
          have C_9 := Lib.hid (C_8.out.below hb9)
          clear C_8
          have M_9 := Lib.hid (M_8.out.below hb9)
          clear M_8
          have T_9 := Lib.hid (T_8.out.below hb9)
          clear T_8
          have U1_9 := Lib.hid (U1_8.out.below hb9)
          clear U1_8
          have U2_9 := Lib.hid (U2.out.below hb9)
          clear U2
          clear U1_9
          clear hlt nnf nnl
          cases hfc : fine
          · rw [hfc] at HFI HSA HIA
            have hNW : ¬ Wangs ts := of_decide_eq_false HFI.out.symm
            have hokd : decide (okI (fmtW ts).data.toList) = false := decide_eq_false fun q => hNW (HOK.out.1 q)
            clear HNP HTC HTW HFI HPF hNW HOK
            clear U2_9
            obtain ⟨s, hs⟩ : ∃ s, s = fmtW ts := ⟨_, rfl⟩
            rw [← hs] at HIM HSM hsm hokd
            have HS3 := Lib.hid hs
            have nns : (s != s) = false := ba_ne s
            have HIP := Lib.hid (fun w hM => implParse s w (by omega) hM)
            rw [hokd] at HIP
            generalize parseT s.data.toList = Z at HIP
            clear hokd hs
            go_wp2_with fail
            refine (HIM.out _ T_9.out).mono ?_
            rintro e w10 ⟨rfl, hb10⟩
            have z10 := hb10.size
            have q10 : Below w.heap.size w w10 := q9.trans (hb10.mono q9.size)
            have C_10 := Lib.hid (C_9.out.below hb10)
            clear C_9
            have M_10 := Lib.hid (M_9.out.below hb10)
            clear M_9
            have T_10 := Lib.hid (T_9.out.below hb10)
            clear T_9
            go_wp2_with fail
            refine (HIP.out _ M_10.out).mono ?_
            rintro e w11 ⟨a5, c5, rfl, ho5, hb11⟩
            have z11 := hb11.size
            have q11 : Below w.heap.size w w11 := q10.trans (hb11.mono q10.size)
            have C_11 := Lib.hid (C_10.out.below hb11)
            clear C_10
            have M_11 := Lib.hid (M_10.out.below hb11)
            clear M_10
            have T_11 := Lib.hid (T_10.out.below hb11)
            clear T_10
            clear ho5
            go_wp2_with fail
            refine (drawParseWang _ _ _ _ hn HW.out C_11.out).mono ?_
            rintro e w12 ⟨s2, rfl, hs2, hb12⟩
            have z12 := hb12.size
            have q12 : Below w.heap.size w w12 := q11.trans (hb12.mono q11.size)
            have C_12 := Lib.hid (C_11.out.below hb12)
            clear C_11
            have M_12 := Lib.hid (M_11.out.below hb12)
            clear M_11
            have T_12 := Lib.hid (T_11.out.below hb12)
            clear T_11
            have HIP2 := Lib.hid (fun w hM => implParse s2 w (by omega) hM)
            have HSP2 := Lib.hid (fun w => specParse s2 w (by omega))
            generalize parseT s2.data.toList = Z2 at HIP2 HSP2
            generalize decide (okI s2.data.toList) = ok2 at HIP2 HSP2
            have nno : (ok2 != ok2) = false := by simp
            go_wp2_with fail
            refine (HIP2.out _ M_12.out).mono ?_
            rintro e w13 ⟨a6, c6, rfl, ho6, hb13⟩
            have z13 := hb13.size
            have q13 : Below w.heap.size w w13 := q12.trans (hb13.mono q12.size)
            have C_13 := Lib.hid (C_12.out.below hb13)
            clear C_12
            have M_13 := Lib.hid (M_12.out.below hb13)
            clear M_12
            have T_13 := Lib.hid (T_12.out.below hb13)
            clear T_12
            clear ho6
            go_wp2_with fail
            refine (HSP2.out _).mono ?_
            rintro e w14 ⟨a7, c7, rfl, ho7, hb14⟩
            have z14 := hb14.size
            have q14 : Below w.heap.size w w14 := q13.trans (hb14.mono q13.size)
            have C_14 := Lib.hid (C_13.out.below hb14)
            clear C_13
            have M_14 := Lib.hid (M_13.out.below hb14)
            clear M_13
            have T_14 := Lib.hid (T_13.out.below hb14)
            clear T_13
            clear ho7
            go_wp2_with fail
            refine (HSM.out _ T_14.out).mono ?_
            rintro e w15 ⟨rfl, hb15⟩
            have z15 := hb15.size
            have q15 : Below w.heap.size w w15 := q14.trans (hb15.mono q14.size)
            have C_15 := Lib.hid (C_14.out.below hb15)
            clear C_14
            have M_15 := Lib.hid (M_14.out.below hb15)
            clear M_14
            have T_15 := Lib.hid (T_14.out.below hb15)
            clear T_14
            go_wp2_with fail
            refine (HSA.out _ T_15.out).mono ?_
            rintro e w' ⟨rfl, rfl⟩
            go_wp2_with fail
            refine (HIA.out _ T_15.out).mono ?_
            rintro e w16 ⟨rfl, hb16⟩
            have z16 := hb16.size
            have q16 : Below w.heap.size w w16 := q15.trans (hb16.mono q15.size)
            have C_16 := Lib.hid (C_15.out.below hb16)
            clear C_15
            have M_16 := Lib.hid (M_15.out.below hb16)
            clear M_15
            have T_16 := Lib.hid (T_15.out.below hb16)
            clear T_15
            go_wp2_with fail
            refine (drawIsWang _ _ _ _ hn HW.out C_16.out).mono ?_
            rintro e w17 ⟨a8, c8, ts8, x8, y8, af8, cf8, xs8, rfl, hu1, hu5, hl8, hcap8, hts8, hxs8, hb17⟩
            have z17 := hb17.size
            have q17 : Below w.heap.size w w17 := q16.trans (hb17.mono q16.size)
            have C_17 := Lib.hid (C_16.out.below hb17)
            clear C_16
            have M_17 := Lib.hid (M_16.out.below hb17)
            clear M_16
            have T_17 := Lib.hid (T_16.out.below hb17)
            clear T_16
            have T8 := Lib.hid (hts8)
            have X8 := Lib.hid (hxs8)
            clear hts8 hxs8
            have HIQ := Lib.hid (fun w h1 h2 => implFill a8 af8 c8 cf8 ts8 x8 y8 xs8 w (by omega) (by omega) hcap8 h1 h2)
            have HSQ := Lib.hid (fun w h1 h2 => specFill a8 af8 c8 cf8 ts8 x8 y8 xs8 w (by omega) (by omega) hcap8 h1 h2)
            generalize decide (IsFill ts8 x8 y8 xs8) = bq at HIQ HSQ
            have eeq : (bq == bq) = true := by simp
            go_wp2_with fail
            refine (HIQ.out _ T8.out X8.out).mono ?_
            rintro e w18 ⟨rfl, hb18⟩
            have z18 := hb18.size
            have q18 : Below w.heap.size w w18 := q17.trans (hb18.mono q17.size)
            have C_18 := Lib.hid (C_17.out.below hb18)
            clear C_17
            have M_18 := Lib.hid (M_17.out.below hb18)
            clear M_17
            have T_18 := Lib.hid (T_17.out.below hb18)
            clear T_17
            have T8_18 := Lib.hid (T8.out.below hb18)
            clear T8
            have X8_18 := Lib.hid (X8.out.below hb18)
            clear X8
            go_wp2_with fail
            refine (HSQ.out _ T8_18.out X8_18.out).mono ?_
            rintro e w19 ⟨rfl, hb19⟩
            have z19 := hb19.size
            have q19 : Below w.heap.size w w19 := q18.trans (hb19.mono q18.size)
            have C_19 := Lib.hid (C_18.out.below hb19)
            clear C_18
            have M_19 := Lib.hid (M_18.out.below hb19)
            clear M_18
            have T_19 := Lib.hid (T_18.out.below hb19)
            clear T_18
            have T8_19 := Lib.hid (T8_18.out.below hb19)
            clear T8_18
            have X8_19 := Lib.hid (X8_18.out.below hb19)
            clear X8_18
            clear T8_19 X8_19
            have HIU := Lib.hid (fun w hc => implUseX a0 c0 ts w (by omega) hc)
            have HSU := Lib.hid (fun w hc => specUseX a0 c0 ts w (by omega) hc)
            have hul : (nats (useful ts)).length ≤ 6 := by rw [nats_length]; exact useful_small ts
            generalize nats (useful ts) = V at HIU HSU hul
            go_wp2_with fail
            refine (HIU.out _ T_19.out).mono ?_
            rintro e w20 ⟨a9, c9, rfl, ho9, hb20⟩
            have z20 := hb20.size
            have q20 : Below w.heap.size w w20 := q19.trans (hb20.mono q19.size)
            have C_20 := Lib.hid (C_19.out.below hb20)
            clear C_19
            have M_20 := Lib.hid (M_19.out.below hb20)
            clear M_19
            have T_20 := Lib.hid (T_19.out.below hb20)
            clear T_19
            have V1 := Lib.hid (ownsRow_cellsAt ho9)
            clear ho9
            go_wp2_with fail
            refine (HSU.out _ T_20.out).mono ?_
            rintro e w21 ⟨a10, c10, rfl, ho10, hb21⟩
            have z21 := hb21.size
            have q21 : Below w.heap.size w w21 := q20.trans (hb21.mono q20.size)
            have C_21 := Lib.hid (C_20.out.below hb21)
            clear C_20
            have M_21 := Lib.hid (M_20.out.below hb21)
            clear M_20
            have T_21 := Lib.hid (T_20.out.below hb21)
            clear T_20
            have V1_21 := Lib.hid (V1.out.below hb21)
            clear V1
            have V2 := Lib.hid (ownsRow_cellsAt ho10)
            clear ho10
            go_wp2_with fail
            refine (sameInts_same _ _ _ _ V _ (by omega) V1_21.out V2.out).mono ?_
            rintro e w22 ⟨rfl, hb22⟩
            have z22 := hb22.size
            have q22 : Below w.heap.size w w22 := q21.trans (hb22.mono q21.size)
            have C_22 := Lib.hid (C_21.out.below hb22)
            clear C_21
            have M_22 := Lib.hid (M_21.out.below hb22)
            clear M_21
            have T_22 := Lib.hid (T_21.out.below hb22)
            clear T_21
            have V1_22 := Lib.hid (V1_21.out.below hb22)
            clear V1_21
            have V2_22 := Lib.hid (V2.out.below hb22)
            clear V2
            go_wp2
            go_ret
            exact ⟨rfl, q22⟩
          · rw [hfc] at HFI HSA HIA
            have hWW : Wangs ts := of_decide_eq_true HFI.out.symm
            have hokd : decide (okI (fmtW ts).data.toList) = true := decide_eq_true (HOK.out.2 hWW)
            have hpf := HPF.out hWW
            have htc := HTC.out hWW
            clear HNP HTC HTW HFI HPF HOK hWW
            by_cases hn0 : 0 ≤ n
            · have hd0 : decide (0 ≤ n) = true := decide_eq_true hn0
              have HICU := Lib.hid (fun w hc => implCount a4 c4 U y x w (by omega) hc)
              rw [htc] at HICU
              go_wp2_with fail
              refine (HICU.out _ U2_9.out).mono ?_
              rintro e w10 ⟨rfl, hb10⟩
              have z10 := hb10.size
              have q10 : Below w.heap.size w w10 := q9.trans (hb10.mono q9.size)
              have C_10 := Lib.hid (C_9.out.below hb10)
              clear C_9
              have M_10 := Lib.hid (M_9.out.below hb10)
              clear M_9
              have T_10 := Lib.hid (T_9.out.below hb10)
              clear T_9
              have U2_10 := Lib.hid (U2_9.out.below hb10)
              clear U2_9
              clear htc HICU
              clear U2_10
              obtain ⟨s, hs⟩ : ∃ s, s = fmtW ts := ⟨_, rfl⟩
              rw [← hs] at HIM HSM hsm hokd hpf
              have HS3 := Lib.hid hs
              have nns : (s != s) = false := ba_ne s
              have HIP := Lib.hid (fun w hM => implParse s w (by omega) hM)
              rw [hokd] at HIP
              rw [hpf] at HIP
              clear hokd hs hpf
              go_wp2_with fail
              refine (HIM.out _ T_10.out).mono ?_
              rintro e w11 ⟨rfl, hb11⟩
              have z11 := hb11.size
              have q11 : Below w.heap.size w w11 := q10.trans (hb11.mono q10.size)
              have C_11 := Lib.hid (C_10.out.below hb11)
              clear C_10
              have M_11 := Lib.hid (M_10.out.below hb11)
              clear M_10
              have T_11 := Lib.hid (T_10.out.below hb11)
              clear T_10
              go_wp2_with fail
              refine (HIP.out _ M_11.out).mono ?_
              rintro e w12 ⟨a5, c5, rfl, ho5, hb12⟩
              have z12 := hb12.size
              have q12 : Below w.heap.size w w12 := q11.trans (hb12.mono q11.size)
              have C_12 := Lib.hid (C_11.out.below hb12)
              clear C_11
              have M_12 := Lib.hid (M_11.out.below hb12)
              clear M_11
              have T_12 := Lib.hid (T_11.out.below hb12)
              clear T_11
              have Z := Lib.hid (ownsRow_cellsAt ho5)
              clear ho5
              go_wp2_with fail
              refine (drawParseWang _ _ _ _ hn HW.out C_12.out).mono ?_
              rintro e w13 ⟨s2, rfl, hs2, hb13⟩
              have z13 := hb13.size
              have q13 : Below w.heap.size w w13 := q12.trans (hb13.mono q12.size)
              have C_13 := Lib.hid (C_12.out.below hb13)
              clear C_12
              have M_13 := Lib.hid (M_12.out.below hb13)
              clear M_12
              have T_13 := Lib.hid (T_12.out.below hb13)
              clear T_12
              have Z_13 := Lib.hid (Z.out.below hb13)
              clear Z
              have HIP2 := Lib.hid (fun w hM => implParse s2 w (by omega) hM)
              have HSP2 := Lib.hid (fun w => specParse s2 w (by omega))
              generalize parseT s2.data.toList = Z2 at HIP2 HSP2
              generalize decide (okI s2.data.toList) = ok2 at HIP2 HSP2
              have nno : (ok2 != ok2) = false := by simp
              go_wp2_with fail
              refine (HIP2.out _ M_13.out).mono ?_
              rintro e w14 ⟨a6, c6, rfl, ho6, hb14⟩
              have z14 := hb14.size
              have q14 : Below w.heap.size w w14 := q13.trans (hb14.mono q13.size)
              have C_14 := Lib.hid (C_13.out.below hb14)
              clear C_13
              have M_14 := Lib.hid (M_13.out.below hb14)
              clear M_13
              have T_14 := Lib.hid (T_13.out.below hb14)
              clear T_13
              have Z_14 := Lib.hid (Z_13.out.below hb14)
              clear Z_13
              clear ho6
              go_wp2_with fail
              refine (HSP2.out _).mono ?_
              rintro e w15 ⟨a7, c7, rfl, ho7, hb15⟩
              have z15 := hb15.size
              have q15 : Below w.heap.size w w15 := q14.trans (hb15.mono q14.size)
              have C_15 := Lib.hid (C_14.out.below hb15)
              clear C_14
              have M_15 := Lib.hid (M_14.out.below hb15)
              clear M_14
              have T_15 := Lib.hid (T_14.out.below hb15)
              clear T_14
              have Z_15 := Lib.hid (Z_14.out.below hb15)
              clear Z_14
              clear ho7
              go_wp2_with fail
              refine (HSM.out _ T_15.out).mono ?_
              rintro e w16 ⟨rfl, hb16⟩
              have z16 := hb16.size
              have q16 : Below w.heap.size w w16 := q15.trans (hb16.mono q15.size)
              have C_16 := Lib.hid (C_15.out.below hb16)
              clear C_15
              have M_16 := Lib.hid (M_15.out.below hb16)
              clear M_15
              have T_16 := Lib.hid (T_15.out.below hb16)
              clear T_15
              have Z_16 := Lib.hid (Z_15.out.below hb16)
              clear Z_15
              go_wp2_with fail
              refine (HSA.out _ T_16.out).mono ?_
              rintro e w' ⟨rfl, rfl⟩
              go_wp2_with fail
              refine (HIA.out _ T_16.out).mono ?_
              rintro e w17 ⟨rfl, hb17⟩
              have z17 := hb17.size
              have q17 : Below w.heap.size w w17 := q16.trans (hb17.mono q16.size)
              have C_17 := Lib.hid (C_16.out.below hb17)
              clear C_16
              have M_17 := Lib.hid (M_16.out.below hb17)
              clear M_16
              have T_17 := Lib.hid (T_16.out.below hb17)
              clear T_16
              have Z_17 := Lib.hid (Z_16.out.below hb17)
              clear Z_16
              have HSM5 := Lib.hid (fun w hc => specFmt a5 c5 ts w (by omega) hc)
              rw [← HS3.out] at HSM5
              go_wp2_with fail
              refine (HSM5.out _ Z_17.out).mono ?_
              rintro e w18 ⟨rfl, hb18⟩
              have z18 := hb18.size
              have q18 : Below w.heap.size w w18 := q17.trans (hb18.mono q17.size)
              have C_18 := Lib.hid (C_17.out.below hb18)
              clear C_17
              have M_18 := Lib.hid (M_17.out.below hb18)
              clear M_17
              have T_18 := Lib.hid (T_17.out.below hb18)
              clear T_17
              have Z_18 := Lib.hid (Z_17.out.below hb18)
              clear Z_17
              clear Z_18
              go_wp2_with fail
              refine (drawIsWang _ _ _ _ hn HW.out C_18.out).mono ?_
              rintro e w19 ⟨a8, c8, ts8, x8, y8, af8, cf8, xs8, rfl, hu1, hu5, hl8, hcap8, hts8, hxs8, hb19⟩
              have z19 := hb19.size
              have q19 : Below w.heap.size w w19 := q18.trans (hb19.mono q18.size)
              have C_19 := Lib.hid (C_18.out.below hb19)
              clear C_18
              have M_19 := Lib.hid (M_18.out.below hb19)
              clear M_18
              have T_19 := Lib.hid (T_18.out.below hb19)
              clear T_18
              have T8 := Lib.hid (hts8)
              have X8 := Lib.hid (hxs8)
              clear hts8 hxs8
              have HIQ := Lib.hid (fun w h1 h2 => implFill a8 af8 c8 cf8 ts8 x8 y8 xs8 w (by omega) (by omega) hcap8 h1 h2)
              have HSQ := Lib.hid (fun w h1 h2 => specFill a8 af8 c8 cf8 ts8 x8 y8 xs8 w (by omega) (by omega) hcap8 h1 h2)
              generalize decide (IsFill ts8 x8 y8 xs8) = bq at HIQ HSQ
              have eeq : (bq == bq) = true := by simp
              go_wp2_with fail
              refine (HIQ.out _ T8.out X8.out).mono ?_
              rintro e w20 ⟨rfl, hb20⟩
              have z20 := hb20.size
              have q20 : Below w.heap.size w w20 := q19.trans (hb20.mono q19.size)
              have C_20 := Lib.hid (C_19.out.below hb20)
              clear C_19
              have M_20 := Lib.hid (M_19.out.below hb20)
              clear M_19
              have T_20 := Lib.hid (T_19.out.below hb20)
              clear T_19
              have T8_20 := Lib.hid (T8.out.below hb20)
              clear T8
              have X8_20 := Lib.hid (X8.out.below hb20)
              clear X8
              go_wp2_with fail
              refine (HSQ.out _ T8_20.out X8_20.out).mono ?_
              rintro e w21 ⟨rfl, hb21⟩
              have z21 := hb21.size
              have q21 : Below w.heap.size w w21 := q20.trans (hb21.mono q20.size)
              have C_21 := Lib.hid (C_20.out.below hb21)
              clear C_20
              have M_21 := Lib.hid (M_20.out.below hb21)
              clear M_20
              have T_21 := Lib.hid (T_20.out.below hb21)
              clear T_20
              have T8_21 := Lib.hid (T8_20.out.below hb21)
              clear T8_20
              have X8_21 := Lib.hid (X8_20.out.below hb21)
              clear X8_20
              clear T8_21 X8_21
              have HIU := Lib.hid (fun w hc => implUseX a0 c0 ts w (by omega) hc)
              have HSU := Lib.hid (fun w hc => specUseX a0 c0 ts w (by omega) hc)
              have hul : (nats (useful ts)).length ≤ 6 := by rw [nats_length]; exact useful_small ts
              generalize nats (useful ts) = V at HIU HSU hul
              go_wp2_with fail
              refine (HIU.out _ T_21.out).mono ?_
              rintro e w22 ⟨a9, c9, rfl, ho9, hb22⟩
              have z22 := hb22.size
              have q22 : Below w.heap.size w w22 := q21.trans (hb22.mono q21.size)
              have C_22 := Lib.hid (C_21.out.below hb22)
              clear C_21
              have M_22 := Lib.hid (M_21.out.below hb22)
              clear M_21
              have T_22 := Lib.hid (T_21.out.below hb22)
              clear T_21
              have V1 := Lib.hid (ownsRow_cellsAt ho9)
              clear ho9
              go_wp2_with fail
              refine (HSU.out _ T_22.out).mono ?_
              rintro e w23 ⟨a10, c10, rfl, ho10, hb23⟩
              have z23 := hb23.size
              have q23 : Below w.heap.size w w23 := q22.trans (hb23.mono q22.size)
              have C_23 := Lib.hid (C_22.out.below hb23)
              clear C_22
              have M_23 := Lib.hid (M_22.out.below hb23)
              clear M_22
              have T_23 := Lib.hid (T_22.out.below hb23)
              clear T_22
              have V1_23 := Lib.hid (V1.out.below hb23)
              clear V1
              have V2 := Lib.hid (ownsRow_cellsAt ho10)
              clear ho10
              go_wp2_with fail
              refine (sameInts_same _ _ _ _ V _ (by omega) V1_23.out V2.out).mono ?_
              rintro e w24 ⟨rfl, hb24⟩
              have z24 := hb24.size
              have q24 : Below w.heap.size w w24 := q23.trans (hb24.mono q23.size)
              have C_24 := Lib.hid (C_23.out.below hb24)
              clear C_23
              have M_24 := Lib.hid (M_23.out.below hb24)
              clear M_23
              have T_24 := Lib.hid (T_23.out.below hb24)
              clear T_23
              have V1_24 := Lib.hid (V1_23.out.below hb24)
              clear V1_23
              have V2_24 := Lib.hid (V2.out.below hb24)
              clear V2
              go_wp2
              go_ret
              exact ⟨rfl, q24⟩
            · have hd0 : decide (0 ≤ n) = false := decide_eq_false hn0
              clear htc
              clear U2_9
              obtain ⟨s, hs⟩ : ∃ s, s = fmtW ts := ⟨_, rfl⟩
              rw [← hs] at HIM HSM hsm hokd hpf
              have HS3 := Lib.hid hs
              have nns : (s != s) = false := ba_ne s
              have HIP := Lib.hid (fun w hM => implParse s w (by omega) hM)
              rw [hokd] at HIP
              rw [hpf] at HIP
              clear hokd hs hpf
              go_wp2_with fail
              refine (HIM.out _ T_9.out).mono ?_
              rintro e w10 ⟨rfl, hb10⟩
              have z10 := hb10.size
              have q10 : Below w.heap.size w w10 := q9.trans (hb10.mono q9.size)
              have C_10 := Lib.hid (C_9.out.below hb10)
              clear C_9
              have M_10 := Lib.hid (M_9.out.below hb10)
              clear M_9
              have T_10 := Lib.hid (T_9.out.below hb10)
              clear T_9
              go_wp2_with fail
              refine (HIP.out _ M_10.out).mono ?_
              rintro e w11 ⟨a5, c5, rfl, ho5, hb11⟩
              have z11 := hb11.size
              have q11 : Below w.heap.size w w11 := q10.trans (hb11.mono q10.size)
              have C_11 := Lib.hid (C_10.out.below hb11)
              clear C_10
              have M_11 := Lib.hid (M_10.out.below hb11)
              clear M_10
              have T_11 := Lib.hid (T_10.out.below hb11)
              clear T_10
              have Z := Lib.hid (ownsRow_cellsAt ho5)
              clear ho5
              go_wp2_with fail
              refine (drawParseWang _ _ _ _ hn HW.out C_11.out).mono ?_
              rintro e w12 ⟨s2, rfl, hs2, hb12⟩
              have z12 := hb12.size
              have q12 : Below w.heap.size w w12 := q11.trans (hb12.mono q11.size)
              have C_12 := Lib.hid (C_11.out.below hb12)
              clear C_11
              have M_12 := Lib.hid (M_11.out.below hb12)
              clear M_11
              have T_12 := Lib.hid (T_11.out.below hb12)
              clear T_11
              have Z_12 := Lib.hid (Z.out.below hb12)
              clear Z
              have HIP2 := Lib.hid (fun w hM => implParse s2 w (by omega) hM)
              have HSP2 := Lib.hid (fun w => specParse s2 w (by omega))
              generalize parseT s2.data.toList = Z2 at HIP2 HSP2
              generalize decide (okI s2.data.toList) = ok2 at HIP2 HSP2
              have nno : (ok2 != ok2) = false := by simp
              go_wp2_with fail
              refine (HIP2.out _ M_12.out).mono ?_
              rintro e w13 ⟨a6, c6, rfl, ho6, hb13⟩
              have z13 := hb13.size
              have q13 : Below w.heap.size w w13 := q12.trans (hb13.mono q12.size)
              have C_13 := Lib.hid (C_12.out.below hb13)
              clear C_12
              have M_13 := Lib.hid (M_12.out.below hb13)
              clear M_12
              have T_13 := Lib.hid (T_12.out.below hb13)
              clear T_12
              have Z_13 := Lib.hid (Z_12.out.below hb13)
              clear Z_12
              clear ho6
              go_wp2_with fail
              refine (HSP2.out _).mono ?_
              rintro e w14 ⟨a7, c7, rfl, ho7, hb14⟩
              have z14 := hb14.size
              have q14 : Below w.heap.size w w14 := q13.trans (hb14.mono q13.size)
              have C_14 := Lib.hid (C_13.out.below hb14)
              clear C_13
              have M_14 := Lib.hid (M_13.out.below hb14)
              clear M_13
              have T_14 := Lib.hid (T_13.out.below hb14)
              clear T_13
              have Z_14 := Lib.hid (Z_13.out.below hb14)
              clear Z_13
              clear ho7
              go_wp2_with fail
              refine (HSM.out _ T_14.out).mono ?_
              rintro e w15 ⟨rfl, hb15⟩
              have z15 := hb15.size
              have q15 : Below w.heap.size w w15 := q14.trans (hb15.mono q14.size)
              have C_15 := Lib.hid (C_14.out.below hb15)
              clear C_14
              have M_15 := Lib.hid (M_14.out.below hb15)
              clear M_14
              have T_15 := Lib.hid (T_14.out.below hb15)
              clear T_14
              have Z_15 := Lib.hid (Z_14.out.below hb15)
              clear Z_14
              go_wp2_with fail
              refine (HSA.out _ T_15.out).mono ?_
              rintro e w' ⟨rfl, rfl⟩
              go_wp2_with fail
              refine (HIA.out _ T_15.out).mono ?_
              rintro e w16 ⟨rfl, hb16⟩
              have z16 := hb16.size
              have q16 : Below w.heap.size w w16 := q15.trans (hb16.mono q15.size)
              have C_16 := Lib.hid (C_15.out.below hb16)
              clear C_15
              have M_16 := Lib.hid (M_15.out.below hb16)
              clear M_15
              have T_16 := Lib.hid (T_15.out.below hb16)
              clear T_15
              have Z_16 := Lib.hid (Z_15.out.below hb16)
              clear Z_15
              have HSM5 := Lib.hid (fun w hc => specFmt a5 c5 ts w (by omega) hc)
              rw [← HS3.out] at HSM5
              go_wp2_with fail
              refine (HSM5.out _ Z_16.out).mono ?_
              rintro e w17 ⟨rfl, hb17⟩
              have z17 := hb17.size
              have q17 : Below w.heap.size w w17 := q16.trans (hb17.mono q16.size)
              have C_17 := Lib.hid (C_16.out.below hb17)
              clear C_16
              have M_17 := Lib.hid (M_16.out.below hb17)
              clear M_16
              have T_17 := Lib.hid (T_16.out.below hb17)
              clear T_16
              have Z_17 := Lib.hid (Z_16.out.below hb17)
              clear Z_16
              clear Z_17
              go_wp2_with fail
              refine (drawIsWang _ _ _ _ hn HW.out C_17.out).mono ?_
              rintro e w18 ⟨a8, c8, ts8, x8, y8, af8, cf8, xs8, rfl, hu1, hu5, hl8, hcap8, hts8, hxs8, hb18⟩
              have z18 := hb18.size
              have q18 : Below w.heap.size w w18 := q17.trans (hb18.mono q17.size)
              have C_18 := Lib.hid (C_17.out.below hb18)
              clear C_17
              have M_18 := Lib.hid (M_17.out.below hb18)
              clear M_17
              have T_18 := Lib.hid (T_17.out.below hb18)
              clear T_17
              have T8 := Lib.hid (hts8)
              have X8 := Lib.hid (hxs8)
              clear hts8 hxs8
              have HIQ := Lib.hid (fun w h1 h2 => implFill a8 af8 c8 cf8 ts8 x8 y8 xs8 w (by omega) (by omega) hcap8 h1 h2)
              have HSQ := Lib.hid (fun w h1 h2 => specFill a8 af8 c8 cf8 ts8 x8 y8 xs8 w (by omega) (by omega) hcap8 h1 h2)
              generalize decide (IsFill ts8 x8 y8 xs8) = bq at HIQ HSQ
              have eeq : (bq == bq) = true := by simp
              go_wp2_with fail
              refine (HIQ.out _ T8.out X8.out).mono ?_
              rintro e w19 ⟨rfl, hb19⟩
              have z19 := hb19.size
              have q19 : Below w.heap.size w w19 := q18.trans (hb19.mono q18.size)
              have C_19 := Lib.hid (C_18.out.below hb19)
              clear C_18
              have M_19 := Lib.hid (M_18.out.below hb19)
              clear M_18
              have T_19 := Lib.hid (T_18.out.below hb19)
              clear T_18
              have T8_19 := Lib.hid (T8.out.below hb19)
              clear T8
              have X8_19 := Lib.hid (X8.out.below hb19)
              clear X8
              go_wp2_with fail
              refine (HSQ.out _ T8_19.out X8_19.out).mono ?_
              rintro e w20 ⟨rfl, hb20⟩
              have z20 := hb20.size
              have q20 : Below w.heap.size w w20 := q19.trans (hb20.mono q19.size)
              have C_20 := Lib.hid (C_19.out.below hb20)
              clear C_19
              have M_20 := Lib.hid (M_19.out.below hb20)
              clear M_19
              have T_20 := Lib.hid (T_19.out.below hb20)
              clear T_19
              have T8_20 := Lib.hid (T8_19.out.below hb20)
              clear T8_19
              have X8_20 := Lib.hid (X8_19.out.below hb20)
              clear X8_19
              clear T8_20 X8_20
              have HIU := Lib.hid (fun w hc => implUseX a0 c0 ts w (by omega) hc)
              have HSU := Lib.hid (fun w hc => specUseX a0 c0 ts w (by omega) hc)
              have hul : (nats (useful ts)).length ≤ 6 := by rw [nats_length]; exact useful_small ts
              generalize nats (useful ts) = V at HIU HSU hul
              go_wp2_with fail
              refine (HIU.out _ T_20.out).mono ?_
              rintro e w21 ⟨a9, c9, rfl, ho9, hb21⟩
              have z21 := hb21.size
              have q21 : Below w.heap.size w w21 := q20.trans (hb21.mono q20.size)
              have C_21 := Lib.hid (C_20.out.below hb21)
              clear C_20
              have M_21 := Lib.hid (M_20.out.below hb21)
              clear M_20
              have T_21 := Lib.hid (T_20.out.below hb21)
              clear T_20
              have V1 := Lib.hid (ownsRow_cellsAt ho9)
              clear ho9
              go_wp2_with fail
              refine (HSU.out _ T_21.out).mono ?_
              rintro e w22 ⟨a10, c10, rfl, ho10, hb22⟩
              have z22 := hb22.size
              have q22 : Below w.heap.size w w22 := q21.trans (hb22.mono q21.size)
              have C_22 := Lib.hid (C_21.out.below hb22)
              clear C_21
              have M_22 := Lib.hid (M_21.out.below hb22)
              clear M_21
              have T_22 := Lib.hid (T_21.out.below hb22)
              clear T_21
              have V1_22 := Lib.hid (V1.out.below hb22)
              clear V1
              have V2 := Lib.hid (ownsRow_cellsAt ho10)
              clear ho10
              go_wp2_with fail
              refine (sameInts_same _ _ _ _ V _ (by omega) V1_22.out V2.out).mono ?_
              rintro e w23 ⟨rfl, hb23⟩
              have z23 := hb23.size
              have q23 : Below w.heap.size w w23 := q22.trans (hb23.mono q22.size)
              have C_23 := Lib.hid (C_22.out.below hb23)
              clear C_22
              have M_23 := Lib.hid (M_22.out.below hb23)
              clear M_22
              have T_23 := Lib.hid (T_22.out.below hb23)
              clear T_22
              have V1_23 := Lib.hid (V1_22.out.below hb23)
              clear V1_22
              have V2_23 := Lib.hid (V2.out.below hb23)
              clear V2
              go_wp2
              go_ret
              exact ⟨rfl, q23⟩
    · skip
      have hd9 : decide (0 < n) = true := HCH.out
      have hIF := fun w h1 h2 => implFill a0 a2 c0 c2 ts x y X w (by omega) (by omega) hcap2 h1 h2
      rw [decide_eq_true (HFF.out rfl)] at hIF
      have HIF2 := Lib.hid hIF
      clear nng HCH HFF hIF
      go_wp2_with fail
      refine (HIF2.out _ T_6.out X2_6.out).mono ?_
      rintro e w7 ⟨rfl, hb7⟩
      have z7 := hb7.size
      have q7 : Below w.heap.size w w7 := q6.trans (hb7.mono q6.size)
      have C_7 := Lib.hid (C_6.out.below hb7)
      clear C_6
      have M_7 := Lib.hid (M_6.out.below hb7)
      clear M_6
      have T_7 := Lib.hid (T_6.out.below hb7)
      clear T_6
      have X2_7 := Lib.hid (X2_6.out.below hb7)
      clear X2_6
      clear X2_7
      go_wp2_with fail
      refine (HIT.out _ T_7.out).mono ?_
      rintro e w8 ⟨a3, c3, rfl, ho3, hb8⟩
      have z8 := hb8.size
      have q8 : Below w.heap.size w w8 := q7.trans (hb8.mono q7.size)
      have C_8 := Lib.hid (C_7.out.below hb8)
      clear C_7
      have M_8 := Lib.hid (M_7.out.below hb8)
      clear M_7
      have T_8 := Lib.hid (T_7.out.below hb8)
      clear T_7
      have U1 := Lib.hid (ownsRow_cellsAt ho3)
      clear ho3
      go_wp2_with fail
      refine (HST.out _ T_8.out).mono ?_
      rintro e w9 ⟨a4, c4, rfl, ho4, hb9⟩
      have z9 := hb9.size
      have q9 : Below w.heap.size w w9 := q8.trans (hb9.mono q8.size)
      have C_9 := Lib.hid (C_8.out.below hb9)
      clear C_8
      have M_9 := Lib.hid (M_8.out.below hb9)
      clear M_8
      have T_9 := Lib.hid (T_8.out.below hb9)
      clear T_8
      have U1_9 := Lib.hid (U1.out.below hb9)
      clear U1
      have U2 := Lib.hid (ownsRow_cellsAt ho4)
      clear ho4
      obtain ⟨U, hU⟩ : ∃ U, U = turned ts := ⟨_, rfl⟩
      rw [← hU] at HTC HTW htl U1_9 U2 ⊢
      have HU := Lib.hid hU
      clear hU
      obtain ⟨fine, hfine⟩ : ∃ fine, fine = decide (Wangs ts) := ⟨_, rfl⟩
      rw [← hfine] at HSA HIA ⊢
      have HFI := Lib.hid hfine
      have nnf : (fine != fine) = false := by simp
      have nnl : ((U.length : Int) != (U.length : Int)) = false := by simp
      clear hfine
      go_wp2
      obtain ⟨wo2, rfl⟩ : ∃ x, x = w9 := ⟨_, rfl⟩
      go_loopw [15] (fun i wr => ∃ k : Nat, k ≤ U.length ∧ i = .int .i64 k ∧ Below wo2.heap.size wo2 wr) (fun i _ => U.length - (intOf i).toNat)
      case atStart => exact ⟨0, by omega, rfl, Below.refl _ _⟩
      case round =>
        obtain ⟨k, hk, rfl, hbr⟩ := hrel
        have HB := Lib.hid hbr
        by_cases hlt : k < U.length
        · obtain ⟨g, off, rfl, _, hcc⟩ := wang_open (U1_9.out.below hbr) (by omega)
          obtain ⟨g', off', rfl, _, hcc'⟩ := wang_open (U2.out.below hbr) (by omega)
          obtain ⟨p0, p1, p2, p3⟩ := hcc k hlt
          obtain ⟨q0, q1, q2, q3⟩ := hcc' k hlt
          generalize U[k] = u at p0 p1 p2 p3 q0 q1 q2 q3
          obtain ⟨ua, ub, uc, ud⟩ := u
          simp only at p0 p1 p2 p3 q0 q1 q2 q3
          have eq1 : ∀ w1 : World, Sem.run Tryd.prog (Op.equalIn 10000 45 (.agg #[.int .i64 ua, .int .i64 ub, .int .i64 uc, .int .i64 ud]) (.agg #[.int .i64 ua, .int .i64 ub, .int .i64 uc, .int .i64 ud])) w1 = .ok true w1 := fun w1 => wang_eq ua ub uc ud w1
          have i1 : (k : Int) < (U.length : Int) := by omega
          clear hcc hcc' hbr
          go_wp2
          go_region
          go_wp2
          go_roundw
          case rel => exact ⟨k + 1, by omega, by go_num, by first | exact HB.out.drew | exact HB.out⟩
          case measure => simp [intOf]; omega
        · obtain rfl : k = U.length := by omega
          obtain ⟨w10, rfl⟩ : ∃ x, x = wr := ⟨_, rfl⟩
          have hb10 := hbr
          clear hbr HB
          have z10 := hb10.size
          have q10 : Below w.heap.size w w10 := q9.trans (hb10.mono q9.size)
          have C_10 := Lib.hid (C_9.out.below hb10)
          clear C_9
          have M_10 := Lib.hid (M_9.out.below hb10)
          clear M_9
          have T_10 := Lib.hid (T_9.out.below hb10)
          clear T_9
          have U1_10 := Lib.hid (U1_9.out.below hb10)
          clear U1_9
          have U2_10 := Lib.hid (U2.out.below hb10)
          clear U2
          clear U1_10
          clear hlt nnf nnl
          cases hfc : fine
          · rw [hfc] at HFI HSA HIA
            have hNW : ¬ Wangs ts := of_decide_eq_false HFI.out.symm
            have hokd : decide (okI (fmtW ts).data.toList) = false := decide_eq_false fun q => hNW (HOK.out.1 q)
            clear HNP HTC HTW HFI HPF hNW HOK
            clear U2_10
            obtain ⟨s, hs⟩ : ∃ s, s = fmtW ts := ⟨_, rfl⟩
            rw [← hs] at HIM HSM hsm hokd
            have HS3 := Lib.hid hs
            have nns : (s != s) = false := ba_ne s
            have HIP := Lib.hid (fun w hM => implParse s w (by omega) hM)
            rw [hokd] at HIP
            generalize parseT s.data.toList = Z at HIP
            clear hokd hs
            go_wp2_with fail
            refine (HIM.out _ T_10.out).mono ?_
            rintro e w11 ⟨rfl, hb11⟩
            have z11 := hb11.size
            have q11 : Below w.heap.size w w11 := q10.trans (hb11.mono q10.size)
            have C_11 := Lib.hid (C_10.out.below hb11)
            clear C_10
            have M_11 := Lib.hid (M_10.out.below hb11)
            clear M_10
            have T_11 := Lib.hid (T_10.out.below hb11)
            clear T_10
            go_wp2_with fail
            refine (HIP.out _ M_11.out).mono ?_
            rintro e w12 ⟨a5, c5, rfl, ho5, hb12⟩
            have z12 := hb12.size
            have q12 : Below w.heap.size w w12 := q11.trans (hb12.mono q11.size)
            have C_12 := Lib.hid (C_11.out.below hb12)
            clear C_11
            have M_12 := Lib.hid (M_11.out.below hb12)
            clear M_11
            have T_12 := Lib.hid (T_11.out.below hb12)
            clear T_11
            clear ho5
            go_wp2_with fail
            refine (drawParseWang _ _ _ _ hn HW.out C_12.out).mono ?_
            rintro e w13 ⟨s2, rfl, hs2, hb13⟩
            have z13 := hb13.size
            have q13 : Below w.heap.size w w13 := q12.trans (hb13.mono q12.size)
            have C_13 := Lib.hid (C_12.out.below hb13)
            clear C_12
            have M_13 := Lib.hid (M_12.out.below hb13)
            clear M_12
            have T_13 := Lib.hid (T_12.out.below hb13)
            clear T_12
            have HIP2 := Lib.hid (fun w hM => implParse s2 w (by omega) hM)
            have HSP2 := Lib.hid (fun w => specParse s2 w (by omega))
            generalize parseT s2.data.toList = Z2 at HIP2 HSP2
            generalize decide (okI s2.data.toList) = ok2 at HIP2 HSP2
            have nno : (ok2 != ok2) = false := by simp
            go_wp2_with fail
            refine (HIP2.out _ M_13.out).mono ?_
            rintro e w14 ⟨a6, c6, rfl, ho6, hb14⟩
            have z14 := hb14.size
            have q14 : Below w.heap.size w w14 := q13.trans (hb14.mono q13.size)
            have C_14 := Lib.hid (C_13.out.below hb14)
            clear C_13
            have M_14 := Lib.hid (M_13.out.below hb14)
            clear M_13
            have T_14 := Lib.hid (T_13.out.below hb14)
            clear T_13
            clear ho6
            go_wp2_with fail
            refine (HSP2.out _).mono ?_
            rintro e w15 ⟨a7, c7, rfl, ho7, hb15⟩
            have z15 := hb15.size
            have q15 : Below w.heap.size w w15 := q14.trans (hb15.mono q14.size)
            have C_15 := Lib.hid (C_14.out.below hb15)
            clear C_14
            have M_15 := Lib.hid (M_14.out.below hb15)
            clear M_14
            have T_15 := Lib.hid (T_14.out.below hb15)
            clear T_14
            clear ho7
            go_wp2_with fail
            refine (HSM.out _ T_15.out).mono ?_
            rintro e w16 ⟨rfl, hb16⟩
            have z16 := hb16.size
            have q16 : Below w.heap.size w w16 := q15.trans (hb16.mono q15.size)
            have C_16 := Lib.hid (C_15.out.below hb16)
            clear C_15
            have M_16 := Lib.hid (M_15.out.below hb16)
            clear M_15
            have T_16 := Lib.hid (T_15.out.below hb16)
            clear T_15
            go_wp2_with fail
            refine (HSA.out _ T_16.out).mono ?_
            rintro e w' ⟨rfl, rfl⟩
            go_wp2_with fail
            refine (HIA.out _ T_16.out).mono ?_
            rintro e w17 ⟨rfl, hb17⟩
            have z17 := hb17.size
            have q17 : Below w.heap.size w w17 := q16.trans (hb17.mono q16.size)
            have C_17 := Lib.hid (C_16.out.below hb17)
            clear C_16
            have M_17 := Lib.hid (M_16.out.below hb17)
            clear M_16
            have T_17 := Lib.hid (T_16.out.below hb17)
            clear T_16
            go_wp2_with fail
            refine (drawIsWang _ _ _ _ hn HW.out C_17.out).mono ?_
            rintro e w18 ⟨a8, c8, ts8, x8, y8, af8, cf8, xs8, rfl, hu1, hu5, hl8, hcap8, hts8, hxs8, hb18⟩
            have z18 := hb18.size
            have q18 : Below w.heap.size w w18 := q17.trans (hb18.mono q17.size)
            have C_18 := Lib.hid (C_17.out.below hb18)
            clear C_17
            have M_18 := Lib.hid (M_17.out.below hb18)
            clear M_17
            have T_18 := Lib.hid (T_17.out.below hb18)
            clear T_17
            have T8 := Lib.hid (hts8)
            have X8 := Lib.hid (hxs8)
            clear hts8 hxs8
            have HIQ := Lib.hid (fun w h1 h2 => implFill a8 af8 c8 cf8 ts8 x8 y8 xs8 w (by omega) (by omega) hcap8 h1 h2)
            have HSQ := Lib.hid (fun w h1 h2 => specFill a8 af8 c8 cf8 ts8 x8 y8 xs8 w (by omega) (by omega) hcap8 h1 h2)
            generalize decide (IsFill ts8 x8 y8 xs8) = bq at HIQ HSQ
            have eeq : (bq == bq) = true := by simp
            go_wp2_with fail
            refine (HIQ.out _ T8.out X8.out).mono ?_
            rintro e w19 ⟨rfl, hb19⟩
            have z19 := hb19.size
            have q19 : Below w.heap.size w w19 := q18.trans (hb19.mono q18.size)
            have C_19 := Lib.hid (C_18.out.below hb19)
            clear C_18
            have M_19 := Lib.hid (M_18.out.below hb19)
            clear M_18
            have T_19 := Lib.hid (T_18.out.below hb19)
            clear T_18
            have T8_19 := Lib.hid (T8.out.below hb19)
            clear T8
            have X8_19 := Lib.hid (X8.out.below hb19)
            clear X8
            go_wp2_with fail
            refine (HSQ.out _ T8_19.out X8_19.out).mono ?_
            rintro e w20 ⟨rfl, hb20⟩
            have z20 := hb20.size
            have q20 : Below w.heap.size w w20 := q19.trans (hb20.mono q19.size)
            have C_20 := Lib.hid (C_19.out.below hb20)
            clear C_19
            have M_20 := Lib.hid (M_19.out.below hb20)
            clear M_19
            have T_20 := Lib.hid (T_19.out.below hb20)
            clear T_19
            have T8_20 := Lib.hid (T8_19.out.below hb20)
            clear T8_19
            have X8_20 := Lib.hid (X8_19.out.below hb20)
            clear X8_19
            clear T8_20 X8_20
            have HIU := Lib.hid (fun w hc => implUseX a0 c0 ts w (by omega) hc)
            have HSU := Lib.hid (fun w hc => specUseX a0 c0 ts w (by omega) hc)
            have hul : (nats (useful ts)).length ≤ 6 := by rw [nats_length]; exact useful_small ts
            generalize nats (useful ts) = V at HIU HSU hul
            go_wp2_with fail
            refine (HIU.out _ T_20.out).mono ?_
            rintro e w21 ⟨a9, c9, rfl, ho9, hb21⟩
            have z21 := hb21.size
            have q21 : Below w.heap.size w w21 := q20.trans (hb21.mono q20.size)
            have C_21 := Lib.hid (C_20.out.below hb21)
            clear C_20
            have M_21 := Lib.hid (M_20.out.below hb21)
            clear M_20
            have T_21 := Lib.hid (T_20.out.below hb21)
            clear T_20
            have V1 := Lib.hid (ownsRow_cellsAt ho9)
            clear ho9
            go_wp2_with fail
            refine (HSU.out _ T_21.out).mono ?_
            rintro e w22 ⟨a10, c10, rfl, ho10, hb22⟩
            have z22 := hb22.size
            have q22 : Below w.heap.size w w22 := q21.trans (hb22.mono q21.size)
            have C_22 := Lib.hid (C_21.out.below hb22)
            clear C_21
            have M_22 := Lib.hid (M_21.out.below hb22)
            clear M_21
            have T_22 := Lib.hid (T_21.out.below hb22)
            clear T_21
            have V1_22 := Lib.hid (V1.out.below hb22)
            clear V1
            have V2 := Lib.hid (ownsRow_cellsAt ho10)
            clear ho10
            go_wp2_with fail
            refine (sameInts_same _ _ _ _ V _ (by omega) V1_22.out V2.out).mono ?_
            rintro e w23 ⟨rfl, hb23⟩
            have z23 := hb23.size
            have q23 : Below w.heap.size w w23 := q22.trans (hb23.mono q22.size)
            have C_23 := Lib.hid (C_22.out.below hb23)
            clear C_22
            have M_23 := Lib.hid (M_22.out.below hb23)
            clear M_22
            have T_23 := Lib.hid (T_22.out.below hb23)
            clear T_22
            have V1_23 := Lib.hid (V1_22.out.below hb23)
            clear V1_22
            have V2_23 := Lib.hid (V2.out.below hb23)
            clear V2
            go_wp2
            go_ret
            exact ⟨rfl, q23⟩
          · rw [hfc] at HFI HSA HIA
            have hWW : Wangs ts := of_decide_eq_true HFI.out.symm
            have hokd : decide (okI (fmtW ts).data.toList) = true := decide_eq_true (HOK.out.2 hWW)
            have hpf := HPF.out hWW
            have htc := HTC.out hWW
            clear HNP HTC HTW HFI HPF HOK hWW
            by_cases hn0 : 0 ≤ n
            · have hd0 : decide (0 ≤ n) = true := decide_eq_true hn0
              have HICU := Lib.hid (fun w hc => implCount a4 c4 U y x w (by omega) hc)
              rw [htc] at HICU
              go_wp2_with fail
              refine (HICU.out _ U2_10.out).mono ?_
              rintro e w11 ⟨rfl, hb11⟩
              have z11 := hb11.size
              have q11 : Below w.heap.size w w11 := q10.trans (hb11.mono q10.size)
              have C_11 := Lib.hid (C_10.out.below hb11)
              clear C_10
              have M_11 := Lib.hid (M_10.out.below hb11)
              clear M_10
              have T_11 := Lib.hid (T_10.out.below hb11)
              clear T_10
              have U2_11 := Lib.hid (U2_10.out.below hb11)
              clear U2_10
              clear htc HICU
              clear U2_11
              obtain ⟨s, hs⟩ : ∃ s, s = fmtW ts := ⟨_, rfl⟩
              rw [← hs] at HIM HSM hsm hokd hpf
              have HS3 := Lib.hid hs
              have nns : (s != s) = false := ba_ne s
              have HIP := Lib.hid (fun w hM => implParse s w (by omega) hM)
              rw [hokd] at HIP
              rw [hpf] at HIP
              clear hokd hs hpf
              go_wp2_with fail
              refine (HIM.out _ T_11.out).mono ?_
              rintro e w12 ⟨rfl, hb12⟩
              have z12 := hb12.size
              have q12 : Below w.heap.size w w12 := q11.trans (hb12.mono q11.size)
              have C_12 := Lib.hid (C_11.out.below hb12)
              clear C_11
              have M_12 := Lib.hid (M_11.out.below hb12)
              clear M_11
              have T_12 := Lib.hid (T_11.out.below hb12)
              clear T_11
              go_wp2_with fail
              refine (HIP.out _ M_12.out).mono ?_
              rintro e w13 ⟨a5, c5, rfl, ho5, hb13⟩
              have z13 := hb13.size
              have q13 : Below w.heap.size w w13 := q12.trans (hb13.mono q12.size)
              have C_13 := Lib.hid (C_12.out.below hb13)
              clear C_12
              have M_13 := Lib.hid (M_12.out.below hb13)
              clear M_12
              have T_13 := Lib.hid (T_12.out.below hb13)
              clear T_12
              have Z := Lib.hid (ownsRow_cellsAt ho5)
              clear ho5
              go_wp2_with fail
              refine (drawParseWang _ _ _ _ hn HW.out C_13.out).mono ?_
              rintro e w14 ⟨s2, rfl, hs2, hb14⟩
              have z14 := hb14.size
              have q14 : Below w.heap.size w w14 := q13.trans (hb14.mono q13.size)
              have C_14 := Lib.hid (C_13.out.below hb14)
              clear C_13
              have M_14 := Lib.hid (M_13.out.below hb14)
              clear M_13
              have T_14 := Lib.hid (T_13.out.below hb14)
              clear T_13
              have Z_14 := Lib.hid (Z.out.below hb14)
              clear Z
              have HIP2 := Lib.hid (fun w hM => implParse s2 w (by omega) hM)
              have HSP2 := Lib.hid (fun w => specParse s2 w (by omega))
              generalize parseT s2.data.toList = Z2 at HIP2 HSP2
              generalize decide (okI s2.data.toList) = ok2 at HIP2 HSP2
              have nno : (ok2 != ok2) = false := by simp
              go_wp2_with fail
              refine (HIP2.out _ M_14.out).mono ?_
              rintro e w15 ⟨a6, c6, rfl, ho6, hb15⟩
              have z15 := hb15.size
              have q15 : Below w.heap.size w w15 := q14.trans (hb15.mono q14.size)
              have C_15 := Lib.hid (C_14.out.below hb15)
              clear C_14
              have M_15 := Lib.hid (M_14.out.below hb15)
              clear M_14
              have T_15 := Lib.hid (T_14.out.below hb15)
              clear T_14
              have Z_15 := Lib.hid (Z_14.out.below hb15)
              clear Z_14
              clear ho6
              go_wp2_with fail
              refine (HSP2.out _).mono ?_
              rintro e w16 ⟨a7, c7, rfl, ho7, hb16⟩
              have z16 := hb16.size
              have q16 : Below w.heap.size w w16 := q15.trans (hb16.mono q15.size)
              have C_16 := Lib.hid (C_15.out.below hb16)
              clear C_15
              have M_16 := Lib.hid (M_15.out.below hb16)
              clear M_15
              have T_16 := Lib.hid (T_15.out.below hb16)
              clear T_15
              have Z_16 := Lib.hid (Z_15.out.below hb16)
              clear Z_15
              clear ho7
              go_wp2_with fail
              refine (HSM.out _ T_16.out).mono ?_
              rintro e w17 ⟨rfl, hb17⟩
              have z17 := hb17.size
              have q17 : Below w.heap.size w w17 := q16.trans (hb17.mono q16.size)
              have C_17 := Lib.hid (C_16.out.below hb17)
              clear C_16
              have M_17 := Lib.hid (M_16.out.below hb17)
              clear M_16
              have T_17 := Lib.hid (T_16.out.below hb17)
              clear T_16
              have Z_17 := Lib.hid (Z_16.out.below hb17)
              clear Z_16
              go_wp2_with fail
              refine (HSA.out _ T_17.out).mono ?_
              rintro e w' ⟨rfl, rfl⟩
              go_wp2_with fail
              refine (HIA.out _ T_17.out).mono ?_
              rintro e w18 ⟨rfl, hb18⟩
              have z18 := hb18.size
              have q18 : Below w.heap.size w w18 := q17.trans (hb18.mono q17.size)
              have C_18 := Lib.hid (C_17.out.below hb18)
              clear C_17
              have M_18 := Lib.hid (M_17.out.below hb18)
              clear M_17
              have T_18 := Lib.hid (T_17.out.below hb18)
              clear T_17
              have Z_18 := Lib.hid (Z_17.out.below hb18)
              clear Z_17
              have HSM5 := Lib.hid (fun w hc => specFmt a5 c5 ts w (by omega) hc)
              rw [← HS3.out] at HSM5
              go_wp2_with fail
              refine (HSM5.out _ Z_18.out).mono ?_
              rintro e w19 ⟨rfl, hb19⟩
              have z19 := hb19.size
              have q19 : Below w.heap.size w w19 := q18.trans (hb19.mono q18.size)
              have C_19 := Lib.hid (C_18.out.below hb19)
              clear C_18
              have M_19 := Lib.hid (M_18.out.below hb19)
              clear M_18
              have T_19 := Lib.hid (T_18.out.below hb19)
              clear T_18
              have Z_19 := Lib.hid (Z_18.out.below hb19)
              clear Z_18
              clear Z_19
              go_wp2_with fail
              refine (drawIsWang _ _ _ _ hn HW.out C_19.out).mono ?_
              rintro e w20 ⟨a8, c8, ts8, x8, y8, af8, cf8, xs8, rfl, hu1, hu5, hl8, hcap8, hts8, hxs8, hb20⟩
              have z20 := hb20.size
              have q20 : Below w.heap.size w w20 := q19.trans (hb20.mono q19.size)
              have C_20 := Lib.hid (C_19.out.below hb20)
              clear C_19
              have M_20 := Lib.hid (M_19.out.below hb20)
              clear M_19
              have T_20 := Lib.hid (T_19.out.below hb20)
              clear T_19
              have T8 := Lib.hid (hts8)
              have X8 := Lib.hid (hxs8)
              clear hts8 hxs8
              have HIQ := Lib.hid (fun w h1 h2 => implFill a8 af8 c8 cf8 ts8 x8 y8 xs8 w (by omega) (by omega) hcap8 h1 h2)
              have HSQ := Lib.hid (fun w h1 h2 => specFill a8 af8 c8 cf8 ts8 x8 y8 xs8 w (by omega) (by omega) hcap8 h1 h2)
              generalize decide (IsFill ts8 x8 y8 xs8) = bq at HIQ HSQ
              have eeq : (bq == bq) = true := by simp
              go_wp2_with fail
              refine (HIQ.out _ T8.out X8.out).mono ?_
              rintro e w21 ⟨rfl, hb21⟩
              have z21 := hb21.size
              have q21 : Below w.heap.size w w21 := q20.trans (hb21.mono q20.size)
              have C_21 := Lib.hid (C_20.out.below hb21)
              clear C_20
              have M_21 := Lib.hid (M_20.out.below hb21)
              clear M_20
              have T_21 := Lib.hid (T_20.out.below hb21)
              clear T_20
              have T8_21 := Lib.hid (T8.out.below hb21)
              clear T8
              have X8_21 := Lib.hid (X8.out.below hb21)
              clear X8
              go_wp2_with fail
              refine (HSQ.out _ T8_21.out X8_21.out).mono ?_
              rintro e w22 ⟨rfl, hb22⟩
              have z22 := hb22.size
              have q22 : Below w.heap.size w w22 := q21.trans (hb22.mono q21.size)
              have C_22 := Lib.hid (C_21.out.below hb22)
              clear C_21
              have M_22 := Lib.hid (M_21.out.below hb22)
              clear M_21
              have T_22 := Lib.hid (T_21.out.below hb22)
              clear T_21
              have T8_22 := Lib.hid (T8_21.out.below hb22)
              clear T8_21
              have X8_22 := Lib.hid (X8_21.out.below hb22)
              clear X8_21
              clear T8_22 X8_22
              have HIU := Lib.hid (fun w hc => implUseX a0 c0 ts w (by omega) hc)
              have HSU := Lib.hid (fun w hc => specUseX a0 c0 ts w (by omega) hc)
              have hul : (nats (useful ts)).length ≤ 6 := by rw [nats_length]; exact useful_small ts
              generalize nats (useful ts) = V at HIU HSU hul
              go_wp2_with fail
              refine (HIU.out _ T_22.out).mono ?_
              rintro e w23 ⟨a9, c9, rfl, ho9, hb23⟩
              have z23 := hb23.size
              have q23 : Below w.heap.size w w23 := q22.trans (hb23.mono q22.size)
              have C_23 := Lib.hid (C_22.out.below hb23)
              clear C_22
              have M_23 := Lib.hid (M_22.out.below hb23)
              clear M_22
              have T_23 := Lib.hid (T_22.out.below hb23)
              clear T_22
              have V1 := Lib.hid (ownsRow_cellsAt ho9)
              clear ho9
              go_wp2_with fail
              refine (HSU.out _ T_23.out).mono ?_
              rintro e w24 ⟨a10, c10, rfl, ho10, hb24⟩
              have z24 := hb24.size
              have q24 : Below w.heap.size w w24 := q23.trans (hb24.mono q23.size)
              have C_24 := Lib.hid (C_23.out.below hb24)
              clear C_23
              have M_24 := Lib.hid (M_23.out.below hb24)
              clear M_23
              have T_24 := Lib.hid (T_23.out.below hb24)
              clear T_23
              have V1_24 := Lib.hid (V1.out.below hb24)
              clear V1
              have V2 := Lib.hid (ownsRow_cellsAt ho10)
              clear ho10
              go_wp2_with fail
              refine (sameInts_same _ _ _ _ V _ (by omega) V1_24.out V2.out).mono ?_
              rintro e w25 ⟨rfl, hb25⟩
              have z25 := hb25.size
              have q25 : Below w.heap.size w w25 := q24.trans (hb25.mono q24.size)
              have C_25 := Lib.hid (C_24.out.below hb25)
              clear C_24
              have M_25 := Lib.hid (M_24.out.below hb25)
              clear M_24
              have T_25 := Lib.hid (T_24.out.below hb25)
              clear T_24
              have V1_25 := Lib.hid (V1_24.out.below hb25)
              clear V1_24
              have V2_25 := Lib.hid (V2.out.below hb25)
              clear V2
              go_wp2
              go_ret
              exact ⟨rfl, q25⟩
            · have hd0 : decide (0 ≤ n) = false := decide_eq_false hn0
              clear htc
              clear U2_10
              obtain ⟨s, hs⟩ : ∃ s, s = fmtW ts := ⟨_, rfl⟩
              rw [← hs] at HIM HSM hsm hokd hpf
              have HS3 := Lib.hid hs
              have nns : (s != s) = false := ba_ne s
              have HIP := Lib.hid (fun w hM => implParse s w (by omega) hM)
              rw [hokd] at HIP
              rw [hpf] at HIP
              clear hokd hs hpf
              go_wp2_with fail
              refine (HIM.out _ T_10.out).mono ?_
              rintro e w11 ⟨rfl, hb11⟩
              have z11 := hb11.size
              have q11 : Below w.heap.size w w11 := q10.trans (hb11.mono q10.size)
              have C_11 := Lib.hid (C_10.out.below hb11)
              clear C_10
              have M_11 := Lib.hid (M_10.out.below hb11)
              clear M_10
              have T_11 := Lib.hid (T_10.out.below hb11)
              clear T_10
              go_wp2_with fail
              refine (HIP.out _ M_11.out).mono ?_
              rintro e w12 ⟨a5, c5, rfl, ho5, hb12⟩
              have z12 := hb12.size
              have q12 : Below w.heap.size w w12 := q11.trans (hb12.mono q11.size)
              have C_12 := Lib.hid (C_11.out.below hb12)
              clear C_11
              have M_12 := Lib.hid (M_11.out.below hb12)
              clear M_11
              have T_12 := Lib.hid (T_11.out.below hb12)
              clear T_11
              have Z := Lib.hid (ownsRow_cellsAt ho5)
              clear ho5
              go_wp2_with fail
              refine (drawParseWang _ _ _ _ hn HW.out C_12.out).mono ?_
              rintro e w13 ⟨s2, rfl, hs2, hb13⟩
              have z13 := hb13.size
              have q13 : Below w.heap.size w w13 := q12.trans (hb13.mono q12.size)
              have C_13 := Lib.hid (C_12.out.below hb13)
              clear C_12
              have M_13 := Lib.hid (M_12.out.below hb13)
              clear M_12
              have T_13 := Lib.hid (T_12.out.below hb13)
              clear T_12
              have Z_13 := Lib.hid (Z.out.below hb13)
              clear Z
              have HIP2 := Lib.hid (fun w hM => implParse s2 w (by omega) hM)
              have HSP2 := Lib.hid (fun w => specParse s2 w (by omega))
              generalize parseT s2.data.toList = Z2 at HIP2 HSP2
              generalize decide (okI s2.data.toList) = ok2 at HIP2 HSP2
              have nno : (ok2 != ok2) = false := by simp
              go_wp2_with fail
              refine (HIP2.out _ M_13.out).mono ?_
              rintro e w14 ⟨a6, c6, rfl, ho6, hb14⟩
              have z14 := hb14.size
              have q14 : Below w.heap.size w w14 := q13.trans (hb14.mono q13.size)
              have C_14 := Lib.hid (C_13.out.below hb14)
              clear C_13
              have M_14 := Lib.hid (M_13.out.below hb14)
              clear M_13
              have T_14 := Lib.hid (T_13.out.below hb14)
              clear T_13
              have Z_14 := Lib.hid (Z_13.out.below hb14)
              clear Z_13
              clear ho6
              go_wp2_with fail
              refine (HSP2.out _).mono ?_
              rintro e w15 ⟨a7, c7, rfl, ho7, hb15⟩
              have z15 := hb15.size
              have q15 : Below w.heap.size w w15 := q14.trans (hb15.mono q14.size)
              have C_15 := Lib.hid (C_14.out.below hb15)
              clear C_14
              have M_15 := Lib.hid (M_14.out.below hb15)
              clear M_14
              have T_15 := Lib.hid (T_14.out.below hb15)
              clear T_14
              have Z_15 := Lib.hid (Z_14.out.below hb15)
              clear Z_14
              clear ho7
              go_wp2_with fail
              refine (HSM.out _ T_15.out).mono ?_
              rintro e w16 ⟨rfl, hb16⟩
              have z16 := hb16.size
              have q16 : Below w.heap.size w w16 := q15.trans (hb16.mono q15.size)
              have C_16 := Lib.hid (C_15.out.below hb16)
              clear C_15
              have M_16 := Lib.hid (M_15.out.below hb16)
              clear M_15
              have T_16 := Lib.hid (T_15.out.below hb16)
              clear T_15
              have Z_16 := Lib.hid (Z_15.out.below hb16)
              clear Z_15
              go_wp2_with fail
              refine (HSA.out _ T_16.out).mono ?_
              rintro e w' ⟨rfl, rfl⟩
              go_wp2_with fail
              refine (HIA.out _ T_16.out).mono ?_
              rintro e w17 ⟨rfl, hb17⟩
              have z17 := hb17.size
              have q17 : Below w.heap.size w w17 := q16.trans (hb17.mono q16.size)
              have C_17 := Lib.hid (C_16.out.below hb17)
              clear C_16
              have M_17 := Lib.hid (M_16.out.below hb17)
              clear M_16
              have T_17 := Lib.hid (T_16.out.below hb17)
              clear T_16
              have Z_17 := Lib.hid (Z_16.out.below hb17)
              clear Z_16
              have HSM5 := Lib.hid (fun w hc => specFmt a5 c5 ts w (by omega) hc)
              rw [← HS3.out] at HSM5
              go_wp2_with fail
              refine (HSM5.out _ Z_17.out).mono ?_
              rintro e w18 ⟨rfl, hb18⟩
              have z18 := hb18.size
              have q18 : Below w.heap.size w w18 := q17.trans (hb18.mono q17.size)
              have C_18 := Lib.hid (C_17.out.below hb18)
              clear C_17
              have M_18 := Lib.hid (M_17.out.below hb18)
              clear M_17
              have T_18 := Lib.hid (T_17.out.below hb18)
              clear T_17
              have Z_18 := Lib.hid (Z_17.out.below hb18)
              clear Z_17
              clear Z_18
              go_wp2_with fail
              refine (drawIsWang _ _ _ _ hn HW.out C_18.out).mono ?_
              rintro e w19 ⟨a8, c8, ts8, x8, y8, af8, cf8, xs8, rfl, hu1, hu5, hl8, hcap8, hts8, hxs8, hb19⟩
              have z19 := hb19.size
              have q19 : Below w.heap.size w w19 := q18.trans (hb19.mono q18.size)
              have C_19 := Lib.hid (C_18.out.below hb19)
              clear C_18
              have M_19 := Lib.hid (M_18.out.below hb19)
              clear M_18
              have T_19 := Lib.hid (T_18.out.below hb19)
              clear T_18
              have T8 := Lib.hid (hts8)
              have X8 := Lib.hid (hxs8)
              clear hts8 hxs8
              have HIQ := Lib.hid (fun w h1 h2 => implFill a8 af8 c8 cf8 ts8 x8 y8 xs8 w (by omega) (by omega) hcap8 h1 h2)
              have HSQ := Lib.hid (fun w h1 h2 => specFill a8 af8 c8 cf8 ts8 x8 y8 xs8 w (by omega) (by omega) hcap8 h1 h2)
              generalize decide (IsFill ts8 x8 y8 xs8) = bq at HIQ HSQ
              have eeq : (bq == bq) = true := by simp
              go_wp2_with fail
              refine (HIQ.out _ T8.out X8.out).mono ?_
              rintro e w20 ⟨rfl, hb20⟩
              have z20 := hb20.size
              have q20 : Below w.heap.size w w20 := q19.trans (hb20.mono q19.size)
              have C_20 := Lib.hid (C_19.out.below hb20)
              clear C_19
              have M_20 := Lib.hid (M_19.out.below hb20)
              clear M_19
              have T_20 := Lib.hid (T_19.out.below hb20)
              clear T_19
              have T8_20 := Lib.hid (T8.out.below hb20)
              clear T8
              have X8_20 := Lib.hid (X8.out.below hb20)
              clear X8
              go_wp2_with fail
              refine (HSQ.out _ T8_20.out X8_20.out).mono ?_
              rintro e w21 ⟨rfl, hb21⟩
              have z21 := hb21.size
              have q21 : Below w.heap.size w w21 := q20.trans (hb21.mono q20.size)
              have C_21 := Lib.hid (C_20.out.below hb21)
              clear C_20
              have M_21 := Lib.hid (M_20.out.below hb21)
              clear M_20
              have T_21 := Lib.hid (T_20.out.below hb21)
              clear T_20
              have T8_21 := Lib.hid (T8_20.out.below hb21)
              clear T8_20
              have X8_21 := Lib.hid (X8_20.out.below hb21)
              clear X8_20
              clear T8_21 X8_21
              have HIU := Lib.hid (fun w hc => implUseX a0 c0 ts w (by omega) hc)
              have HSU := Lib.hid (fun w hc => specUseX a0 c0 ts w (by omega) hc)
              have hul : (nats (useful ts)).length ≤ 6 := by rw [nats_length]; exact useful_small ts
              generalize nats (useful ts) = V at HIU HSU hul
              go_wp2_with fail
              refine (HIU.out _ T_21.out).mono ?_
              rintro e w22 ⟨a9, c9, rfl, ho9, hb22⟩
              have z22 := hb22.size
              have q22 : Below w.heap.size w w22 := q21.trans (hb22.mono q21.size)
              have C_22 := Lib.hid (C_21.out.below hb22)
              clear C_21
              have M_22 := Lib.hid (M_21.out.below hb22)
              clear M_21
              have T_22 := Lib.hid (T_21.out.below hb22)
              clear T_21
              have V1 := Lib.hid (ownsRow_cellsAt ho9)
              clear ho9
              go_wp2_with fail
              refine (HSU.out _ T_22.out).mono ?_
              rintro e w23 ⟨a10, c10, rfl, ho10, hb23⟩
              have z23 := hb23.size
              have q23 : Below w.heap.size w w23 := q22.trans (hb23.mono q22.size)
              have C_23 := Lib.hid (C_22.out.below hb23)
              clear C_22
              have M_23 := Lib.hid (M_22.out.below hb23)
              clear M_22
              have T_23 := Lib.hid (T_22.out.below hb23)
              clear T_22
              have V1_23 := Lib.hid (V1.out.below hb23)
              clear V1
              have V2 := Lib.hid (ownsRow_cellsAt ho10)
              clear ho10
              go_wp2_with fail
              refine (sameInts_same _ _ _ _ V _ (by omega) V1_23.out V2.out).mono ?_
              rintro e w24 ⟨rfl, hb24⟩
              have z24 := hb24.size
              have q24 : Below w.heap.size w w24 := q23.trans (hb24.mono q23.size)
              have C_24 := Lib.hid (C_23.out.below hb24)
              clear C_23
              have M_24 := Lib.hid (M_23.out.below hb24)
              clear M_23
              have T_24 := Lib.hid (T_23.out.below hb24)
              clear T_23
              have V1_24 := Lib.hid (V1_23.out.below hb24)
              clear V1_23
              have V2_24 := Lib.hid (V2.out.below hb24)
              clear V2
              go_wp2
              go_ret
              exact ⟨rfl, q24⟩
  · rw [decide_eq_true (by omega)] at hbig
    have HBIG := Lib.hid hbig
    clear hbig hc0 hw0
    go_enter Tryd.func6, Tryd.ntmps6
    go_wp2_with fail
    refine (HBIG.out _).mono ?_
    rintro e w' ⟨rfl, rfl⟩
    go_wp2
    go_ret
    exact ⟨rfl, Below.refl _ _⟩

set_option maxRecDepth 100000 in
theorem lifted (os : Os) (started : os.Started) (H : Type) (enc : TypeId × Value → H) :
    ReturnsInHanded {} Tryd.checked os 6 .any (fun w args => (Rows.fnWangSpec.pre enc Tryd.prog Tryd.f6 Rows.fnWangRow.domain false w args ∧ laidMetH Tryd.prog tabs5 w) ∧ sizedMet enc Tryd.prog Tryd.f6 (OpenSpec.ofChange Rows.fnWangSpec) false w args) (Rows.fnWangSpec.post enc Tryd.prog Tryd.f6 false true false false) := by
  refine returns_and_shaped (C := Tryd.checked) (X := fun w _ => laidMetH Tryd.prog tabs5 w) (fun _ _ _ hh h => h.of_heap hh) Tryd.own started (by kernel_rfl) Tryd.func6
    (ChangeSpec.witness_shaped (enc := enc) (C := Tryd.checked) (os := os) (X := fun w _ => laidMetH Tryd.prog tabs5 w) false (World.laidAll Tryd.prog os tabs5) #[.slice none 0 0] 8 (World.laidAll_os _ _ _)
      (World.shaped_of_ZipB (by kernel_rfl) (by kernel_rfl)) (by kernel_rfl) (by kernel_rfl) (by kernel_rfl)
      (by rw [MakeChecks.laidMetH_plain _ _ _ (by kernel_rfl)]; exact laidMet_laidAll _ (by kernel_rfl) (by kernel_rfl))) ?_
  intro W base args ds gs before hval0 hW hcnd _ _ hSh _
  have hval : ∀ (j : Nat) t v, Tryd.f6.params[j]? = some t → args[j]? = some v → Value.okWide Tryd.prog W .any base t v := hval0
  have hW' := hW
  obtain ⟨p, q, hA0, hV, rfl, hfz, hnd⟩ := hW
  have hA : DataW.TrodAll enc Tryd.prog W 0 (fun _ => true) true Tryd.f6.params.toList args.toList ds p := hA0
  rw [Tryd.params6] at hA hval
  obtain ⟨v0, vs0, d0, ds0, p0, q0, hargs, rfl, rfl, h0, r0⟩ := trodAll_cons hA
  obtain ⟨rfl, rfl, rfl⟩ := trodAll_nil r0
  obtain rfl : args = #[v0] := by cases args; simp_all
  obtain ⟨rfl, rfl⟩ := trodVars_none hV
  obtain ⟨ad0, cap0, xs0, rfl, hm0, hc0, hw0⟩ := openBts (hval 0 33 v0 rfl rfl) h0
  clear hA0 hval0
  refine (walk W ad0 cap0 xs0 hm0 hc0 hw0 (maxAt_of hSh)).mono fun e W' ⟨he, hb⟩ => ?_
  subst he
  exact ⟨_, rfl, law_post rfl hW' hb (by rw [Tryd.params6]; exact readable_all (by kernel_rfl)) (by kernel_rfl) (by kernel_rfl) rfl⟩

theorem proved : Rows.FnWangSaid :=
  OpenClaim.holds_of_wide 6 Tryd.f6 rfl rfl rfl rfl rfl rfl rfl ⟨rfl, rfl, rfl, rfl, rfl⟩ rfl rfl rfl rfl rfl (by kernel_rfl) Tryd.func6 (by kernel_rfl)
    (of_decide_eq_true (by kernel_rfl)) (by unfold Func.isWrapper; first | (rw [if_pos (by decide +kernel)]; kernel_rfl) | (rw [if_neg (by decide +kernel)]; exact ⟨rfl, rfl⟩))
    (fun os started H enc _ => lifted os started H enc)

theorem card : Rows.FnWangCardSaid :=
  Claim7.holds_tied_plain_at .later [] [.data, .data, .data, .data, .pinned] true (true, "4819d24e09a884b5f2ccb9661a81f42dec9b3b02da50283e748b7986a53aa823") false proved (fun _ h => by cases h) (by kernel_rfl) (fun _ h => by cases h) fnWang_row_tie rfl ⟨rfl, rfl⟩ (by kernel_rfl) rfl
    (fun f fn hf hfn => by
      obtain rfl : f = 6 := Option.some.inj ((show Tryd.prog.funcNamed "loop.example/g03400/laws.FnWang" = some 6 by kernel_rfl).symm.trans hf) |>.symm
      obtain rfl : fn = Tryd.f6 := (Option.some.inj (Tryd.func6.symm.trans hfn)).symm
      exact ⟨by kernel_rfl, fun j t ht => by
        have hm : t ∈ Tryd.f6.params.toList := Array.mem_toList_iff.2 (Array.mem_of_getElem? ht)
        have hall : (Tryd.f6.params.toList.all fun u => !Tryd.prog.wantsStandIn u) = true := by kernel_rfl
        exact (show Tryd.prog.wantsStandIn t = false by simpa using List.all_eq_true.1 hall t hm)⟩)
    (by kernel_rfl)
end Go.Proofs.YtdnklmdmafbogaaDoor.lawFWang
