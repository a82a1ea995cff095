/- LawExpand: the program's ExpandFill returns what the reference's returns, for every list of tiles, all sides, every list of numbers and every count, in memory of its own; no condition. -/
import Derived.Test.YtbmapeeejfdpbaaFrameWang
import Derived.Test.YtbmapeeejfdpbaaMarkWang
import Derived.Test.YtbmapeeejfdpbaaMarkFar
import Derived.Test.YtbmapeeejfdpbaaExpand
namespace Go.Proofs.Ytbmapeeejfdpbaa.lawExpand
open Go.ChangeShapes Go.WideShapes Go.ChangeAt Go.RowKit

theorem expand_length (ts : List Tile) (a b : Int) (xs : List Int) (k : Int) : (expand ts a b xs k).length ≤ 16 := by
  unfold expand
  split
  · rename_i h
    rw [exI_length]
    obtain ⟨hP, ⟨k1, k2⟩, h1, h2⟩ := h
    have ha := hP.1.2.1.1
    have hb := hP.1.2.1.2
    obtain ⟨A, rfl⟩ := Int.eq_ofNat_of_zero_le (show 0 ≤ a by omega)
    obtain ⟨B, rfl⟩ := Int.eq_ofNat_of_zero_le (show 0 ≤ b by omega)
    obtain ⟨K, rfl⟩ := Int.eq_ofNat_of_zero_le (show 0 ≤ k by omega)
    have e1 : A * K ≤ 4 := by exact_mod_cast h1
    have e2 : B * K ≤ 4 := by exact_mod_cast h2
    exact Nat.mul_le_mul e2 e1
  · simp

theorem both (ts : List Tile) (_hw : ∀ x ∈ ts, (Lit.int .i64 x.t).wf = true ∧ (Lit.int .i64 x.r).wf = true ∧ (Lit.int .i64 x.b).wf = true ∧ (Lit.int .i64 x.l).wf = true) (hn : ts.length ≤ 1048576)
    (a : Int) (_wa : (Lit.int .i64 a).wf = true) (b : Int) (_wb : (Lit.int .i64 b).wf = true) (xs : List Int) (_hx : ∀ x ∈ xs, (Lit.int .i64 x).wf = true) (hm : xs.length ≤ 1048576) (k : Int) (wk : (Lit.int .i64 k).wf = true) :
    ∃ (r0 : List Int) (r1 : Bool), r0.length ≤ 16 ∧
      (∀ w ad cap af cf, ts.length ≤ cap → xs.length ≤ cf → CellsAt w ad (wangs ts) → CellsAt w af (ints xs) → Calls Try.prog 39 #[.slice ad ts.length cap, .int .i64 a, .int .i64 b, .slice af xs.length cf, .int .i64 k] w fun e w' => ∃ ad' cap', e = .returned (.tuple #[.slice ad' r0.length cap', .bool r1]) ∧ w'.ownsRow w.heap.size 3 1 (.slice ad' r0.length cap') r0.length (ints r0) ∧ Below w.heap.size w w') ∧
      ∀ w ad cap af cf, ts.length ≤ cap → xs.length ≤ cf → CellsAt w ad (wangs ts) → CellsAt w af (ints xs) → Calls Try.prog 40 #[.slice ad ts.length cap, .int .i64 a, .int .i64 b, .slice af xs.length cf, .int .i64 k] w fun e w' => ∃ ad' cap', e = .returned (.tuple #[.slice ad' r0.length cap', .bool r1]) ∧ w'.ownsRow w.heap.size 3 1 (.slice ad' r0.length cap') r0.length (ints r0) ∧ Below w.heap.size w w' :=
  ⟨expand ts a b xs k, decide (ExOk ts a b xs k), expand_length ts a b xs k, fun w ad cap af cf _ hc h1 h2 => specExpand ad af cap cf ts a b xs k w hn hm hc (i64_bounds wk) h1 h2, fun w ad cap af cf _ hc h1 h2 => implExpand ad af cap cf ts a b xs k w hn hm hc (i64_bounds wk) h1 h2⟩

set_option maxRecDepth 100000 in
set_option maxHeartbeats 4000000 in
theorem walk (w : World) (ad0 : Option Addr) (cap0 : Nat) (xs0 : List Tile) (hm0 : xs0.length ≤ maxLen) (hc0 : CellsAt w ad0 (wangs xs0)) (hw0 : ∀ x ∈ xs0, (Lit.int .i64 x.t).wf = true ∧ (Lit.int .i64 x.r).wf = true ∧ (Lit.int .i64 x.b).wf = true ∧ (Lit.int .i64 x.l).wf = true) (a1 : Int) (w1_ : (Lit.int .i64 a1).wf = true) (a2 : Int) (w2_ : (Lit.int .i64 a2).wf = true) (ad3 : Option Addr) (cap3 : Nat) (xs3 : List Int) (hm3 : xs3.length ≤ maxLen) (hc3 : CellsAt w ad3 (ints xs3)) (hw3 : ∀ x ∈ xs3, (Lit.int .i64 x).wf = true) (a4 : Int) (w4_ : (Lit.int .i64 a4).wf = true) :
    Calls Try.prog 11 #[.slice ad0 xs0.length cap0, .int .i64 a1, .int .i64 a2, .slice ad3 xs3.length cap3, .int .i64 a4] w fun e w' => e = .returned (.bool true) ∧ Below w.heap.size w w' := by
  unfold maxLen at hm0
  unfold maxLen at hm3
  have H0 := Lib.hid hc0
  clear hc0
  have H3 := Lib.hid hc3
  clear hc3
  by_cases hn3 : xs3.length ≤ 1048576
  · skip
    by_cases hn0_ : xs0.length ≤ 1048576
    · skip
      have hn0 : xs0.length ≤ 1048576 := by omega
      obtain ⟨r0, r1, HL, hs, hi⟩ := both xs0 hw0 hn0 a1 w1_ a2 w2_ xs3 hw3 hn3 a4 w4_
      have HS := Lib.hid hs
      have HI := Lib.hid hi
      clear hs hi hw0 hw3 w1_ w2_ w4_
      have nn1 : (r1 != r1) = false := by simp
      have q0 : Below w.heap.size w w := Below.refl _ _
      go_enter Try.func11, Try.ntmps11
      go_wp2_with fail
      refine (szWangS_any _ _ _ _ _ hm0 (by omega) (by omega)).mono ?_
      rw [if_neg (by omega)]
      rintro e w' ⟨rfl, rfl⟩
      go_wp2_with fail
      refine (toWangS_any _ _ xs0 _ hn0 (H0.out.below q0)).mono ?_
      rintro e w1 ⟨a1_, c1_, rfl, ho1, hb1⟩
      have z1 := hb1.size
      have q1 : Below w.heap.size w w1 := q0.trans (hb1.mono q0.size)
      have S0 := Lib.hid (Owned.of ho1)
      clear ho1
      go_wp2_with fail
      refine (toIntS_any _ _ xs3 _ hn3 (H3.out.below q1)).mono ?_
      rintro e w2 ⟨a2_, c2_, rfl, ho2, hb2⟩
      have z2 := hb2.size
      have q2 : Below w.heap.size w w2 := q1.trans (hb2.mono q1.size)
      have S0_2 := Lib.hid (S0.out.below hb2 (by omega))
      clear S0
      have S3 := Lib.hid (Owned.of ho2)
      clear ho2
      go_wp2_with fail
      refine (HS.out _ _ _ _ _ S0_2.out.le_cap S3.out.le_cap S0_2.out.cells S3.out.cells).mono ?_
      rintro e w3 ⟨b3_0, d3_0, rfl, ho3_0, hb3⟩
      have z3 := hb3.size
      have q3 : Below w.heap.size w w3 := q2.trans (hb3.mono q2.size)
      have S0_3 := Lib.hid (S0_2.out.below hb3 (by omega))
      clear S0_2
      have S3_3 := Lib.hid (S3.out.below hb3 (by omega))
      clear S3
      have R0 := Lib.hid (Owned.of ho3_0)
      clear ho3_0
      clear S0_3
      clear S3_3
      go_wp2_with fail
      refine (toWangS_any _ _ xs0 _ hn0 (H0.out.below q3)).mono ?_
      rintro e w4 ⟨a4_, c4_, rfl, ho4, hb4⟩
      have z4 := hb4.size
      have q4 : Below w.heap.size w w4 := q3.trans (hb4.mono q3.size)
      have R0_4 := Lib.hid (R0.out.below hb4 (by omega))
      clear R0
      have X0 := Lib.hid (Owned.of ho4)
      clear ho4
      go_wp2_with fail
      refine (toIntS_any _ _ xs3 _ hn3 (H3.out.below q4)).mono ?_
      rintro e w5 ⟨a5_, c5_, rfl, ho5, hb5⟩
      have z5 := hb5.size
      have q5 : Below w.heap.size w w5 := q4.trans (hb5.mono q4.size)
      have R0_5 := Lib.hid (R0_4.out.below hb5 (by omega))
      clear R0_4
      have X0_5 := Lib.hid (X0.out.below hb5 (by omega))
      clear X0
      have X3 := Lib.hid (Owned.of ho5)
      clear ho5
      go_wp2_with fail
      refine (HI.out _ _ _ _ _ X0_5.out.le_cap X3.out.le_cap X0_5.out.cells X3.out.cells).mono ?_
      rintro e w6 ⟨b6_0, d6_0, rfl, ho6_0, hb6⟩
      have z6 := hb6.size
      have q6 : Below w.heap.size w w6 := q5.trans (hb6.mono q5.size)
      have R0_6 := Lib.hid (R0_5.out.below hb6 (by omega))
      clear R0_5
      have X0_6 := Lib.hid (X0_5.out.below hb6 (by omega))
      clear X0_5
      have X3_6 := Lib.hid (X3.out.below hb6 (by omega))
      clear X3
      have G0 := Lib.hid (Owned.of ho6_0)
      clear ho6_0
      go_wp2_with fail
      refine (eqIntS_same _ _ _ _ r0 _ (by omega) G0.out.cells R0_6.out.cells).mono ?_
      rintro e w7 ⟨rfl, hb7⟩
      have z7 := hb7.size
      have q7 : Below w.heap.size w w7 := q6.trans (hb7.mono q6.size)
      have R0_7 := Lib.hid (R0_6.out.below hb7 (by omega))
      clear R0_6
      have X0_7 := Lib.hid (X0_6.out.below hb7 (by omega))
      clear X0_6
      have X3_7 := Lib.hid (X3_6.out.below hb7 (by omega))
      clear X3_6
      have G0_7 := Lib.hid (G0.out.below hb7 (by omega))
      clear G0
      go_wp2_with fail
      refine (toWangS_any _ _ xs0 _ hn0 (H0.out.below q7)).mono ?_
      rintro e w8 ⟨a8_, c8_, rfl, ho8, hb8⟩
      have z8 := hb8.size
      have q8 : Below w.heap.size w w8 := q7.trans (hb8.mono q7.size)
      have R0_8 := Lib.hid (R0_7.out.below hb8 (by omega))
      clear R0_7
      have X0_8 := Lib.hid (X0_7.out.below hb8 (by omega))
      clear X0_7
      have X3_8 := Lib.hid (X3_7.out.below hb8 (by omega))
      clear X3_7
      have G0_8 := Lib.hid (G0_7.out.below hb8 (by omega))
      clear G0_7
      have Y0 := Lib.hid (Owned.of ho8)
      clear ho8
      go_wp2_with fail
      refine (eqWangS_same _ _ _ _ xs0 _ hn0 X0_8.out.cells Y0.out.cells).mono ?_
      rintro e w9 ⟨rfl, hb9⟩
      have z9 := hb9.size
      have q9 : Below w.heap.size w w9 := q8.trans (hb9.mono q8.size)
      have R0_9 := Lib.hid (R0_8.out.below hb9 (by omega))
      clear R0_8
      have X0_9 := Lib.hid (X0_8.out.below hb9 (by omega))
      clear X0_8
      have X3_9 := Lib.hid (X3_8.out.below hb9 (by omega))
      clear X3_8
      have G0_9 := Lib.hid (G0_8.out.below hb9 (by omega))
      clear G0_8
      have Y0_9 := Lib.hid (Y0.out.below hb9 (by omega))
      clear Y0
      clear Y0_9
      go_wp2_with fail
      refine (toIntS_any _ _ xs3 _ hn3 (H3.out.below q9)).mono ?_
      rintro e w10 ⟨a10_, c10_, rfl, ho10, hb10⟩
      have z10 := hb10.size
      have q10 : Below w.heap.size w w10 := q9.trans (hb10.mono q9.size)
      have R0_10 := Lib.hid (R0_9.out.below hb10 (by omega))
      clear R0_9
      have X0_10 := Lib.hid (X0_9.out.below hb10 (by omega))
      clear X0_9
      have X3_10 := Lib.hid (X3_9.out.below hb10 (by omega))
      clear X3_9
      have G0_10 := Lib.hid (G0_9.out.below hb10 (by omega))
      clear G0_9
      have Y3 := Lib.hid (Owned.of ho10)
      clear ho10
      go_wp2_with fail
      refine (eqIntS_same _ _ _ _ xs3 _ hn3 X3_10.out.cells Y3.out.cells).mono ?_
      rintro e w11 ⟨rfl, hb11⟩
      have z11 := hb11.size
      have q11 : Below w.heap.size w w11 := q10.trans (hb11.mono q10.size)
      have R0_11 := Lib.hid (R0_10.out.below hb11 (by omega))
      clear R0_10
      have X0_11 := Lib.hid (X0_10.out.below hb11 (by omega))
      clear X0_10
      have X3_11 := Lib.hid (X3_10.out.below hb11 (by omega))
      clear X3_10
      have G0_11 := Lib.hid (G0_10.out.below hb11 (by omega))
      clear G0_10
      have Y3_11 := Lib.hid (Y3.out.below hb11 (by omega))
      clear Y3
      clear Y3_11
      go_wp2_with fail
      refine (markWangS_all (k := 1) _ _ _ _ xs0 _ hn0 (by omega) X0_11.out).mono ?_
      rintro e w12 ⟨rfl, _, ht12⟩
      have z12 := ht12.size
      have zq12 := q11.size
      have q12 : Below w.heap.size w w12 := q11.trans (ht12.below (by omega) (by omega))
      have R0_12 := Lib.hid (R0_11.out.touched ht12 (by omega))
      clear R0_11
      have X3_12 := Lib.hid (X3_11.out.touched ht12 (by omega))
      clear X3_11
      have G0_12 := Lib.hid (G0_11.out.touched ht12 (by omega))
      clear G0_11
      go_wp2_with fail
      refine (markIntS_far (k := 1 + xs0.length * 4) _ _ _ _ xs3 _ hn3 (by omega) X3_12.out).mono ?_
      rintro e w13 ⟨rfl, _, ht13⟩
      have z13 := ht13.size
      have zq13 := q12.size
      have q13 : Below w.heap.size w w13 := q12.trans (ht13.below (by omega) (by omega))
      have R0_13 := Lib.hid (R0_12.out.touched ht13 (by omega))
      clear R0_12
      have G0_13 := Lib.hid (G0_12.out.touched ht13 (by omega))
      clear G0_12
      go_wp2_with fail
      refine (eqIntS_same _ _ _ _ r0 _ (by omega) G0_13.out.cells R0_13.out.cells).mono ?_
      rintro e w14 ⟨rfl, hb14⟩
      have z14 := hb14.size
      have q14 : Below w.heap.size w w14 := q13.trans (hb14.mono q13.size)
      have R0_14 := Lib.hid (R0_13.out.below hb14 (by omega))
      clear R0_13
      have G0_14 := Lib.hid (G0_13.out.below hb14 (by omega))
      clear G0_13
      go_wp2_with fail
      refine (markIntS_all (k := 1) _ _ _ _ r0 _ (by omega) (by omega) G0_14.out).mono ?_
      rintro e w15 ⟨rfl, g15, ht15⟩
      have z15 := ht15.size
      have zq15 := q14.size
      have q15 : Below w.heap.size w w15 := q14.trans (ht15.below (by omega) (by omega))
      have R0_15 := Lib.hid (R0_14.out.touched ht15 (by omega))
      clear R0_14
      have M0 := Lib.hid g15
      clear g15
      go_wp2_with fail
      refine (heldIntS_b (k := 1) _ _ r0.length _ (by omega) (by omega) M0.out.cells).mono ?_
      rintro e w16 ⟨rfl, hb16⟩
      have z16 := hb16.size
      have q16 : Below w.heap.size w w16 := q15.trans (hb16.mono q15.size)
      have R0_16 := Lib.hid (R0_15.out.below hb16 (by omega))
      clear R0_15
      have M0_16 := Lib.hid (M0.out.below hb16 (by omega))
      clear M0
      go_wp2_with fail
      refine (toWangS_any _ _ xs0 _ hn0 (H0.out.below q16)).mono ?_
      rintro e w17 ⟨a17_, c17_, rfl, ho17, hb17⟩
      have z17 := hb17.size
      have q17 : Below w.heap.size w w17 := q16.trans (hb17.mono q16.size)
      have R0_17 := Lib.hid (R0_16.out.below hb17 (by omega))
      clear R0_16
      have M0_17 := Lib.hid (M0_16.out.below hb17 (by omega))
      clear M0_16
      have T0 := Lib.hid (Owned.of ho17)
      clear ho17
      go_wp2_with fail
      refine (toIntS_any _ _ xs3 _ hn3 (H3.out.below q17)).mono ?_
      rintro e w18 ⟨a18_, c18_, rfl, ho18, hb18⟩
      have z18 := hb18.size
      have q18 : Below w.heap.size w w18 := q17.trans (hb18.mono q17.size)
      have R0_18 := Lib.hid (R0_17.out.below hb18 (by omega))
      clear R0_17
      have M0_18 := Lib.hid (M0_17.out.below hb18 (by omega))
      clear M0_17
      have T0_18 := Lib.hid (T0.out.below hb18 (by omega))
      clear T0
      have T3 := Lib.hid (Owned.of ho18)
      clear ho18
      go_wp2_with fail
      refine (HI.out _ _ _ _ _ T0_18.out.le_cap T3.out.le_cap T0_18.out.cells T3.out.cells).mono ?_
      rintro e w19 ⟨b19_0, d19_0, rfl, ho19_0, hb19⟩
      have z19 := hb19.size
      have q19 : Below w.heap.size w w19 := q18.trans (hb19.mono q18.size)
      have R0_19 := Lib.hid (R0_18.out.below hb19 (by omega))
      clear R0_18
      have M0_19 := Lib.hid (M0_18.out.below hb19 (by omega))
      clear M0_18
      have T0_19 := Lib.hid (T0_18.out.below hb19 (by omega))
      clear T0_18
      have T3_19 := Lib.hid (T3.out.below hb19 (by omega))
      clear T3
      have N0 := Lib.hid (Owned.of ho19_0)
      clear ho19_0
      clear T0_19
      clear T3_19
      go_wp2_with fail
      refine (eqIntS_same _ _ _ _ r0 _ (by omega) N0.out.cells R0_19.out.cells).mono ?_
      rintro e w20 ⟨rfl, hb20⟩
      have z20 := hb20.size
      have q20 : Below w.heap.size w w20 := q19.trans (hb20.mono q19.size)
      have R0_20 := Lib.hid (R0_19.out.below hb20 (by omega))
      clear R0_19
      have M0_20 := Lib.hid (M0_19.out.below hb20 (by omega))
      clear M0_19
      have N0_20 := Lib.hid (N0.out.below hb20 (by omega))
      clear N0
      go_wp2_with fail
      refine (heldIntS_b (k := 1) _ _ r0.length _ (by omega) (by omega) M0_20.out.cells).mono ?_
      rintro e w21 ⟨rfl, hb21⟩
      have z21 := hb21.size
      have q21 : Below w.heap.size w w21 := q20.trans (hb21.mono q20.size)
      have R0_21 := Lib.hid (R0_20.out.below hb21 (by omega))
      clear R0_20
      have M0_21 := Lib.hid (M0_20.out.below hb21 (by omega))
      clear M0_20
      have N0_21 := Lib.hid (N0_20.out.below hb21 (by omega))
      clear N0_20
      go_wp2_with fail
      go_ret
      exact ⟨rfl, q21⟩
    · skip
      go_enter Try.func11, Try.ntmps11
      go_wp2_with fail
      refine (szWangS_any _ _ _ _ _ hm0 (by omega) (by omega)).mono ?_
      rw [if_pos (by omega)]
      rintro e w' ⟨rfl, rfl⟩
      go_wp2_with fail
      go_ret
      exact ⟨rfl, Below.refl _ _⟩
  · skip
    go_enter Try.func11, Try.ntmps11
    go_wp2_with fail
    go_ret
    exact ⟨rfl, Below.refl _ _⟩

set_option maxRecDepth 100000 in
theorem lifted (os : Os) (started : os.Started) (H : Type) (enc : TypeId × Value → H) :
    ReturnsInHanded {} Try.checked os 11 .any (Rows.fnExactExpandFillSpec.pre6 enc Try.prog Try.f11 Rows.fnExactExpandFillRow.domain false) (Rows.fnExactExpandFillSpec.post enc Try.prog Try.f11 false true false false) := by
  refine returnsInHanded_of_change (C := Try.checked) Try.own started (by kernel_rfl) Try.func11
    (ChangeSpec.witness6 (enc := enc) (C := Try.checked) false ⟨#[], #[.slice none 0 0, .int .i64 0, .int .i64 0, .slice none 0 0, .int .i64 0], []⟩ 8 (by kernel_rfl) (by kernel_rfl) (by kernel_rfl) (by kernel_rfl)) ?_
  intro W base args ds gs before hval0 hW hcnd _
  have hval : ∀ (j : Nat) t v, Try.f11.params[j]? = some t → args[j]? = some v → Value.okWide Try.prog W .any base t v := hval0
  have hW' := hW
  obtain ⟨p, q, hA0, hV, rfl, hfz, hnd⟩ := hW
  have hA : DataW.TrodAll enc Try.prog W 0 (fun _ => true) true Try.f11.params.toList args.toList ds p := hA0
  rw [Try.params11] at hA hval
  obtain ⟨v0, vs0, d0, ds0, p0, q0, hargs, rfl, rfl, h0, r0⟩ := trodAll_cons hA
  obtain ⟨v1, vs1, d1, ds1, p1, q1, rfl, rfl, rfl, h1, r1⟩ := trodAll_cons r0
  obtain ⟨v2, vs2, d2, ds2, p2, q2, rfl, rfl, rfl, h2, r2⟩ := trodAll_cons r1
  obtain ⟨v3, vs3, d3, ds3, p3, q3, rfl, rfl, rfl, h3, r3⟩ := trodAll_cons r2
  obtain ⟨v4, vs4, d4, ds4, p4, q4, rfl, rfl, rfl, h4, r4⟩ := trodAll_cons r3
  obtain ⟨rfl, rfl, rfl⟩ := trodAll_nil r4
  obtain rfl : args = #[v0, v1, v2, v3, v4] := by cases args; simp_all
  obtain ⟨rfl, rfl⟩ := trodVars_none hV
  obtain ⟨ad0, cap0, xs0, rfl, hm0, hc0, hw0⟩ := openWangs (hval 0 22 v0 rfl rfl) h0
  obtain ⟨a1, rfl, rfl, rfl, w1⟩ := open_int Try.underlying3 (hval 1 3 v1 rfl rfl) h1
  obtain ⟨a2, rfl, rfl, rfl, w2⟩ := open_int Try.underlying3 (hval 2 3 v2 rfl rfl) h2
  obtain ⟨ad3, cap3, xs3, rfl, hm3, hc3, hw3⟩ := openInts (hval 3 32 v3 rfl rfl) h3
  obtain ⟨a4, rfl, rfl, rfl, w4⟩ := open_int Try.underlying3 (hval 4 3 v4 rfl rfl) h4
  clear hA0 hval0
  refine (walk W ad0 cap0 xs0 hm0 hc0 hw0 a1 w1 a2 w2 ad3 cap3 xs3 hm3 hc3 hw3 a4 w4).mono fun e W' ⟨he, hb⟩ => ?_
  subst he
  exact ⟨_, rfl, law_post rfl hW' hb (by rw [Try.params11]; exact readable_all (by kernel_rfl)) (by kernel_rfl) (by kernel_rfl) rfl⟩

theorem proved : Rows.FnExactExpandFillSaid :=
  OpenClaim.holds_of_wide 11 Try.f11 rfl rfl rfl rfl rfl rfl rfl ⟨rfl, rfl, rfl, rfl, rfl⟩ rfl rfl rfl rfl rfl (by kernel_rfl) Try.func11 (by kernel_rfl)
    (of_decide_eq_true (by kernel_rfl)) (by unfold Func.isWrapper; first | (rw [if_pos (by decide +kernel)]; kernel_rfl) | (rw [if_neg (by decide +kernel)]; exact ⟨rfl, rfl⟩))
    (fun os started H enc _ => lifted os started H enc)
end Go.Proofs.Ytbmapeeejfdpbaa.lawExpand
