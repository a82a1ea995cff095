/- LawPeriod: the program's FindPeriod returns what the reference's returns, for every list of tiles, in memory of its own; no condition. -/
import Derived.Test.YtjklclegkjnegaaFrameWang
import Derived.Test.YtjklclegkjnegaaMarkWang0
import Derived.Test.YtjklclegkjnegaaAllMarkI
import Derived.Test.YtjklclegkjnegaaFindP3
namespace Go.Proofs.Ytjklclegkjnegaa.lawPeriod
open Go.ChangeShapes Go.WideShapes Go.ChangeAt Go.RowKit

theorem both (ts : List Tile) (_hw : ∀ x ∈ ts, (Lit.int .i64 x.t).wf = true ∧ (Lit.int .i64 x.r).wf = true ∧ (Lit.int .i64 x.b).wf = true ∧ (Lit.int .i64 x.l).wf = true) (hn : ts.length ≤ 1048576) :
    ∃ (r0 : List Int) (r1 r2 : Int) (r3 : Bool), r0.length ≤ 9 ∧
      (∀ w ad cap, ts.length ≤ cap → CellsAt w ad (wangs ts) → Calls Try.prog 7 #[.slice ad ts.length cap] w fun e w' => ∃ ad' cap', e = .returned (.tuple #[.slice ad' r0.length cap', .int .i64 r1, .int .i64 r2, .bool r3]) ∧ w'.ownsRow w.heap.size 3 1 (.slice ad' r0.length cap') r0.length (ints r0) ∧ Below w.heap.size w w') ∧
      ∀ w ad cap, ts.length ≤ cap → CellsAt w ad (wangs ts) → Calls Try.prog 9 #[.slice ad ts.length cap] w fun e w' => ∃ ad' cap', e = .returned (.tuple #[.slice ad' r0.length cap', .int .i64 r1, .int .i64 r2, .bool r3]) ∧ w'.ownsRow w.heap.size 3 1 (.slice ad' r0.length cap') r0.length (ints r0) ∧ Below w.heap.size w w' := by
  obtain ⟨x, a, h, b, hP⟩ := PerRes.total ts
  refine ⟨nats x, a, h, b, by rw [nats_length]; exact hP.length, fun w ad cap _ h1 => ?_, fun w ad cap _ h1 => ?_⟩
  · refine (specPer ad cap ts w hn h1).mono ?_
    rintro e w' ⟨a1, c1, y, a', h', b', rfl, hQ, ho, hb⟩
    obtain ⟨rfl, rfl, rfl, rfl⟩ := hQ.same hP
    rw [nats_length]
    exact ⟨a1, c1, rfl, ho, hb⟩
  · refine (implPer ad cap ts w hn h1).mono ?_
    rintro e w' ⟨a1, c1, y, a', h', b', rfl, hQ, ho, hb⟩
    obtain ⟨rfl, rfl, rfl, rfl⟩ := hQ.same hP
    rw [nats_length]
    exact ⟨a1, c1, rfl, ho, hb⟩

set_option maxRecDepth 100000 in
set_option maxHeartbeats 4000000 in
theorem walk (w : World) (ad0 : Option Addr) (cap0 : Nat) (xs0 : List Tile) (hm0 : xs0.length ≤ maxLen) (hc0 : CellsAt w ad0 (wangs xs0)) (hw0 : ∀ x ∈ xs0, (Lit.int .i64 x.t).wf = true ∧ (Lit.int .i64 x.r).wf = true ∧ (Lit.int .i64 x.b).wf = true ∧ (Lit.int .i64 x.l).wf = true) :
    Calls Try.prog 3 #[.slice ad0 xs0.length cap0] w fun e w' => e = .returned (.bool true) ∧ Below w.heap.size w w' := by
  unfold maxLen at hm0
  have H0 := Lib.hid hc0
  clear hc0
  by_cases hn0_ : xs0.length ≤ 1048576
  · skip
    have hn0 : xs0.length ≤ 1048576 := by omega
    obtain ⟨r0, r1, r2, r3, HL, hs, hi⟩ := both xs0 hw0 hn0
    have HS := Lib.hid hs
    have HI := Lib.hid hi
    clear hs hi hw0
    have nn1 : (r1 != r1) = false := by simp
    have nn2 : (r2 != r2) = false := by simp
    have nn3 : (r3 != r3) = false := by simp
    have q0 : Below w.heap.size w w := Below.refl _ _
    go_enter Try.func3, Try.ntmps3
    go_wp2_with fail
    refine (szWangS_any _ _ _ _ _ hm0 (by omega) (by omega)).mono ?_
    rw [if_neg (by omega)]
    rintro e w' ⟨rfl, rfl⟩
    go_wp2_with fail
    refine (toWangS_any _ _ xs0 _ hn0 (H0.out.below q0)).mono ?_
    rintro e w1 ⟨a1_, c1_, rfl, ho1, hb1⟩
    have z1 := hb1.size
    have q1 : Below w.heap.size w w1 := q0.trans (hb1.mono q0.size)
    have S0 := Lib.hid (Owned.of ho1)
    clear ho1
    go_wp2_with fail
    refine (HS.out _ _ _ S0.out.le_cap S0.out.cells).mono ?_
    rintro e w2 ⟨b2_0, d2_0, rfl, ho2_0, hb2⟩
    have z2 := hb2.size
    have q2 : Below w.heap.size w w2 := q1.trans (hb2.mono q1.size)
    have S0_2 := Lib.hid (S0.out.below hb2 (by omega))
    clear S0
    have R0 := Lib.hid (Owned.of ho2_0)
    clear ho2_0
    clear S0_2
    go_wp2_with fail
    refine (toWangS_any _ _ xs0 _ hn0 (H0.out.below q2)).mono ?_
    rintro e w3 ⟨a3_, c3_, rfl, ho3, hb3⟩
    have z3 := hb3.size
    have q3 : Below w.heap.size w w3 := q2.trans (hb3.mono q2.size)
    have R0_3 := Lib.hid (R0.out.below hb3 (by omega))
    clear R0
    have X0 := Lib.hid (Owned.of ho3)
    clear ho3
    go_wp2_with fail
    refine (HI.out _ _ _ X0.out.le_cap X0.out.cells).mono ?_
    rintro e w4 ⟨b4_0, d4_0, rfl, ho4_0, hb4⟩
    have z4 := hb4.size
    have q4 : Below w.heap.size w w4 := q3.trans (hb4.mono q3.size)
    have R0_4 := Lib.hid (R0_3.out.below hb4 (by omega))
    clear R0_3
    have X0_4 := Lib.hid (X0.out.below hb4 (by omega))
    clear X0
    have G0 := Lib.hid (Owned.of ho4_0)
    clear ho4_0
    go_wp2_with fail
    refine (eqIntS_same _ _ _ _ r0 _ (by omega) G0.out.cells R0_4.out.cells).mono ?_
    rintro e w5 ⟨rfl, hb5⟩
    have z5 := hb5.size
    have q5 : Below w.heap.size w w5 := q4.trans (hb5.mono q4.size)
    have R0_5 := Lib.hid (R0_4.out.below hb5 (by omega))
    clear R0_4
    have X0_5 := Lib.hid (X0_4.out.below hb5 (by omega))
    clear X0_4
    have G0_5 := Lib.hid (G0.out.below hb5 (by omega))
    clear G0
    go_wp2_with fail
    refine (toWangS_any _ _ xs0 _ hn0 (H0.out.below q5)).mono ?_
    rintro e w6 ⟨a6_, c6_, rfl, ho6, hb6⟩
    have z6 := hb6.size
    have q6 : Below w.heap.size w w6 := q5.trans (hb6.mono q5.size)
    have R0_6 := Lib.hid (R0_5.out.below hb6 (by omega))
    clear R0_5
    have X0_6 := Lib.hid (X0_5.out.below hb6 (by omega))
    clear X0_5
    have G0_6 := Lib.hid (G0_5.out.below hb6 (by omega))
    clear G0_5
    have Y0 := Lib.hid (Owned.of ho6)
    clear ho6
    go_wp2_with fail
    refine (eqWangS_same _ _ _ _ xs0 _ hn0 X0_6.out.cells Y0.out.cells).mono ?_
    rintro e w7 ⟨rfl, hb7⟩
    have z7 := hb7.size
    have q7 : Below w.heap.size w w7 := q6.trans (hb7.mono q6.size)
    have R0_7 := Lib.hid (R0_6.out.below hb7 (by omega))
    clear R0_6
    have X0_7 := Lib.hid (X0_6.out.below hb7 (by omega))
    clear X0_6
    have G0_7 := Lib.hid (G0_6.out.below hb7 (by omega))
    clear G0_6
    have Y0_7 := Lib.hid (Y0.out.below hb7 (by omega))
    clear Y0
    clear Y0_7
    go_wp2_with fail
    refine (markWangS_all (k := 1) _ _ _ _ xs0 _ hn0 (by omega) X0_7.out).mono ?_
    rintro e w8 ⟨rfl, _, ht8⟩
    have z8 := ht8.size
    have zq8 := q7.size
    have q8 : Below w.heap.size w w8 := q7.trans (ht8.below (by omega) (by omega))
    have R0_8 := Lib.hid (R0_7.out.touched ht8 (by omega))
    clear R0_7
    have G0_8 := Lib.hid (G0_7.out.touched ht8 (by omega))
    clear G0_7
    go_wp2_with fail
    refine (eqIntS_same _ _ _ _ r0 _ (by omega) G0_8.out.cells R0_8.out.cells).mono ?_
    rintro e w9 ⟨rfl, hb9⟩
    have z9 := hb9.size
    have q9 : Below w.heap.size w w9 := q8.trans (hb9.mono q8.size)
    have R0_9 := Lib.hid (R0_8.out.below hb9 (by omega))
    clear R0_8
    have G0_9 := Lib.hid (G0_8.out.below hb9 (by omega))
    clear G0_8
    go_wp2_with fail
    refine (markIntS_all (k := 1) _ _ _ _ r0 _ (by omega) (by omega) G0_9.out).mono ?_
    rintro e w10 ⟨rfl, g10, ht10⟩
    have z10 := ht10.size
    have zq10 := q9.size
    have q10 : Below w.heap.size w w10 := q9.trans (ht10.below (by omega) (by omega))
    have R0_10 := Lib.hid (R0_9.out.touched ht10 (by omega))
    clear R0_9
    have M0 := Lib.hid g10
    clear g10
    go_wp2_with fail
    refine (heldIntS_b (k := 1) _ _ r0.length _ (by omega) (by omega) M0.out.cells).mono ?_
    rintro e w11 ⟨rfl, hb11⟩
    have z11 := hb11.size
    have q11 : Below w.heap.size w w11 := q10.trans (hb11.mono q10.size)
    have R0_11 := Lib.hid (R0_10.out.below hb11 (by omega))
    clear R0_10
    have M0_11 := Lib.hid (M0.out.below hb11 (by omega))
    clear M0
    go_wp2_with fail
    refine (toWangS_any _ _ xs0 _ hn0 (H0.out.below q11)).mono ?_
    rintro e w12 ⟨a12_, c12_, rfl, ho12, hb12⟩
    have z12 := hb12.size
    have q12 : Below w.heap.size w w12 := q11.trans (hb12.mono q11.size)
    have R0_12 := Lib.hid (R0_11.out.below hb12 (by omega))
    clear R0_11
    have M0_12 := Lib.hid (M0_11.out.below hb12 (by omega))
    clear M0_11
    have T0 := Lib.hid (Owned.of ho12)
    clear ho12
    go_wp2_with fail
    refine (HI.out _ _ _ T0.out.le_cap T0.out.cells).mono ?_
    rintro e w13 ⟨b13_0, d13_0, rfl, ho13_0, hb13⟩
    have z13 := hb13.size
    have q13 : Below w.heap.size w w13 := q12.trans (hb13.mono q12.size)
    have R0_13 := Lib.hid (R0_12.out.below hb13 (by omega))
    clear R0_12
    have M0_13 := Lib.hid (M0_12.out.below hb13 (by omega))
    clear M0_12
    have T0_13 := Lib.hid (T0.out.below hb13 (by omega))
    clear T0
    have N0 := Lib.hid (Owned.of ho13_0)
    clear ho13_0
    clear T0_13
    go_wp2_with fail
    refine (eqIntS_same _ _ _ _ r0 _ (by omega) N0.out.cells R0_13.out.cells).mono ?_
    rintro e w14 ⟨rfl, hb14⟩
    have z14 := hb14.size
    have q14 : Below w.heap.size w w14 := q13.trans (hb14.mono q13.size)
    have R0_14 := Lib.hid (R0_13.out.below hb14 (by omega))
    clear R0_13
    have M0_14 := Lib.hid (M0_13.out.below hb14 (by omega))
    clear M0_13
    have N0_14 := Lib.hid (N0.out.below hb14 (by omega))
    clear N0
    go_wp2_with fail
    refine (heldIntS_b (k := 1) _ _ r0.length _ (by omega) (by omega) M0_14.out.cells).mono ?_
    rintro e w15 ⟨rfl, hb15⟩
    have z15 := hb15.size
    have q15 : Below w.heap.size w w15 := q14.trans (hb15.mono q14.size)
    have R0_15 := Lib.hid (R0_14.out.below hb15 (by omega))
    clear R0_14
    have M0_15 := Lib.hid (M0_14.out.below hb15 (by omega))
    clear M0_14
    have N0_15 := Lib.hid (N0_14.out.below hb15 (by omega))
    clear N0_14
    go_wp2_with fail
    go_ret
    exact ⟨rfl, q15⟩
  · skip
    go_enter Try.func3, Try.ntmps3
    go_wp2_with fail
    refine (szWangS_any _ _ _ _ _ hm0 (by omega) (by omega)).mono ?_
    rw [if_pos (by omega)]
    rintro e w' ⟨rfl, rfl⟩
    go_wp2_with fail
    go_ret
    exact ⟨rfl, Below.refl _ _⟩

set_option maxRecDepth 100000 in
theorem lifted (os : Os) (started : os.Started) (H : Type) (enc : TypeId × Value → H) :
    ReturnsInHanded {} Try.checked os 3 .any (Rows.fnExactFindPeriodSpec.pre6 enc Try.prog Try.f3 Rows.fnExactFindPeriodRow.domain false) (Rows.fnExactFindPeriodSpec.post enc Try.prog Try.f3 false true false false) := by
  refine returnsInHanded_of_change (C := Try.checked) Try.own started (by kernel_rfl) Try.func3
    (ChangeSpec.witness6 (enc := enc) (C := Try.checked) false ⟨#[], #[.slice none 0 0], []⟩ 8 (by kernel_rfl) (by kernel_rfl) (by kernel_rfl) (by kernel_rfl)) ?_
  intro W base args ds gs before hval0 hW hcnd _
  have hval : ∀ (j : Nat) t v, Try.f3.params[j]? = some t → args[j]? = some v → Value.okWide Try.prog W .any base t v := hval0
  have hW' := hW
  obtain ⟨p, q, hA0, hV, rfl, hfz, hnd⟩ := hW
  have hA : DataW.TrodAll enc Try.prog W 0 (fun _ => true) true Try.f3.params.toList args.toList ds p := hA0
  rw [Try.params3] at hA hval
  obtain ⟨v0, vs0, d0, ds0, p0, q0, hargs, rfl, rfl, h0, r0⟩ := trodAll_cons hA
  obtain ⟨rfl, rfl, rfl⟩ := trodAll_nil r0
  obtain rfl : args = #[v0] := by cases args; simp_all
  obtain ⟨rfl, rfl⟩ := trodVars_none hV
  obtain ⟨ad0, cap0, xs0, rfl, hm0, hc0, hw0⟩ := openWangs (hval 0 22 v0 rfl rfl) h0
  clear hA0 hval0
  refine (walk W ad0 cap0 xs0 hm0 hc0 hw0).mono fun e W' ⟨he, hb⟩ => ?_
  subst he
  exact ⟨_, rfl, law_post rfl hW' hb (by rw [Try.params3]; exact readable_all (by kernel_rfl)) (by kernel_rfl) (by kernel_rfl) rfl⟩

theorem proved : Rows.FnExactFindPeriodSaid :=
  OpenClaim.holds_of_wide 3 Try.f3 rfl rfl rfl rfl rfl rfl rfl ⟨rfl, rfl, rfl, rfl, rfl⟩ rfl rfl rfl rfl rfl (by kernel_rfl) Try.func3 (by kernel_rfl)
    (of_decide_eq_true (by kernel_rfl)) (by unfold Func.isWrapper; first | (rw [if_pos (by decide +kernel)]; kernel_rfl) | (rw [if_neg (by decide +kernel)]; exact ⟨rfl, rfl⟩))
    (fun os started H enc _ => lifted os started H enc)
end Go.Proofs.Ytjklclegkjnegaa.lawPeriod
