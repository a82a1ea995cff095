/- LawPeriodic: the program's IsPeriodicFill returns what the reference's returns, for every list of tiles, all sides and every list of numbers; no condition. -/
import Derived.Test.YtbmapeeejfdpbaaFrameWang
import Derived.Test.YtbmapeeejfdpbaaMarkWang
import Derived.Test.YtbmapeeejfdpbaaMarkInts
import Derived.Test.YtbmapeeejfdpbaaPeriod
namespace Go.Proofs.Ytbmapeeejfdpbaa.lawPeriodic
open Go.ChangeShapes Go.WideShapes Go.ChangeAt Go.RowKit

theorem both (ts : List Tile) (_hw : ∀ x ∈ ts, (Lit.int .i64 x.t).wf = true ∧ (Lit.int .i64 x.r).wf = true ∧ (Lit.int .i64 x.b).wf = true ∧ (Lit.int .i64 x.l).wf = true) (hn : ts.length ≤ 1048576)
    (a : Int) (_wa : (Lit.int .i64 a).wf = true) (b : Int) (_wb : (Lit.int .i64 b).wf = true) (xs : List Int) (_hx : ∀ x ∈ xs, (Lit.int .i64 x).wf = true) (hm : xs.length ≤ 1048576) :
    ∃ (r0 : Bool), True ∧
      (∀ w ad cap af cf, ts.length ≤ cap → xs.length ≤ cf → CellsAt w ad (wangs ts) → CellsAt w af (ints xs) → Calls Try.prog 31 #[.slice ad ts.length cap, .int .i64 a, .int .i64 b, .slice af xs.length cf] w fun e w' => e = .returned (.bool r0) ∧ Below w.heap.size w w') ∧
      ∀ w ad cap af cf, ts.length ≤ cap → xs.length ≤ cf → CellsAt w ad (wangs ts) → CellsAt w af (ints xs) → Calls Try.prog 32 #[.slice ad ts.length cap, .int .i64 a, .int .i64 b, .slice af xs.length cf] w fun e w' => e = .returned (.bool r0) ∧ Below w.heap.size w w' :=
  ⟨decide (IsPer ts a b xs), trivial, fun w ad cap af cf _ hc h1 h2 => specPeriodic ad af cap cf ts a b xs w hn hm hc h1 h2, fun w ad cap af cf _ hc h1 h2 => implPeriodic ad af cap cf ts a b xs w hn hm hc h1 h2⟩

set_option maxRecDepth 100000 in
set_option maxHeartbeats 4000000 in
theorem walk (w : World) (ad0 : Option Addr) (cap0 : Nat) (xs0 : List Tile) (hm0 : xs0.length ≤ maxLen) (hc0 : CellsAt w ad0 (wangs xs0)) (hw0 : ∀ x ∈ xs0, (Lit.int .i64 x.t).wf = true ∧ (Lit.int .i64 x.r).wf = true ∧ (Lit.int .i64 x.b).wf = true ∧ (Lit.int .i64 x.l).wf = true) (a1 : Int) (w1_ : (Lit.int .i64 a1).wf = true) (a2 : Int) (w2_ : (Lit.int .i64 a2).wf = true) (ad3 : Option Addr) (cap3 : Nat) (xs3 : List Int) (hm3 : xs3.length ≤ maxLen) (hc3 : CellsAt w ad3 (ints xs3)) (hw3 : ∀ x ∈ xs3, (Lit.int .i64 x).wf = true) :
    Calls Try.prog 8 #[.slice ad0 xs0.length cap0, .int .i64 a1, .int .i64 a2, .slice ad3 xs3.length cap3] w fun e w' => e = .returned (.bool true) ∧ Below w.heap.size w w' := by
  unfold maxLen at hm0
  unfold maxLen at hm3
  have H0 := Lib.hid hc0
  clear hc0
  have H3 := Lib.hid hc3
  clear hc3
  by_cases hn3 : xs3.length ≤ 1048576
  · skip
    by_cases hn0_ : xs0.length ≤ 1048576
    · skip
      have hn0 : xs0.length ≤ 1048576 := by omega
      obtain ⟨r0, HL, hs, hi⟩ := both xs0 hw0 hn0 a1 w1_ a2 w2_ xs3 hw3 hn3
      have HS := Lib.hid hs
      have HI := Lib.hid hi
      clear hs hi hw0 hw3 w1_ w2_
      have nn0 : (r0 != r0) = false := by simp
      have q0 : Below w.heap.size w w := Below.refl _ _
      go_enter Try.func8, Try.ntmps8
      go_wp2_with fail
      refine (szWangS_any _ _ _ _ _ hm0 (by omega) (by omega)).mono ?_
      rw [if_neg (by omega)]
      rintro e w' ⟨rfl, rfl⟩
      go_wp2_with fail
      refine (toWangS_any _ _ xs0 _ hn0 (H0.out.below q0)).mono ?_
      rintro e w1 ⟨a1_, c1_, rfl, ho1, hb1⟩
      have z1 := hb1.size
      have q1 : Below w.heap.size w w1 := q0.trans (hb1.mono q0.size)
      have S0 := Lib.hid (Owned.of ho1)
      clear ho1
      go_wp2_with fail
      refine (toIntS_any _ _ xs3 _ hn3 (H3.out.below q1)).mono ?_
      rintro e w2 ⟨a2_, c2_, rfl, ho2, hb2⟩
      have z2 := hb2.size
      have q2 : Below w.heap.size w w2 := q1.trans (hb2.mono q1.size)
      have S0_2 := Lib.hid (S0.out.below hb2 (by omega))
      clear S0
      have S3 := Lib.hid (Owned.of ho2)
      clear ho2
      go_wp2_with fail
      refine (HS.out _ _ _ _ _ S0_2.out.le_cap S3.out.le_cap S0_2.out.cells S3.out.cells).mono ?_
      rintro e w3 ⟨rfl, hb3⟩
      have z3 := hb3.size
      have q3 : Below w.heap.size w w3 := q2.trans (hb3.mono q2.size)
      have S0_3 := Lib.hid (S0_2.out.below hb3 (by omega))
      clear S0_2
      have S3_3 := Lib.hid (S3.out.below hb3 (by omega))
      clear S3
      clear S0_3
      clear S3_3
      go_wp2_with fail
      refine (toWangS_any _ _ xs0 _ hn0 (H0.out.below q3)).mono ?_
      rintro e w4 ⟨a4_, c4_, rfl, ho4, hb4⟩
      have z4 := hb4.size
      have q4 : Below w.heap.size w w4 := q3.trans (hb4.mono q3.size)
      have X0 := Lib.hid (Owned.of ho4)
      clear ho4
      go_wp2_with fail
      refine (toIntS_any _ _ xs3 _ hn3 (H3.out.below q4)).mono ?_
      rintro e w5 ⟨a5_, c5_, rfl, ho5, hb5⟩
      have z5 := hb5.size
      have q5 : Below w.heap.size w w5 := q4.trans (hb5.mono q4.size)
      have X0_5 := Lib.hid (X0.out.below hb5 (by omega))
      clear X0
      have X3 := Lib.hid (Owned.of ho5)
      clear ho5
      go_wp2_with fail
      refine (HI.out _ _ _ _ _ X0_5.out.le_cap X3.out.le_cap X0_5.out.cells X3.out.cells).mono ?_
      rintro e w6 ⟨rfl, hb6⟩
      have z6 := hb6.size
      have q6 : Below w.heap.size w w6 := q5.trans (hb6.mono q5.size)
      have X0_6 := Lib.hid (X0_5.out.below hb6 (by omega))
      clear X0_5
      have X3_6 := Lib.hid (X3.out.below hb6 (by omega))
      clear X3
      go_wp2_with fail
      refine (toWangS_any _ _ xs0 _ hn0 (H0.out.below q6)).mono ?_
      rintro e w7 ⟨a7_, c7_, rfl, ho7, hb7⟩
      have z7 := hb7.size
      have q7 : Below w.heap.size w w7 := q6.trans (hb7.mono q6.size)
      have X0_7 := Lib.hid (X0_6.out.below hb7 (by omega))
      clear X0_6
      have X3_7 := Lib.hid (X3_6.out.below hb7 (by omega))
      clear X3_6
      have Y0 := Lib.hid (Owned.of ho7)
      clear ho7
      go_wp2_with fail
      refine (eqWangS_same _ _ _ _ xs0 _ hn0 X0_7.out.cells Y0.out.cells).mono ?_
      rintro e w8 ⟨rfl, hb8⟩
      have z8 := hb8.size
      have q8 : Below w.heap.size w w8 := q7.trans (hb8.mono q7.size)
      have X0_8 := Lib.hid (X0_7.out.below hb8 (by omega))
      clear X0_7
      have X3_8 := Lib.hid (X3_7.out.below hb8 (by omega))
      clear X3_7
      have Y0_8 := Lib.hid (Y0.out.below hb8 (by omega))
      clear Y0
      clear Y0_8
      go_wp2_with fail
      refine (toIntS_any _ _ xs3 _ hn3 (H3.out.below q8)).mono ?_
      rintro e w9 ⟨a9_, c9_, rfl, ho9, hb9⟩
      have z9 := hb9.size
      have q9 : Below w.heap.size w w9 := q8.trans (hb9.mono q8.size)
      have X0_9 := Lib.hid (X0_8.out.below hb9 (by omega))
      clear X0_8
      have X3_9 := Lib.hid (X3_8.out.below hb9 (by omega))
      clear X3_8
      have Y3 := Lib.hid (Owned.of ho9)
      clear ho9
      go_wp2_with fail
      refine (eqIntS_same _ _ _ _ xs3 _ hn3 X3_9.out.cells Y3.out.cells).mono ?_
      rintro e w10 ⟨rfl, hb10⟩
      have z10 := hb10.size
      have q10 : Below w.heap.size w w10 := q9.trans (hb10.mono q9.size)
      have X0_10 := Lib.hid (X0_9.out.below hb10 (by omega))
      clear X0_9
      have X3_10 := Lib.hid (X3_9.out.below hb10 (by omega))
      clear X3_9
      have Y3_10 := Lib.hid (Y3.out.below hb10 (by omega))
      clear Y3
      clear Y3_10
      go_wp2_with fail
      go_ret
      exact ⟨rfl, q10⟩
    · skip
      go_enter Try.func8, Try.ntmps8
      go_wp2_with fail
      refine (szWangS_any _ _ _ _ _ hm0 (by omega) (by omega)).mono ?_
      rw [if_pos (by omega)]
      rintro e w' ⟨rfl, rfl⟩
      go_wp2_with fail
      go_ret
      exact ⟨rfl, Below.refl _ _⟩
  · skip
    go_enter Try.func8, Try.ntmps8
    go_wp2_with fail
    go_ret
    exact ⟨rfl, Below.refl _ _⟩

set_option maxRecDepth 100000 in
theorem lifted (os : Os) (started : os.Started) (H : Type) (enc : TypeId × Value → H) :
    ReturnsInHanded {} Try.checked os 8 .any (Rows.fnExactIsPeriodicFillSpec.pre6 enc Try.prog Try.f8 Rows.fnExactIsPeriodicFillRow.domain false) (Rows.fnExactIsPeriodicFillSpec.post enc Try.prog Try.f8 false true false false) := by
  refine returnsInHanded_of_change (C := Try.checked) Try.own started (by kernel_rfl) Try.func8
    (ChangeSpec.witness6 (enc := enc) (C := Try.checked) false ⟨#[], #[.slice none 0 0, .int .i64 0, .int .i64 0, .slice none 0 0], []⟩ 8 (by kernel_rfl) (by kernel_rfl) (by kernel_rfl) (by kernel_rfl)) ?_
  intro W base args ds gs before hval0 hW hcnd _
  have hval : ∀ (j : Nat) t v, Try.f8.params[j]? = some t → args[j]? = some v → Value.okWide Try.prog W .any base t v := hval0
  have hW' := hW
  obtain ⟨p, q, hA0, hV, rfl, hfz, hnd⟩ := hW
  have hA : DataW.TrodAll enc Try.prog W 0 (fun _ => true) true Try.f8.params.toList args.toList ds p := hA0
  rw [Try.params8] at hA hval
  obtain ⟨v0, vs0, d0, ds0, p0, q0, hargs, rfl, rfl, h0, r0⟩ := trodAll_cons hA
  obtain ⟨v1, vs1, d1, ds1, p1, q1, rfl, rfl, rfl, h1, r1⟩ := trodAll_cons r0
  obtain ⟨v2, vs2, d2, ds2, p2, q2, rfl, rfl, rfl, h2, r2⟩ := trodAll_cons r1
  obtain ⟨v3, vs3, d3, ds3, p3, q3, rfl, rfl, rfl, h3, r3⟩ := trodAll_cons r2
  obtain ⟨rfl, rfl, rfl⟩ := trodAll_nil r3
  obtain rfl : args = #[v0, v1, v2, v3] := by cases args; simp_all
  obtain ⟨rfl, rfl⟩ := trodVars_none hV
  obtain ⟨ad0, cap0, xs0, rfl, hm0, hc0, hw0⟩ := openWangs (hval 0 22 v0 rfl rfl) h0
  obtain ⟨a1, rfl, rfl, rfl, w1⟩ := open_int Try.underlying3 (hval 1 3 v1 rfl rfl) h1
  obtain ⟨a2, rfl, rfl, rfl, w2⟩ := open_int Try.underlying3 (hval 2 3 v2 rfl rfl) h2
  obtain ⟨ad3, cap3, xs3, rfl, hm3, hc3, hw3⟩ := openInts (hval 3 32 v3 rfl rfl) h3
  clear hA0 hval0
  refine (walk W ad0 cap0 xs0 hm0 hc0 hw0 a1 w1 a2 w2 ad3 cap3 xs3 hm3 hc3 hw3).mono fun e W' ⟨he, hb⟩ => ?_
  subst he
  exact ⟨_, rfl, law_post rfl hW' hb (by rw [Try.params8]; exact readable_all (by kernel_rfl)) (by kernel_rfl) (by kernel_rfl) rfl⟩

theorem proved : Rows.FnExactIsPeriodicFillSaid :=
  OpenClaim.holds_of_wide 8 Try.f8 rfl rfl rfl rfl rfl rfl rfl ⟨rfl, rfl, rfl, rfl, rfl⟩ rfl rfl rfl rfl rfl (by kernel_rfl) Try.func8 (by kernel_rfl)
    (of_decide_eq_true (by kernel_rfl)) (by unfold Func.isWrapper; first | (rw [if_pos (by decide +kernel)]; kernel_rfl) | (rw [if_neg (by decide +kernel)]; exact ⟨rfl, rfl⟩))
    (fun os started H enc _ => lifted os started H enc)
end Go.Proofs.Ytbmapeeejfdpbaa.lawPeriodic
