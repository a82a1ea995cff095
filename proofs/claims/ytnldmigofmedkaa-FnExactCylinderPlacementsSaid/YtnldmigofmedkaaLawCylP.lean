/- LawCylP: the program's CylinderPlacements returns what the reference's returns, for all numbers, in memory of its own; no condition. -/
import Derived.Test.YtnldmigofmedkaaFrameInts
import Derived.Test.YtnldmigofmedkaaMarkInts
import Derived.Test.YtnldmigofmedkaaCylP
namespace Go.Proofs.Ytnldmigofmedkaa.lawCylP
open Go.ChangeShapes Go.WideShapes Go.ChangeAt Go.RowKit

theorem both (x : Int) (_wx : (Lit.int .i64 x).wf = true) (y : Int) (_wy : (Lit.int .i64 y).wf = true) :
    ∃ r0 : List Int, r0.length ≤ 48 ∧
      (∀ w, Calls Try.prog 18 #[.int .i64 x, .int .i64 y] w fun e w' => ∃ ad' cap', e = .returned (.slice ad' r0.length cap') ∧ w'.ownsRow w.heap.size 3 1 (.slice ad' r0.length cap') r0.length (ints r0) ∧ Below w.heap.size w w') ∧
      ∀ w, Calls Try.prog 19 #[.int .i64 x, .int .i64 y] w fun e w' => ∃ ad' cap', e = .returned (.slice ad' r0.length cap') ∧ w'.ownsRow w.heap.size 3 1 (.slice ad' r0.length cap') r0.length (ints r0) ∧ Below w.heap.size w w' :=
  ⟨cylL x y, cylL_length x y, fun w => specCylP x y w, fun w => implCylP x y w⟩

set_option maxRecDepth 100000 in
set_option maxHeartbeats 4000000 in
theorem walk (w : World) (a0 : Int) (w0_ : (Lit.int .i64 a0).wf = true) (a1 : Int) (w1_ : (Lit.int .i64 a1).wf = true) :
    Calls Try.prog 4 #[.int .i64 a0, .int .i64 a1] w fun e w' => e = .returned (.bool true) ∧ Below w.heap.size w w' := by
  obtain ⟨r0, HL, hs, hi⟩ := both a0 w0_ a1 w1_
  have HS := Lib.hid hs
  have HI := Lib.hid hi
  clear hs hi w0_ w1_
  have q0 : Below w.heap.size w w := Below.refl _ _
  go_enter Try.func4, Try.ntmps4
  go_wp2_with fail
  refine (HS.out _ ).mono ?_
  rintro e w1 ⟨b1_0, d1_0, rfl, ho1_0, hb1⟩
  have z1 := hb1.size
  have q1 : Below w.heap.size w w1 := q0.trans (hb1.mono q0.size)
  have R0 := Lib.hid (Owned.of ho1_0)
  clear ho1_0
  go_wp2_with fail
  refine (HI.out _ ).mono ?_
  rintro e w2 ⟨b2_0, d2_0, rfl, ho2_0, hb2⟩
  have z2 := hb2.size
  have q2 : Below w.heap.size w w2 := q1.trans (hb2.mono q1.size)
  have R0_2 := Lib.hid (R0.out.below hb2 (by omega))
  clear R0
  have G0 := Lib.hid (Owned.of ho2_0)
  clear ho2_0
  go_wp2_with fail
  refine (eqIntS_same _ _ _ _ r0 _ (by omega) G0.out.cells R0_2.out.cells).mono ?_
  rintro e w3 ⟨rfl, hb3⟩
  have z3 := hb3.size
  have q3 : Below w.heap.size w w3 := q2.trans (hb3.mono q2.size)
  have R0_3 := Lib.hid (R0_2.out.below hb3 (by omega))
  clear R0_2
  have G0_3 := Lib.hid (G0.out.below hb3 (by omega))
  clear G0
  go_wp2_with fail
  refine (markIntS_all (k := 1) _ _ _ _ r0 _ (by omega) (by omega) G0_3.out).mono ?_
  rintro e w4 ⟨rfl, g4, ht4⟩
  have z4 := ht4.size
  have zq4 := q3.size
  have q4 : Below w.heap.size w w4 := q3.trans (ht4.below (by omega) (by omega))
  have R0_4 := Lib.hid (R0_3.out.touched ht4 (by omega))
  clear R0_3
  have M0 := Lib.hid g4
  clear g4
  go_wp2_with fail
  refine (heldIntS_b (k := 1) _ _ r0.length _ (by omega) (by omega) M0.out.cells).mono ?_
  rintro e w5 ⟨rfl, hb5⟩
  have z5 := hb5.size
  have q5 : Below w.heap.size w w5 := q4.trans (hb5.mono q4.size)
  have R0_5 := Lib.hid (R0_4.out.below hb5 (by omega))
  clear R0_4
  have M0_5 := Lib.hid (M0.out.below hb5 (by omega))
  clear M0
  go_wp2_with fail
  refine (HI.out _ ).mono ?_
  rintro e w6 ⟨b6_0, d6_0, rfl, ho6_0, hb6⟩
  have z6 := hb6.size
  have q6 : Below w.heap.size w w6 := q5.trans (hb6.mono q5.size)
  have R0_6 := Lib.hid (R0_5.out.below hb6 (by omega))
  clear R0_5
  have M0_6 := Lib.hid (M0_5.out.below hb6 (by omega))
  clear M0_5
  have N0 := Lib.hid (Owned.of ho6_0)
  clear ho6_0
  go_wp2_with fail
  refine (eqIntS_same _ _ _ _ r0 _ (by omega) N0.out.cells R0_6.out.cells).mono ?_
  rintro e w7 ⟨rfl, hb7⟩
  have z7 := hb7.size
  have q7 : Below w.heap.size w w7 := q6.trans (hb7.mono q6.size)
  have R0_7 := Lib.hid (R0_6.out.below hb7 (by omega))
  clear R0_6
  have M0_7 := Lib.hid (M0_6.out.below hb7 (by omega))
  clear M0_6
  have N0_7 := Lib.hid (N0.out.below hb7 (by omega))
  clear N0
  go_wp2_with fail
  refine (heldIntS_b (k := 1) _ _ r0.length _ (by omega) (by omega) M0_7.out.cells).mono ?_
  rintro e w8 ⟨rfl, hb8⟩
  have z8 := hb8.size
  have q8 : Below w.heap.size w w8 := q7.trans (hb8.mono q7.size)
  have R0_8 := Lib.hid (R0_7.out.below hb8 (by omega))
  clear R0_7
  have M0_8 := Lib.hid (M0_7.out.below hb8 (by omega))
  clear M0_7
  have N0_8 := Lib.hid (N0_7.out.below hb8 (by omega))
  clear N0_7
  go_wp2_with fail
  go_ret
  exact ⟨rfl, q8⟩

set_option maxRecDepth 100000 in
theorem lifted (os : Os) (started : os.Started) (H : Type) (enc : TypeId × Value → H) :
    ReturnsInHanded {} Try.checked os 4 .any (Rows.fnExactCylinderPlacementsSpec.pre6 enc Try.prog Try.f4 Rows.fnExactCylinderPlacementsRow.domain false) (Rows.fnExactCylinderPlacementsSpec.post enc Try.prog Try.f4 false true false false) := by
  refine returnsInHanded_of_change (C := Try.checked) Try.own started (by kernel_rfl) Try.func4
    (ChangeSpec.witness6 (enc := enc) (C := Try.checked) false ⟨#[], #[.int .i64 0, .int .i64 0], []⟩ 8 (by kernel_rfl) (by kernel_rfl) (by kernel_rfl) (by kernel_rfl)) ?_
  intro W base args ds gs before hval0 hW hcnd _
  have hval : ∀ (j : Nat) t v, Try.f4.params[j]? = some t → args[j]? = some v → Value.okWide Try.prog W .any base t v := hval0
  have hW' := hW
  obtain ⟨p, q, hA0, hV, rfl, hfz, hnd⟩ := hW
  have hA : DataW.TrodAll enc Try.prog W 0 (fun _ => true) true Try.f4.params.toList args.toList ds p := hA0
  rw [Try.params4] at hA hval
  obtain ⟨v0, vs0, d0, ds0, p0, q0, hargs, rfl, rfl, h0, r0⟩ := trodAll_cons hA
  obtain ⟨v1, vs1, d1, ds1, p1, q1, rfl, rfl, rfl, h1, r1⟩ := trodAll_cons r0
  obtain ⟨rfl, rfl, rfl⟩ := trodAll_nil r1
  obtain rfl : args = #[v0, v1] := by cases args; simp_all
  obtain ⟨rfl, rfl⟩ := trodVars_none hV
  obtain ⟨a0, rfl, rfl, rfl, w0⟩ := open_int Try.underlying3 (hval 0 3 v0 rfl rfl) h0
  obtain ⟨a1, rfl, rfl, rfl, w1⟩ := open_int Try.underlying3 (hval 1 3 v1 rfl rfl) h1
  clear hA0 hval0
  refine (walk W a0 w0 a1 w1).mono fun e W' ⟨he, hb⟩ => ?_
  subst he
  exact ⟨_, rfl, law_post rfl hW' hb (by rw [Try.params4]; exact readable_all (by kernel_rfl)) (by kernel_rfl) (by kernel_rfl) rfl⟩

theorem proved : Rows.FnExactCylinderPlacementsSaid :=
  OpenClaim.holds_of_wide 4 Try.f4 rfl rfl rfl rfl rfl rfl rfl ⟨rfl, rfl, rfl, rfl, rfl⟩ rfl rfl rfl rfl rfl (by kernel_rfl) Try.func4 (by kernel_rfl)
    (of_decide_eq_true (by kernel_rfl)) (by unfold Func.isWrapper; first | (rw [if_pos (by decide +kernel)]; kernel_rfl) | (rw [if_neg (by decide +kernel)]; exact ⟨rfl, rfl⟩))
    (fun os started H enc _ => lifted os started H enc)
end Go.Proofs.Ytnldmigofmedkaa.lawCylP
