/- LawShift: the program's ShiftMask returns what the reference's returns, for all five integers; no condition. -/
import Derived.Test.YtijnkbilfmemcaaFrame
import Derived.Test.YtijnkbilfmemcaaShift2
namespace Go.Proofs.Ytijnkbilfmemcaa.lawShift
open Go.ChangeShapes Go.WideShapes Go.ChangeAt Go.RowKit

/-- When the arguments are in range. -/
def InRange (a b m x y : Int) : Prop := (1 ≤ a ∧ a ≤ 5 ∧ 1 ≤ b ∧ b ≤ 5) ∧ (0 ≤ m ∧ m < 2 ^ (a.toNat * b.toNat)) ∧ (0 ≤ x ∧ x < a) ∧ (0 ≤ y ∧ y < b)

theorem pow_small {a b : Nat} (h : a * b ≤ 25) : wrap64 (2 ^ (a * b)) = ((2 ^ (a * b) : Nat) : Int) ∧ 2 ^ (a * b) ≤ 33554432 := by
  have h2 : 2 ^ (a * b) ≤ 2 ^ 25 := Nat.pow_le_pow_right (by decide) h
  have e : ((2 : Int) ^ (a * b)) = ((2 ^ (a * b) : Nat) : Int) := by norm_cast
  rw [e]
  generalize 2 ^ (a * b) = q at h2
  exact ⟨IntWalk.wrap64_in _ (by omega), h2⟩

set_option maxHeartbeats 400000 in
theorem spec_bad (a b m x y : Int) (w : World) (h : ¬ InRange a b m x y) :
    Calls Try.prog 9 #[.int .i64 a, .int .i64 b, .int .i64 m, .int .i64 x, .int .i64 y] w fun e w' => e = .returned (.int .i64 (-1)) ∧ w = w' := by
  by_cases hf : 1 ≤ a ∧ a ≤ 5 ∧ 1 ≤ b ∧ b ≤ 5
  · obtain ⟨A, rfl⟩ := Int.eq_ofNat_of_zero_le (show 0 ≤ a by omega)
    obtain ⟨B, rfl⟩ := Int.eq_ofNat_of_zero_le (show 0 ≤ b by omega)
    obtain ⟨ha1, ha2, hb1, hb2⟩ := hf
    have q0 : A * B ≤ 25 := Nat.mul_le_mul (show A ≤ 5 by omega) (show B ≤ 5 by omega)
    have q1 : 0 ≤ (A : Int) * (B : Int) := by exact Int.mul_nonneg (by omega) (by omega)
    have q2 : (A : Int) * (B : Int) ≤ 25 := by exact_mod_cast q0
    obtain ⟨hp, hp1⟩ := pow_small q0
    have hr : ¬ ((0 ≤ m ∧ m < ((2 ^ (A * B) : Nat) : Int)) ∧ (0 ≤ x ∧ x < (A : Int)) ∧ (0 ≤ y ∧ y < (B : Int))) := by
      intro hh
      refine h ⟨⟨ha1, ha2, hb1, hb2⟩, ?_, hh.2.1, hh.2.2⟩
      have := hh.1
      rw [Int.toNat_natCast, Int.toNat_natCast]
      norm_cast at this ⊢
    clear h
    generalize 2 ^ (A * B) = p at hp hp1 hr
    by_cases hm : 0 ≤ m ∧ m ≤ (p : Int) - 1
    · by_cases hx : 0 ≤ x ∧ x ≤ (A : Int) - 1
      · have hy : y < 0 ∨ (B : Int) - 1 < y := by omega
        clear hr
        go_enter Try.func9, Try.ntmps9
        go_wp2_with (first | (go_at_call 31; refine (l16Fine_yes _ _ _ (by omega) (by omega) (by omega) (by omega)).mono ?_; rintro e w' ⟨rfl, rfl⟩) | (go_at_call 32; first | (refine (l1In_yes _ _ _ _ (by omega) (by omega)).mono ?_; rintro e w' ⟨rfl, rfl⟩) | (refine (l1In_no _ _ _ _ (by omega)).mono ?_; rintro e w' ⟨rfl, rfl⟩)))
        go_ret
        exact ⟨rfl, rfl⟩
      · have hx' : x < 0 ∨ (A : Int) - 1 < x := by omega
        clear hr hx
        go_enter Try.func9, Try.ntmps9
        go_wp2_with (first | (go_at_call 31; refine (l16Fine_yes _ _ _ (by omega) (by omega) (by omega) (by omega)).mono ?_; rintro e w' ⟨rfl, rfl⟩) | (go_at_call 32; first | (refine (l1In_yes _ _ _ _ (by omega) (by omega)).mono ?_; rintro e w' ⟨rfl, rfl⟩) | (refine (l1In_no _ _ _ _ (by omega)).mono ?_; rintro e w' ⟨rfl, rfl⟩)))
        go_ret
        exact ⟨rfl, rfl⟩
    · have hm' : m < 0 ∨ (p : Int) - 1 < m := by omega
      clear hr hm
      go_enter Try.func9, Try.ntmps9
      go_wp2_with (first | (go_at_call 31; refine (l16Fine_yes _ _ _ (by omega) (by omega) (by omega) (by omega)).mono ?_; rintro e w' ⟨rfl, rfl⟩) | (go_at_call 32; first | (refine (l1In_yes _ _ _ _ (by omega) (by omega)).mono ?_; rintro e w' ⟨rfl, rfl⟩) | (refine (l1In_no _ _ _ _ (by omega)).mono ?_; rintro e w' ⟨rfl, rfl⟩)))
      go_ret
      exact ⟨rfl, rfl⟩
  · clear h
    go_enter Try.func9, Try.ntmps9
    go_wp2_with (go_at_call 31; refine (l16Fine_no _ _ _ (by omega)).mono ?_; rintro e w' ⟨rfl, rfl⟩)
    go_ret
    exact ⟨rfl, rfl⟩

set_option maxHeartbeats 400000 in
theorem impl_bad (a b m x y : Int) (w : World) (h : ¬ InRange a b m x y) :
    Calls Try.prog 10 #[.int .i64 a, .int .i64 b, .int .i64 m, .int .i64 x, .int .i64 y] w fun e w' => e = .returned (.int .i64 (-1)) ∧ w = w' := by
  by_cases hf : 1 ≤ a ∧ a ≤ 5 ∧ 1 ≤ b ∧ b ≤ 5
  · obtain ⟨A, rfl⟩ := Int.eq_ofNat_of_zero_le (show 0 ≤ a by omega)
    obtain ⟨B, rfl⟩ := Int.eq_ofNat_of_zero_le (show 0 ≤ b by omega)
    obtain ⟨ha1, ha2, hb1, hb2⟩ := hf
    have q0 : A * B ≤ 25 := Nat.mul_le_mul (show A ≤ 5 by omega) (show B ≤ 5 by omega)
    have q1 : 0 ≤ (A : Int) * (B : Int) := by exact Int.mul_nonneg (by omega) (by omega)
    have q2 : (A : Int) * (B : Int) ≤ 25 := by exact_mod_cast q0
    obtain ⟨hp, hp1⟩ := pow_small q0
    have hr : ¬ ((0 ≤ m ∧ m < ((2 ^ (A * B) : Nat) : Int)) ∧ (0 ≤ x ∧ x < (A : Int)) ∧ (0 ≤ y ∧ y < (B : Int))) := by
      intro hh
      refine h ⟨⟨ha1, ha2, hb1, hb2⟩, ?_, hh.2.1, hh.2.2⟩
      have := hh.1
      rw [Int.toNat_natCast, Int.toNat_natCast]
      norm_cast at this ⊢
    clear h
    generalize 2 ^ (A * B) = p at hp hp1 hr
    by_cases hm : 0 ≤ m ∧ m ≤ (p : Int) - 1
    · by_cases hx : 0 ≤ x ∧ x ≤ (A : Int) - 1
      · have hy : y < 0 ∨ (B : Int) - 1 < y := by omega
        clear hr
        go_enter Try.func10, Try.ntmps10
        go_wp2_with (first | (go_at_call 33; refine (isTorus_yes _ _ _ (by omega) (by omega) (by omega) (by omega)).mono ?_; rintro e w' ⟨rfl, rfl⟩) | (go_at_call 34; first | (refine (between_yes _ _ _ _ (by omega) (by omega)).mono ?_; rintro e w' ⟨rfl, rfl⟩) | (refine (between_no _ _ _ _ (by omega)).mono ?_; rintro e w' ⟨rfl, rfl⟩)))
        go_ret
        exact ⟨rfl, rfl⟩
      · have hx' : x < 0 ∨ (A : Int) - 1 < x := by omega
        clear hr hx
        go_enter Try.func10, Try.ntmps10
        go_wp2_with (first | (go_at_call 33; refine (isTorus_yes _ _ _ (by omega) (by omega) (by omega) (by omega)).mono ?_; rintro e w' ⟨rfl, rfl⟩) | (go_at_call 34; first | (refine (between_yes _ _ _ _ (by omega) (by omega)).mono ?_; rintro e w' ⟨rfl, rfl⟩) | (refine (between_no _ _ _ _ (by omega)).mono ?_; rintro e w' ⟨rfl, rfl⟩)))
        go_ret
        exact ⟨rfl, rfl⟩
    · have hm' : m < 0 ∨ (p : Int) - 1 < m := by omega
      clear hr hm
      go_enter Try.func10, Try.ntmps10
      go_wp2_with (first | (go_at_call 33; refine (isTorus_yes _ _ _ (by omega) (by omega) (by omega) (by omega)).mono ?_; rintro e w' ⟨rfl, rfl⟩) | (go_at_call 34; first | (refine (between_yes _ _ _ _ (by omega) (by omega)).mono ?_; rintro e w' ⟨rfl, rfl⟩) | (refine (between_no _ _ _ _ (by omega)).mono ?_; rintro e w' ⟨rfl, rfl⟩)))
      go_ret
      exact ⟨rfl, rfl⟩
  · clear h
    go_enter Try.func10, Try.ntmps10
    go_wp2_with (go_at_call 33; refine (isTorus_no _ _ _ (by omega)).mono ?_; rintro e w' ⟨rfl, rfl⟩)
    go_ret
    exact ⟨rfl, rfl⟩

/-- Both return one number, whatever the arguments. -/
theorem both (a b m x y : Int) : ∃ r : Int, (∀ w, Calls Try.prog 9 #[.int .i64 a, .int .i64 b, .int .i64 m, .int .i64 x, .int .i64 y] w fun e w' => e = .returned (.int .i64 r) ∧ Below w.heap.size w w') ∧
    ∀ w, Calls Try.prog 10 #[.int .i64 a, .int .i64 b, .int .i64 m, .int .i64 x, .int .i64 y] w fun e w' => e = .returned (.int .i64 r) ∧ Below w.heap.size w w' := by
  by_cases h : InRange a b m x y
  · obtain ⟨⟨ha1, ha2, hb1, hb2⟩, ⟨hm1, hm2⟩, ⟨hx1, hx2⟩, hy1, hy2⟩ := h
    obtain ⟨A, rfl⟩ := Int.eq_ofNat_of_zero_le (show 0 ≤ a by omega)
    obtain ⟨B, rfl⟩ := Int.eq_ofNat_of_zero_le (show 0 ≤ b by omega)
    obtain ⟨M, rfl⟩ := Int.eq_ofNat_of_zero_le hm1
    obtain ⟨X, rfl⟩ := Int.eq_ofNat_of_zero_le hx1
    obtain ⟨Y, rfl⟩ := Int.eq_ofNat_of_zero_le hy1
    have q0 : A * B ≤ 25 := Nat.mul_le_mul (show A ≤ 5 by omega) (show B ≤ 5 by omega)
    obtain ⟨hp, hp1⟩ := pow_small q0
    have hM : M < 2 ^ (A * B) := by
      rw [Int.toNat_natCast, Int.toNat_natCast] at hm2
      norm_cast at hm2
    refine ⟨(smSum A B X Y (smBits (A * B) M) : Nat), fun w => ?_, fun w => ?_⟩
    · refine (specShift A B M X Y (2 ^ (A * B)) w ⟨by omega, by omega⟩ ⟨by omega, by omega⟩ hp hp1 hM (by omega) (by omega)).mono ?_
      rintro e w' ⟨rfl, n, rfl⟩
      exact ⟨rfl, below_drewN (Below.refl _ _) _⟩
    · refine (implShift A B M X Y (2 ^ (A * B)) w ⟨by omega, by omega⟩ ⟨by omega, by omega⟩ hp hp1 hM hM (by omega) (by omega)).mono ?_
      rintro e w' ⟨rfl, hb⟩
      rw [smOr_eq (by omega) (by omega) (by omega) (Nat.le_refl _)]
      exact ⟨rfl, hb⟩
  · refine ⟨-1, fun w => ?_, fun w => ?_⟩
    · refine (spec_bad a b m x y w h).mono ?_
      rintro e w' ⟨rfl, rfl⟩
      exact ⟨rfl, Below.refl _ _⟩
    · refine (impl_bad a b m x y w h).mono ?_
      rintro e w' ⟨rfl, rfl⟩
      exact ⟨rfl, Below.refl _ _⟩

theorem walk (a0 a1 a2 a3 a4 : Int) (w : World) :
    Calls Try.prog 3 #[.int .i64 a0, .int .i64 a1, .int .i64 a2, .int .i64 a3, .int .i64 a4] w fun e w' => e = .returned (.bool true) ∧ Below w.heap.size w w' := by
  obtain ⟨r, hs, hi⟩ := both a0 a1 a2 a3 a4
  have HS := Lib.hid hs
  have HI := Lib.hid hi
  clear hs hi
  go_enter Try.func3, Try.ntmps3
  go_wp2_with fail
  refine (HS.out _).mono ?_
  rintro e w1 ⟨rfl, hb1⟩
  go_wp2_with fail
  refine (HI.out _).mono ?_
  rintro e w2 ⟨rfl, hb2⟩
  go_wp2_with fail
  go_ret
  exact ⟨rfl, hb1.trans (hb2.mono hb1.size)⟩

set_option maxRecDepth 100000 in
theorem lifted (os : Os) (started : os.Started) (H : Type) (enc : TypeId × Value → H) :
    ReturnsInHanded {} Try.checked os 3 .any (Rows.fnExactShiftMaskSpec.pre6 enc Try.prog Try.f3 Rows.fnExactShiftMaskRow.domain false) (Rows.fnExactShiftMaskSpec.post enc Try.prog Try.f3 false true false false) := by
  refine returnsInHanded_of_change (C := Try.checked) Try.own started (by kernel_rfl) Try.func3
    (ChangeSpec.witness6 (enc := enc) (C := Try.checked) false ⟨#[], #[.int .i64 0, .int .i64 0, .int .i64 0, .int .i64 0, .int .i64 0], []⟩ 8 (by kernel_rfl) (by kernel_rfl) (by kernel_rfl) (by kernel_rfl)) ?_
  intro W base args ds gs before hval0 hW hcnd _
  have hval : ∀ (j : Nat) t v, Try.f3.params[j]? = some t → args[j]? = some v → Value.okWide Try.prog W .any base t v := hval0
  have hW' := hW
  obtain ⟨p, q, hA0, hV, rfl, hfz, hnd⟩ := hW
  have hA : DataW.TrodAll enc Try.prog W 0 (fun _ => true) true Try.f3.params.toList args.toList ds p := hA0
  rw [Try.params3] at hA hval
  obtain ⟨v0, vs0, d0, ds0, p0, q0, hargs, rfl, rfl, h0, r0⟩ := trodAll_cons hA
  obtain ⟨v1, vs1, d1, ds1, p1, q1, rfl, rfl, rfl, h1, r1⟩ := trodAll_cons r0
  obtain ⟨v2, vs2, d2, ds2, p2, q2, rfl, rfl, rfl, h2, r2⟩ := trodAll_cons r1
  obtain ⟨v3, vs3, d3, ds3, p3, q3, rfl, rfl, rfl, h3, r3⟩ := trodAll_cons r2
  obtain ⟨v4, vs4, d4, ds4, p4, q4, rfl, rfl, rfl, h4, r4⟩ := trodAll_cons r3
  obtain ⟨rfl, rfl, rfl⟩ := trodAll_nil r4
  obtain rfl : args = #[v0, v1, v2, v3, v4] := by cases args; simp_all
  obtain ⟨rfl, rfl⟩ := trodVars_none hV
  obtain ⟨a0, rfl, rfl, rfl, w0⟩ := open_int Try.underlying3 (hval 0 3 v0 rfl rfl) h0
  obtain ⟨a1, rfl, rfl, rfl, w1⟩ := open_int Try.underlying3 (hval 1 3 v1 rfl rfl) h1
  obtain ⟨a2, rfl, rfl, rfl, w2⟩ := open_int Try.underlying3 (hval 2 3 v2 rfl rfl) h2
  obtain ⟨a3, rfl, rfl, rfl, w3⟩ := open_int Try.underlying3 (hval 3 3 v3 rfl rfl) h3
  obtain ⟨a4, rfl, rfl, rfl, w4⟩ := open_int Try.underlying3 (hval 4 3 v4 rfl rfl) h4
  clear hA0 hval0
  refine (walk a0 a1 a2 a3 a4 W).mono fun e W' ⟨he, hb⟩ => ?_
  subst he
  exact ⟨_, rfl, law_post rfl hW' hb (by rw [Try.params3]; intro t ht; simp at ht; subst ht; exact ⟨by kernel_rfl, of_decide_eq_true (by kernel_rfl)⟩) (by kernel_rfl) (by kernel_rfl) rfl⟩

theorem proved : Rows.FnExactShiftMaskSaid :=
  OpenClaim.holds_of_wide 3 Try.f3 rfl rfl rfl rfl rfl rfl rfl ⟨rfl, rfl, rfl, rfl, rfl⟩ rfl rfl rfl rfl rfl (by kernel_rfl) Try.func3 (by kernel_rfl)
    (of_decide_eq_true (by kernel_rfl)) (by unfold Func.isWrapper; first | (rw [if_pos (by decide +kernel)]; kernel_rfl) | (rw [if_neg (by decide +kernel)]; exact ⟨rfl, rfl⟩))
    (fun os started H enc _ => lifted os started H enc)
end Go.Proofs.Ytijnkbilfmemcaa.lawShift
