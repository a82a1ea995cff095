/- LawLog: the program's IsLogSteady returns what the reference's returns, for every list; no condition. -/
import Derived.Test.YtijnkbilfmemcaaFrameInts
import Derived.Test.YtijnkbilfmemcaaLog
namespace Go.Proofs.Ytijnkbilfmemcaa.lawLog
open Go.ChangeShapes Go.WideShapes Go.ChangeAt Go.RowKit

set_option maxHeartbeats 400000 in
theorem walk (ad : Option Addr) (c : Nat) (xs : List Int) (w : World) (hm : xs.length ≤ maxLen) (hc : CellsAt w ad (ints xs)) :
    Calls Try.prog 4 #[.slice ad xs.length c] w fun e w' => e = .returned (.bool true) ∧ Below w.heap.size w w' := by
  unfold maxLen at hm
  by_cases hn : xs.length ≤ 1048576
  · have hH := Lib.hid hc
    clear hc
    go_enter Try.func4, Try.ntmps4
    go_wp2_with fail
    refine (toIntS_any _ _ xs _ hn hH.out).mono ?_
    rintro e w1 ⟨a1, c1, rfl, ho1, hb1⟩
    have O1 := Lib.hid ho1
    clear ho1
    go_wp2_with fail
    refine (specLog _ _ xs _ hn (ownsRow_cellsAt O1.out)).mono ?_
    rintro e w2 ⟨⟨b, rfl, hb⟩, n2, rfl⟩
    have HB := Lib.hid hb
    clear hb
    go_wp2_with fail
    refine (toIntS_any _ _ xs _ hn ((hH.out.below hb1).drewN n2)).mono ?_
    rintro e w3 ⟨a3, c3, rfl, ho3, hb3⟩
    have O3 := Lib.hid ho3
    clear ho3
    go_wp2_with fail
    refine (implLog _ _ xs _ hn (ownsRow_cellsAt O3.out)).mono ?_
    rintro e w4 ⟨⟨b', rfl, hb'⟩, n4, rfl⟩
    obtain rfl : b' = b := by
      have := HB.out
      cases b <;> cases b' <;> simp_all
    clear hb'
    have q3 : Below w.heap.size w w3 := hb1.trans ((below_drewN (Below.refl _ _) n2).trans (hb3.mono hb1.size))
    have hbb : (b' != b') = false := by cases b' <;> rfl
    go_wp2_with fail
    refine (toIntS_any _ _ xs _ hn ((hH.out.below q3).drewN n4)).mono ?_
    rintro e w5 ⟨a5, c5, rfl, ho5, hb5⟩
    have O5 := Lib.hid ho5
    clear ho5
    go_wp2_with fail
    refine (eqIntS_any _ _ _ _ xs xs _ hn (ownsRow_cellsAt (ownsRow_far_below (ownsRow_drewN O3.out n4) hb5 (Nat.le_refl _))) (ownsRow_cellsAt O5.out)).mono ?_
    rintro e w6 ⟨rfl, n6, rfl⟩
    go_wp2_with fail
    go_ret
    exact ⟨rfl, below_drewN (q3.trans ((below_drewN (Below.refl _ _) n4).trans (hb5.mono q3.size))) _⟩
  · clear hc
    go_enter Try.func4, Try.ntmps4
    go_wp2_with fail
    go_ret
    exact ⟨rfl, Below.refl _ _⟩

set_option maxRecDepth 100000 in
theorem lifted (os : Os) (started : os.Started) (H : Type) (enc : TypeId × Value → H) :
    ReturnsInHanded {} Try.checked os 4 .any (Rows.fnExactIsLogSteadySpec.pre6 enc Try.prog Try.f4 Rows.fnExactIsLogSteadyRow.domain false) (Rows.fnExactIsLogSteadySpec.post enc Try.prog Try.f4 false true false false) := by
  refine returnsInHanded_of_change (C := Try.checked) Try.own started (by kernel_rfl) Try.func4
    (ChangeSpec.witness6 (enc := enc) (C := Try.checked) false ⟨#[], #[.slice none 0 0], []⟩ 8 (by kernel_rfl) (by kernel_rfl) (by kernel_rfl) (by kernel_rfl)) ?_
  intro W base args ds gs before hval0 hW hcnd _
  have hval : ∀ (j : Nat) t v, Try.f4.params[j]? = some t → args[j]? = some v → Value.okWide Try.prog W .any base t v := hval0
  have hW' := hW
  obtain ⟨p, q, hA0, hV, rfl, hfz, hnd⟩ := hW
  have hA : DataW.TrodAll enc Try.prog W 0 (fun _ => true) true Try.f4.params.toList args.toList ds p := hA0
  rw [Try.params4] at hA hval
  obtain ⟨v0, vs0, d0, ds0, p0, q0, hargs, rfl, rfl, h0, r0⟩ := trodAll_cons hA
  obtain ⟨rfl, rfl, rfl⟩ := trodAll_nil r0
  obtain rfl : args = #[v0] := by cases args; simp_all
  obtain ⟨rfl, rfl⟩ := trodVars_none hV
  obtain ⟨ad, cap, xs, rfl, hm, hc, _⟩ := openInts (hval 0 24 v0 rfl rfl) h0
  clear hA0 hval0
  refine (walk ad cap xs W hm hc).mono fun e W' ⟨he, hb⟩ => ?_
  subst he
  exact ⟨_, rfl, law_post rfl hW' hb (by rw [Try.params4]; intro t ht; simp at ht; subst ht; exact ⟨by kernel_rfl, of_decide_eq_true (by kernel_rfl)⟩) (by kernel_rfl) (by kernel_rfl) rfl⟩

theorem proved : Rows.FnExactIsLogSteadySaid :=
  OpenClaim.holds_of_wide 4 Try.f4 rfl rfl rfl rfl rfl rfl rfl ⟨rfl, rfl, rfl, rfl, rfl⟩ rfl rfl rfl rfl rfl (by kernel_rfl) Try.func4 (by kernel_rfl)
    (of_decide_eq_true (by kernel_rfl)) (by unfold Func.isWrapper; first | (rw [if_pos (by decide +kernel)]; kernel_rfl) | (rw [if_neg (by decide +kernel)]; exact ⟨rfl, rfl⟩))
    (fun os started H enc _ => lifted os started H enc)
end Go.Proofs.Ytijnkbilfmemcaa.lawLog
