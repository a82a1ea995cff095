/- Shape1: the walks of the order of cells and of onBoard, the reference's and the program's. -/
import Derived.Test.YtipikojinfpidaaShape0
import Derived.Test.YtipikojinfpidaaNum
import Derived.Test.YtipikojinfpidaaCl0
import Derived.Deep.RegionHeld3
import Derived.Deep.DrawnRows
import Derived.Deep.Cut
namespace Go.Proofs.Ytipikojinfpidaa
open Go.RowKit

attribute [local go_sem ↓] Go.wp_at_zero Go.wp_at_succ

set_option maxHeartbeats 800000 in
theorem specBefore (ax ay bx by' : Int) (w : World) :
    Calls Try.prog 68 #[.agg #[.int .i64 ax, .int .i64 ay], .agg #[.int .i64 bx, .int .i64 by']] w fun e w' => e = .returned (.bool (ltC ⟨ax, ay⟩ ⟨bx, by'⟩)) ∧ Below w.heap.size w w' := by
  have hdef : ltC ⟨ax, ay⟩ ⟨bx, by'⟩ = (decide (ay < by') || (decide (ay = by') && decide (ax < bx))) := rfl
  by_cases h1 : ay < by'
  · have hv : ltC ⟨ax, ay⟩ ⟨bx, by'⟩ = true := by rw [hdef]; simp [h1]
    rw [hv]
    have d1 : decide (ay < by') = true := decide_eq_true h1
    clear hdef hv
    go_enter Try.func68, Try.ntmps68
    go_wp2
    go_ret
    exact ⟨rfl, by go_grown⟩
  · have d1 : decide (ay < by') = false := decide_eq_false h1
    by_cases h2 : ay = by'
    · have b2 : (ay == by') = true := by simp [h2]
      have hv : ltC ⟨ax, ay⟩ ⟨bx, by'⟩ = decide (ax < bx) := by rw [hdef]; simp [h2]
      rw [hv]
      clear hdef hv h2
      by_cases h3 : ax < bx
      · have d3 : decide (ax < bx) = true := decide_eq_true h3
        rw [d3]
        go_enter Try.func68, Try.ntmps68
        go_wp2
        go_ret
        exact ⟨rfl, by go_grown⟩
      · have d3 : decide (ax < bx) = false := decide_eq_false h3
        rw [d3]
        go_enter Try.func68, Try.ntmps68
        go_wp2
        go_ret
        exact ⟨rfl, by go_grown⟩
    · have b2 : (ay == by') = false := by simp [h2]
      have hv : ltC ⟨ax, ay⟩ ⟨bx, by'⟩ = false := by rw [hdef]; simp [h1, h2]
      rw [hv]
      clear hdef hv h2
      go_enter Try.func68, Try.ntmps68
      go_wp2
      go_ret
      exact ⟨rfl, by go_grown⟩

set_option maxHeartbeats 800000 in
theorem implBefore (ax ay bx by' : Int) (w : World) :
    Calls Try.prog 50 #[.agg #[.int .i64 ax, .int .i64 ay], .agg #[.int .i64 bx, .int .i64 by']] w fun e w' => e = .returned (.bool (ltC ⟨ax, ay⟩ ⟨bx, by'⟩)) ∧ Below w.heap.size w w' := by
  have hdef : ltC ⟨ax, ay⟩ ⟨bx, by'⟩ = (decide (ay < by') || (decide (ay = by') && decide (ax < bx))) := rfl
  by_cases h1 : ay < by'
  · have hv : ltC ⟨ax, ay⟩ ⟨bx, by'⟩ = true := by rw [hdef]; simp [h1]
    rw [hv]
    have d1 : decide (ay < by') = true := decide_eq_true h1
    clear hdef hv
    go_enter Try.func50, Try.ntmps50
    go_wp2
    go_ret
    exact ⟨rfl, by go_grown⟩
  · have d1 : decide (ay < by') = false := decide_eq_false h1
    by_cases h2 : ay = by'
    · have b2 : (ay == by') = true := by simp [h2]
      have hv : ltC ⟨ax, ay⟩ ⟨bx, by'⟩ = decide (ax < bx) := by rw [hdef]; simp [h2]
      rw [hv]
      clear hdef hv h2
      by_cases h3 : ax < bx
      · have d3 : decide (ax < bx) = true := decide_eq_true h3
        rw [d3]
        go_enter Try.func50, Try.ntmps50
        go_wp2
        go_ret
        exact ⟨rfl, by go_grown⟩
      · have d3 : decide (ax < bx) = false := decide_eq_false h3
        rw [d3]
        go_enter Try.func50, Try.ntmps50
        go_wp2
        go_ret
        exact ⟨rfl, by go_grown⟩
    · have b2 : (ay == by') = false := by simp [h2]
      have hv : ltC ⟨ax, ay⟩ ⟨bx, by'⟩ = false := by rw [hdef]; simp [h1, h2]
      rw [hv]
      clear hdef hv h2
      go_enter Try.func50, Try.ntmps50
      go_wp2
      go_ret
      exact ⟨rfl, by go_grown⟩

set_option maxHeartbeats 800000 in
theorem implOnB (x y : Int) (w : World) :
    Calls Try.prog 49 #[.agg #[.int .i64 x, .int .i64 y]] w fun e w' => e = .returned (.bool (decide (OnB ⟨x, y⟩))) ∧ Below w.heap.size w w' := by
  by_cases h1 : 0 ≤ x ∧ x ≤ 7
  · by_cases h2 : 0 ≤ y ∧ y ≤ 7
    · rw [decide_eq_true (show OnB ⟨x, y⟩ from ⟨h1, h2⟩)]
      obtain ⟨a1, a2⟩ := h1
      obtain ⟨b1, b2⟩ := h2
      go_enter Try.func49, Try.ntmps49
      go_wp2_with (go_at_call 48; refine (between_yes _ _ _ _ (by omega) (by omega)).mono ?_; rintro e w' ⟨rfl, rfl⟩)
      go_ret
      exact ⟨rfl, by go_grown⟩
    · rw [decide_eq_false (show ¬ OnB ⟨x, y⟩ from fun q => h2 q.2)]
      have H2 := Lib.hid (show y < 0 ∨ 7 < y by omega)
      obtain ⟨a1, a2⟩ := h1
      clear h2
      go_enter Try.func49, Try.ntmps49
      go_wp2_with fail
      refine (between_yes _ _ _ _ a1 a2).mono ?_
      rintro e w' ⟨rfl, rfl⟩
      go_wp2_with fail
      refine (between_no _ _ _ _ H2.out).mono ?_
      rintro e w' ⟨rfl, rfl⟩
      go_wp2
      go_ret
      exact ⟨rfl, by go_grown⟩
  · rw [decide_eq_false (show ¬ OnB ⟨x, y⟩ from fun q => h1 q.1)]
    have H1 := Lib.hid (show x < 0 ∨ 7 < x by omega)
    clear h1
    go_enter Try.func49, Try.ntmps49
    go_wp2_with fail
    refine (between_no _ _ _ _ H1.out).mono ?_
    rintro e w' ⟨rfl, rfl⟩
    go_wp2
    go_ret
    exact ⟨rfl, by go_grown⟩
end Go.Proofs.Ytipikojinfpidaa
