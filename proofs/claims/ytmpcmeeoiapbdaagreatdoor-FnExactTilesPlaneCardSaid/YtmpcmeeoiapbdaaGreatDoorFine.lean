/- Fine: the walks of l16Fine and isTorus: whether a torus has 1 to 5 columns and rows. -/
import Derived.Test.YtmpcmeeoiapbdaaGreatDoorAllBase
namespace Go.Proofs.YtmpcmeeoiapbdaaGreatDoor
open Go.RowKit

theorem l16Fine_yes (a b : Int) (w : World) (ha1 : 1 ≤ a) (ha2 : a ≤ 5) (hb1 : 1 ≤ b) (hb2 : b ≤ 5) :
    Calls Tryz.prog 41 #[.int .i64 a, .int .i64 b] w fun e w' => e = .returned (.bool true) ∧ w = w' := by
  go_enter Tryz.func41, Tryz.ntmps41
  go_wp2_with (go_at_call 64; refine (l1In_yes _ _ _ _ (by omega) (by omega)).mono ?_; rintro e w' ⟨rfl, rfl⟩)
  all_goals go_ret
  all_goals exact ⟨rfl, rfl⟩
theorem l16Fine_no (a b : Int) (w : World) (h : ¬ (1 ≤ a ∧ a ≤ 5 ∧ 1 ≤ b ∧ b ≤ 5)) :
    Calls Tryz.prog 41 #[.int .i64 a, .int .i64 b] w fun e w' => e = .returned (.bool false) ∧ w = w' := by
  go_enter Tryz.func41, Tryz.ntmps41
  by_cases h1 : 1 ≤ a ∧ a ≤ 5
  · go_wp2_with (go_at_call 64; first | (refine (l1In_yes _ _ _ _ (by omega) (by omega)).mono ?_; rintro e w' ⟨rfl, rfl⟩) | (refine (l1In_no _ _ _ _ (by omega)).mono ?_; rintro e w' ⟨rfl, rfl⟩))
    all_goals go_ret
    all_goals exact ⟨rfl, rfl⟩
  · go_wp2_with (go_at_call 64; refine (l1In_no _ _ _ _ (by omega)).mono ?_; rintro e w' ⟨rfl, rfl⟩)
    all_goals go_ret
    all_goals exact ⟨rfl, rfl⟩

theorem isTorus_yes (a b : Int) (w : World) (ha1 : 1 ≤ a) (ha2 : a ≤ 5) (hb1 : 1 ≤ b) (hb2 : b ≤ 5) :
    Calls Tryz.prog 68 #[.int .i64 a, .int .i64 b] w fun e w' => e = .returned (.bool true) ∧ w = w' := by
  go_enter Tryz.func68, Tryz.ntmps68
  go_wp2_with (go_at_call 78; refine (between_yes _ _ _ _ (by omega) (by omega)).mono ?_; rintro e w' ⟨rfl, rfl⟩)
  all_goals go_ret
  all_goals exact ⟨rfl, rfl⟩
theorem isTorus_no (a b : Int) (w : World) (h : ¬ (1 ≤ a ∧ a ≤ 5 ∧ 1 ≤ b ∧ b ≤ 5)) :
    Calls Tryz.prog 68 #[.int .i64 a, .int .i64 b] w fun e w' => e = .returned (.bool false) ∧ w = w' := by
  go_enter Tryz.func68, Tryz.ntmps68
  by_cases h1 : 1 ≤ a ∧ a ≤ 5
  · go_wp2_with (go_at_call 78; first | (refine (between_yes _ _ _ _ (by omega) (by omega)).mono ?_; rintro e w' ⟨rfl, rfl⟩) | (refine (between_no _ _ _ _ (by omega)).mono ?_; rintro e w' ⟨rfl, rfl⟩))
    all_goals go_ret
    all_goals exact ⟨rfl, rfl⟩
  · go_wp2_with (go_at_call 78; refine (between_no _ _ _ _ (by omega)).mono ?_; rintro e w' ⟨rfl, rfl⟩)
    all_goals go_ret
    all_goals exact ⟨rfl, rfl⟩
end Go.Proofs.YtmpcmeeoiapbdaaGreatDoor
