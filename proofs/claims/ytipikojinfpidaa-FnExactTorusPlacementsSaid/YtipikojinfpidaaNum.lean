/- Num: the contracts of the two small range tests, one of the reference, one of the program. -/
import Derived.Test.YtipikojinfpidaaProg
import Derived.Test.YtipikojinfpidaaBase
namespace Go.Proofs.Ytipikojinfpidaa
open Go.RowKit

theorem l1In_any (n lo hi : Int) (w : World) :
    Calls Try.prog 47 #[.int .i64 n, .int .i64 lo, .int .i64 hi] w fun e w' => e = .returned (.bool (decide (lo ≤ n) && decide (n ≤ hi))) ∧ w = w' := by
  go_enter Try.func47, Try.ntmps47
  go_wp2
  all_goals go_ret
  all_goals (refine ⟨?_, rfl⟩; congr 1; congr 1; simp; omega)
theorem l1In_yes (n lo hi : Int) (w : World) (h1 : lo ≤ n) (h2 : n ≤ hi) :
    Calls Try.prog 47 #[.int .i64 n, .int .i64 lo, .int .i64 hi] w fun e w' => e = .returned (.bool true) ∧ w = w' := by
  have e : (decide (lo ≤ n) && decide (n ≤ hi)) = true := by simp [h1, h2]
  exact (l1In_any n lo hi w).mono fun _ _ ⟨h, hw⟩ => ⟨by rw [h, e], hw⟩
theorem l1In_no (n lo hi : Int) (w : World) (h : n < lo ∨ hi < n) :
    Calls Try.prog 47 #[.int .i64 n, .int .i64 lo, .int .i64 hi] w fun e w' => e = .returned (.bool false) ∧ w = w' := by
  have e : (decide (lo ≤ n) && decide (n ≤ hi)) = false := by simp; omega
  exact (l1In_any n lo hi w).mono fun _ _ ⟨h, hw⟩ => ⟨by rw [h, e], hw⟩
theorem between_any (n lo hi : Int) (w : World) :
    Calls Try.prog 48 #[.int .i64 n, .int .i64 lo, .int .i64 hi] w fun e w' => e = .returned (.bool (decide (lo ≤ n) && decide (n ≤ hi))) ∧ w = w' := by
  go_enter Try.func48, Try.ntmps48
  go_wp2
  all_goals go_ret
  all_goals (refine ⟨?_, rfl⟩; congr 1; congr 1; simp; omega)
theorem between_yes (n lo hi : Int) (w : World) (h1 : lo ≤ n) (h2 : n ≤ hi) :
    Calls Try.prog 48 #[.int .i64 n, .int .i64 lo, .int .i64 hi] w fun e w' => e = .returned (.bool true) ∧ w = w' := by
  have e : (decide (lo ≤ n) && decide (n ≤ hi)) = true := by simp [h1, h2]
  exact (between_any n lo hi w).mono fun _ _ ⟨h, hw⟩ => ⟨by rw [h, e], hw⟩
theorem between_no (n lo hi : Int) (w : World) (h : n < lo ∨ hi < n) :
    Calls Try.prog 48 #[.int .i64 n, .int .i64 lo, .int .i64 hi] w fun e w' => e = .returned (.bool false) ∧ w = w' := by
  have e : (decide (lo ≤ n) && decide (n ≤ hi)) = false := by simp; omega
  exact (between_any n lo hi w).mono fun _ _ ⟨h, hw⟩ => ⟨by rw [h, e], hw⟩

end Go.Proofs.Ytipikojinfpidaa
