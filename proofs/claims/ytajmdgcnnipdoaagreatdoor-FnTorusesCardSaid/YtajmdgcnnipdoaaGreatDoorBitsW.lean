/- BitsW: the law's own count of a mask's bits. -/
import Derived.Test.YtajmdgcnnipdoaaGreatDoorAllPl
import Derived.IntWalk
import Derived.RowKit
import Derived.Deep.DrawnRows
namespace Go.Proofs.YtajmdgcnnipdoaaGreatDoor
open Go.RowKit

theorem pc_half {x : Nat} (hx : x < 2 ^ 36) : pc x = x % 2 + pc (x / 2) := by
  have h1 : pc x = (List.range (35 + 1)).countP fun i => x.testBit i := rfl
  have h2 : pc (x / 2) = (List.range 35).countP fun i => (x / 2).testBit i := by
    unfold pc
    rw [List.range_succ, List.countP_append, List.countP_cons, List.countP_nil]
    have : (x / 2).testBit 35 = false := Nat.testBit_lt_two_pow (by omega)
    rw [this]
    simp
  rw [h1, h2, List.range_succ_eq_map, List.countP_cons, List.countP_map]
  have h3 : ((fun i => x.testBit i) ∘ Nat.succ) = fun i => (x / 2).testBit i := by
    funext i
    exact Nat.testBit_succ x i
  rw [h3, Nat.testBit_zero]
  have := Nat.mod_two_eq_zero_or_one x
  rcases this with h | h <;> rw [h] <;> simp <;> omega
theorem pc_le (x : Nat) : pc x ≤ 36 := by
  unfold pc
  exact Nat.le_trans List.countP_le_length (by simp)

attribute [local go_sem ↓] Go.wp_at_zero Go.wp_at_succ

set_option maxRecDepth 100000 in
set_option maxHeartbeats 1600000 in
theorem lawBits (m : Nat) (hm : m < 2 ^ 36) (w : World) :
    Calls Tryz.prog 45 #[.int .i64 m] w fun e w' => e = .returned (.int .i64 (pc m : Nat)) ∧ w' = w := by
  have hmx : max (0 : Int) (m : Int) = (m : Int) := by omega
  go_enter Tryz.func45, Tryz.ntmps45
  go_wp2
  · have hM := hm
    go_loopw [3, 4] (fun n x wr => ∃ a k : Nat, n = .int .i64 a ∧ x = .int .i64 k ∧ a + pc k = pc m ∧ k < 2 ^ 36 ∧ wr = w) (fun _ x _ => (intOf x).toNat)
    case atStart => exact ⟨0, m, rfl, rfl, by omega, hM, rfl⟩
    case round =>
      obtain ⟨a, k, rfl, rfl, hs, hk, rfl⟩ := hrel
      have hpl := pc_le m
      have hh := pc_half hk
      by_cases h0 : 0 < k
      · have h0I : (0 : Int) < (k : Int) := by omega
        obtain ⟨q, hq⟩ : ∃ q, q = k / 2 := ⟨_, rfl⟩
        obtain ⟨r, hr⟩ : ∃ r, r = k % 2 := ⟨_, rfl⟩
        have t1 : (k : Int).tdiv 2 = (q : Int) := by rw [hq]; norm_cast
        have t2 : (k : Int).tmod 2 = (r : Int) := by rw [hr]; norm_cast
        have hqk : q < k := by omega
        have hr2 : r < 2 := by omega
        rw [← hq, ← hr] at hh
        clear hq hr
        obtain ⟨ar, har⟩ : ∃ ar, ar = a + r := ⟨_, rfl⟩
        have t3 : (a : Int) + (r : Int) = (ar : Int) := by rw [har]; norm_cast
        have t4 : IntKind.i64.wrap (ar : Int) = (ar : Int) := IntWalk.i64_in _ (by omega)
        have t5 : IntKind.i64.wrap (q : Int) = (q : Int) := IntWalk.i64_in _ (by omega)
        have HH := Lib.hid (show ar + pc q = pc m by omega)
        clear hh hs har
        go_wp2
        go_roundw
        case rel => exact ⟨ar, q, by go_num, by go_num, HH.out, by omega, by first | rfl | trivial⟩
        case measure => simp [intOf]; omega
      · obtain rfl : k = 0 := by omega
        rw [pc_zero] at hs
        obtain rfl : a = pc m := by omega
        go_wp2
        go_ret
        exact ⟨rfl, rfl⟩
  · have hm0 : m = 0 := by omega
    have hM := hm
    go_loopw [3, 4] (fun n x wr => ∃ a k : Nat, n = .int .i64 a ∧ x = .int .i64 k ∧ a + pc k = pc m ∧ k < 2 ^ 36 ∧ wr = w) (fun _ x _ => (intOf x).toNat)
    case atStart => exact ⟨0, m, rfl, by rw [hm0]; rfl, by omega, hM, rfl⟩
    case round =>
      obtain ⟨a, k, rfl, rfl, hs, hk, rfl⟩ := hrel
      have hpl := pc_le m
      have hh := pc_half hk
      by_cases h0 : 0 < k
      · have h0I : (0 : Int) < (k : Int) := by omega
        obtain ⟨q, hq⟩ : ∃ q, q = k / 2 := ⟨_, rfl⟩
        obtain ⟨r, hr⟩ : ∃ r, r = k % 2 := ⟨_, rfl⟩
        have t1 : (k : Int).tdiv 2 = (q : Int) := by rw [hq]; norm_cast
        have t2 : (k : Int).tmod 2 = (r : Int) := by rw [hr]; norm_cast
        have hqk : q < k := by omega
        have hr2 : r < 2 := by omega
        rw [← hq, ← hr] at hh
        clear hq hr
        obtain ⟨ar, har⟩ : ∃ ar, ar = a + r := ⟨_, rfl⟩
        have t3 : (a : Int) + (r : Int) = (ar : Int) := by rw [har]; norm_cast
        have t4 : IntKind.i64.wrap (ar : Int) = (ar : Int) := IntWalk.i64_in _ (by omega)
        have t5 : IntKind.i64.wrap (q : Int) = (q : Int) := IntWalk.i64_in _ (by omega)
        have HH := Lib.hid (show ar + pc q = pc m by omega)
        clear hh hs har
        go_wp2
        go_roundw
        case rel => exact ⟨ar, q, by go_num, by go_num, HH.out, by omega, by first | rfl | trivial⟩
        case measure => simp [intOf]; omega
      · obtain rfl : k = 0 := by omega
        rw [pc_zero] at hs
        obtain rfl : a = pc m := by omega
        go_wp2
        go_ret
        exact ⟨rfl, rfl⟩
end Go.Proofs.YtajmdgcnnipdoaaGreatDoor
