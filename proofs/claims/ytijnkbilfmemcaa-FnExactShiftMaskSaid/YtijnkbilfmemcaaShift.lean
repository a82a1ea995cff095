/- Shift: the walks of ShiftMask, the reference's and the program's. -/
import Derived.Test.YtijnkbilfmemcaaNum
import Derived.Test.YtijnkbilfmemcaaShift0
namespace Go.Proofs.Ytijnkbilfmemcaa
open Go.RowKit

theorem l16Fine_yes (a b : Int) (w : World) (ha1 : 1 ≤ a) (ha2 : a ≤ 5) (hb1 : 1 ≤ b) (hb2 : b ≤ 5) :
    Calls Try.prog 31 #[.int .i64 a, .int .i64 b] w fun e w' => e = .returned (.bool true) ∧ w = w' := by
  go_enter Try.func31, Try.ntmps31
  go_wp2_with (go_at_call 32; refine (l1In_yes _ _ _ _ (by omega) (by omega)).mono ?_; rintro e w' ⟨rfl, rfl⟩)
  all_goals go_ret
  all_goals exact ⟨rfl, rfl⟩
theorem l16Fine_no (a b : Int) (w : World) (h : ¬ (1 ≤ a ∧ a ≤ 5 ∧ 1 ≤ b ∧ b ≤ 5)) :
    Calls Try.prog 31 #[.int .i64 a, .int .i64 b] w fun e w' => e = .returned (.bool false) ∧ w = w' := by
  go_enter Try.func31, Try.ntmps31
  by_cases h1 : 1 ≤ a ∧ a ≤ 5
  · go_wp2_with (go_at_call 32; first | (refine (l1In_yes _ _ _ _ (by omega) (by omega)).mono ?_; rintro e w' ⟨rfl, rfl⟩) | (refine (l1In_no _ _ _ _ (by omega)).mono ?_; rintro e w' ⟨rfl, rfl⟩))
    all_goals go_ret
    all_goals exact ⟨rfl, rfl⟩
  · go_wp2_with (go_at_call 32; refine (l1In_no _ _ _ _ (by omega)).mono ?_; rintro e w' ⟨rfl, rfl⟩)
    all_goals go_ret
    all_goals exact ⟨rfl, rfl⟩

set_option maxHeartbeats 400000 in
theorem specShift (a b m x y p : Nat) (w : World) (ha : 1 ≤ a ∧ a ≤ 5) (hb : 1 ≤ b ∧ b ≤ 5) (hp : wrap64 (2 ^ (a * b)) = (p : Int)) (hp1 : p ≤ 33554432) (hm : m < p) (hx : x < a) (hy : y < b) :
    Calls Try.prog 9 #[.int .i64 a, .int .i64 b, .int .i64 m, .int .i64 x, .int .i64 y] w fun e w' => e = .returned (.int .i64 (smSum a b x y (smBits (a * b) m))) ∧ ∃ n, w' = w.drewN n := by
  obtain ⟨ha1, ha2⟩ := ha
  obtain ⟨hb1, hb2⟩ := hb
  have q0 : a * b ≤ 25 := Nat.mul_le_mul ha2 hb2
  have q1 : 0 ≤ (a : Int) * (b : Int) := by exact Int.mul_nonneg (by omega) (by omega)
  have q2 : (a : Int) * (b : Int) ≤ 25 := by exact_mod_cast q0
  go_enter Try.func9, Try.ntmps9
  go_wp2_with (first | (go_at_call 31; refine (l16Fine_yes _ _ _ (by omega) (by omega) (by omega) (by omega)).mono ?_; rintro e w' ⟨rfl, rfl⟩) | (go_at_call 32; refine (l1In_yes _ _ _ _ (by omega) (by omega)).mono ?_; rintro e w' ⟨rfl, rfl⟩))
  go_loopw [11, 12] (fun s i wr => ∃ k : Nat, k ≤ a * b ∧ i = .int .i64 k ∧ s = .int .i64 (smSum a b x y (smBits k m)) ∧ ∃ n, wr = w.drewN n) (fun _ i _ => a * b - (intOf i).toNat)
  case atStart => exact ⟨0, by omega, rfl, rfl, 0, rfl⟩
  case round =>
    obtain ⟨k, hk, rfl, rfl, n, rfl⟩ := hrel
    have q3 : (k : Int) ≤ (a : Int) * (b : Int) := by exact_mod_cast hk
    have hsb := smBits_succ k m
    have HSB := Lib.hid hsb
    clear hsb
    have hle := smSum_le (a := a) (b := b) (x := x) (y := y) (by omega) (by omega) q0 (smBits k m)
    have hlen := smBits_length_le k m
    by_cases hlt : k < a * b
    · have q4 : (k : Int) < (a : Int) * (b : Int) := by exact_mod_cast hlt
      by_cases hbit : m.testBit k = true
      · have hb1 : bits .and .i64 ((m : Int) / 2 ^ k) 1 = 1 := by rw [and_shr_one m k (by omega), if_pos hbit]
        have d0 : 0 ≤ (k : Int) / (a : Int) := Int.ediv_nonneg (by omega) (by omega)
        have d1 : (k : Int) / (a : Int) ≤ 25 := Int.le_trans (Int.ediv_le_self _ (by omega)) (by omega)
        have e0 : 0 ≤ ((k : Int) / (a : Int) + (y : Int)) % (b : Int) := Int.emod_nonneg _ (by omega)
        have e1 : ((k : Int) / (a : Int) + (y : Int)) % (b : Int) < (b : Int) := Int.emod_lt_of_pos _ (by omega)
        have g0 : 0 ≤ ((k : Int) / (a : Int) + (y : Int)) % (b : Int) * (a : Int) := Int.mul_nonneg e0 (by omega)
        have g1 : ((k : Int) / (a : Int) + (y : Int)) % (b : Int) * (a : Int) ≤ 20 := by
          have := Int.mul_le_mul (a := ((k : Int) / (a : Int) + (y : Int)) % (b : Int)) (b := (a : Int)) (c := 4) (d := 5) (by omega) (by omega) (by omega) (by omega)
          omega
        have r0 : 0 ≤ (k : Int) % (a : Int) := Int.emod_nonneg _ (by omega)
        have r1 : (k : Int) % (a : Int) < (a : Int) := Int.emod_lt_of_pos _ (by omega)
        have s0 : 0 ≤ ((k : Int) + (x : Int)) % (a : Int) := Int.emod_nonneg _ (by omega)
        have s1 : ((k : Int) + (x : Int)) % (a : Int) < (a : Int) := Int.emod_lt_of_pos _ (by omega)
        have hps : ((k : Int) / (a : Int) + (y : Int)) % (b : Int) * (a : Int) + ((k : Int) + (x : Int)) % (a : Int) = ((smPos a b x y k : Nat) : Int) := by simp [smPos]
        have hpl := smPos_lt (a := a) (b := b) (x := x) (y := y) (i := k) (by omega) (by omega)
        have a0 : ¬ a = 0 := by omega
        have b0 : ¬ b = 0 := by omega
        go_wp2
        have hv := wrap_add_pow (smSum a b x y (smBits k m)) (smPos a b x y k) (by omega) (by omega)
        have HV := Lib.hid hv
        clear hv
        go_big_quiet (fail)
        go_wp2
        go_roundw
        case rel => exact ⟨k + 1, by omega, by go_num, by rw [HV.out, HSB.out, if_pos hbit, smSum_snoc], _, rfl⟩
        case measure => simp [intOf]; omega
      · have hb1 : bits .and .i64 ((m : Int) / 2 ^ k) 1 = 0 := by rw [and_shr_one m k (by omega), if_neg hbit]
        go_wp2
        go_roundw
        case rel => exact ⟨k + 1, by omega, by go_num, by rw [HSB.out, if_neg hbit, List.append_nil], _, rfl⟩
        case measure => simp [intOf]; omega
    · obtain rfl : k = a * b := by omega
      go_wp2
      go_ret
      exact ⟨rfl, _, rfl⟩
end Go.Proofs.Ytijnkbilfmemcaa
