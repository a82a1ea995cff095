/- OnesP: the sum of the bits of a small number is the count of its set places; plain. -/
import Derived.Test.YtcoggnoeafpgbaaOnes0
namespace Go.Proofs.Ytcoggnoeafpgbaa
open Go.RowKit

theorem digS_countP : ∀ n x : Nat, digS 1 n x = (List.range n).countP fun i => x.testBit i
  | 0, _ => rfl
  | n + 1, x => by
    rw [digS, digS_countP n, List.range_succ_eq_map, List.countP_cons, List.countP_map, Nat.add_comm]
    have e : ((fun i => x.testBit i) ∘ Nat.succ) = fun i => (x / 2 ^ 1).testBit i := by
      funext i
      show x.testBit (i + 1) = _
      rw [Nat.testBit_succ, Nat.pow_one]
    rw [e]
    congr 1
    rw [Nat.testBit_zero, Nat.pow_one]
    rcases Nat.mod_two_eq_zero_or_one x with h | h
    · rw [h]; rfl
    · rw [h]; rfl
theorem digS_small {x : Nat} (h : x < 2 ^ 36) : digS 1 64 x = (List.range 36).countP fun i => x.testBit i := by
  rw [digS_countP, show 64 = 36 + 28 from rfl, List.range_add, List.countP_append]
  have e : ((List.range 28).map (36 + ·)).countP (fun i => x.testBit i) = 0 := by
    rw [List.countP_eq_zero]
    intro i hi
    obtain ⟨k, _, rfl⟩ := List.mem_map.1 hi
    rw [Nat.testBit_lt_two_pow (Nat.lt_of_lt_of_le h (Nat.pow_le_pow_right (by decide) (Nat.le_add_right _ _)))]
    decide
  rw [e, Nat.add_zero]
end Go.Proofs.Ytcoggnoeafpgbaa
