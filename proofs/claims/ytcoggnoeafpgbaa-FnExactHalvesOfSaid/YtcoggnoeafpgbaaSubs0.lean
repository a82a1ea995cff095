/- Subs0: the parts of a mask, in rising order, as the program lists them; plain. -/
import Derived.Test.YtcoggnoeafpgbaaOnes0
namespace Go.Proofs.Ytcoggnoeafpgbaa
open Go.RowKit

/-- The parts of m's places below k. -/
def subL (m : Nat) : Nat → List Nat
  | 0 => [0]
  | k + 1 => if m.testBit k then subL m k ++ (subL m k).map (· ||| 2 ^ k) else subL m k
theorem subL_length (m : Nat) : ∀ k, (subL m k).length = 2 ^ (List.range k).countP fun i => m.testBit i
  | 0 => rfl
  | k + 1 => by
    rw [subL, List.range_succ, List.countP_append]
    cases h : m.testBit k
    · rw [if_neg (by decide), subL_length m k, List.countP_cons, List.countP_nil, h]
      rfl
    · rw [if_pos rfl, List.length_append, List.length_map, subL_length m k, List.countP_cons, List.countP_nil, h, if_pos rfl, Nat.zero_add, Nat.pow_succ]
      omega
theorem subL_lt (m : Nat) : ∀ k, ∀ v ∈ subL m k, v < 2 ^ k
  | 0, v, h => by
    rw [subL, List.mem_singleton] at h
    subst h
    decide
  | k + 1, v, h => by
    have hp : 2 ^ k < 2 ^ (k + 1) := Nat.pow_lt_pow_right (by decide) (Nat.lt_succ_self k)
    rw [subL] at h
    cases e : m.testBit k
    · rw [e, if_neg (by decide)] at h
      exact Nat.lt_trans (subL_lt m k v h) hp
    · rw [e, if_pos rfl, List.mem_append, List.mem_map] at h
      rcases h with h | ⟨u, hu, rfl⟩
      · exact Nat.lt_trans (subL_lt m k v h) hp
      · exact Nat.or_lt_two_pow (Nat.lt_trans (subL_lt m k u hu) hp) hp
theorem subL_sub (m : Nat) : ∀ k, ∀ v ∈ subL m k, ∀ i, v.testBit i = true → m.testBit i = true
  | 0, v, h, i, hi => by
    rw [subL, List.mem_singleton] at h
    subst h
    rw [Nat.zero_testBit] at hi
    cases hi
  | k + 1, v, h, i, hi => by
    rw [subL] at h
    cases e : m.testBit k
    · rw [e, if_neg (by decide)] at h
      exact subL_sub m k v h i hi
    · rw [e, if_pos rfl, List.mem_append, List.mem_map] at h
      rcases h with h | ⟨u, hu, rfl⟩
      · exact subL_sub m k v h i hi
      · rw [Nat.testBit_or, Nat.testBit_two_pow] at hi
        by_cases hk : k = i
        · subst hk; exact e
        · rw [decide_eq_false hk, Bool.or_false] at hi
          exact subL_sub m k u hu i hi
end Go.Proofs.Ytcoggnoeafpgbaa
