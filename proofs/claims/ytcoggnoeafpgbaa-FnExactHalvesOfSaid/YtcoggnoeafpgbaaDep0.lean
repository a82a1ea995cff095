/- Dep0: the parts of a mask by their codes; plain. -/
import Derived.Test.YtcoggnoeafpgbaaArea0
import Derived.Test.YtcoggnoeafpgbaaSubs0
namespace Go.Proofs.Ytcoggnoeafpgbaa
open Go.RowKit

/-- The part of some places that a code says. -/
def depTo (ps : List Nat) (code : Nat) : Nat → Nat
  | 0 => 0
  | j + 1 => depTo ps code j + if code.testBit j then 2 ^ ps.getD j 0 else 0
def cntC (code : Nat) : Nat → Nat
  | 0 => 0
  | j + 1 => cntC code j + if code.testBit j then 1 else 0
theorem cntC_le (code : Nat) : ∀ j, cntC code j ≤ j
  | 0 => Nat.le_refl _
  | j + 1 => by
    have := cntC_le code j
    rw [cntC]
    split <;> omega
theorem depTo_append {ps qs : List Nat} {code : Nat} : ∀ j, j ≤ ps.length → depTo (ps ++ qs) code j = depTo ps code j
  | 0, _ => rfl
  | j + 1, h => by
    rw [depTo, depTo, depTo_append j (by omega)]
    rw [List.getD_eq_getElem?_getD, List.getElem?_append_left (by omega), List.getD_eq_getElem?_getD]
theorem depTo_congr {ps : List Nat} {a b : Nat} : ∀ j, (∀ i, i < j → a.testBit i = b.testBit i) → depTo ps a j = depTo ps b j
  | 0, _ => rfl
  | j + 1, h => by rw [depTo, depTo, depTo_congr j (fun i hi => h i (by omega)), h j (by omega)]
theorem subL_dep (m : Nat) : ∀ K code, code < (subL m K).length → (subL m K).getD code 0 = depTo (smBits K m) code (smBits K m).length ∧ (subL m K).length = 2 ^ (smBits K m).length
  | 0, code, h => by
    rw [subL, List.length_singleton] at h
    obtain rfl : code = 0 := by omega
    exact ⟨rfl, rfl⟩
  | K + 1, code, h => by
    have hpos : 0 < (subL m K).length := by rw [subL_length]; exact Nat.two_pow_pos _
    have hlen := (subL_dep m K 0 hpos).2
    rw [smBits_succ]
    rw [subL] at h ⊢
    cases hb : m.testBit K with
    | false =>
      rw [hb, if_neg (by decide)] at h
      rw [if_neg (by decide), if_neg (by decide), List.append_nil]
      exact subL_dep m K code h
    | true =>
      rw [hb, if_pos rfl, List.length_append, List.length_map] at h
      rw [if_pos rfl, if_pos rfl, List.length_append, List.length_append, List.length_map, List.length_singleton, Nat.pow_succ, depTo, depTo_append _ (Nat.le_refl _)]
      rw [show (smBits K m ++ [K]).getD (smBits K m).length 0 = K by simp [List.getD_eq_getElem?_getD]]
      refine ⟨?_, by omega⟩
      by_cases hc : code < (subL m K).length
      · have h2 := (subL_dep m K code hc).1
        rw [List.getD_eq_getElem?_getD, List.getElem?_append_left hc, ← List.getD_eq_getElem?_getD, h2, Nat.testBit_lt_two_pow (by omega), if_neg (by decide), Nat.add_zero]
      · obtain ⟨r, hr⟩ : ∃ r, code = 2 ^ (smBits K m).length + r := ⟨code - 2 ^ (smBits K m).length, by omega⟩
        have hrl : r < (subL m K).length := by omega
        have h2 := (subL_dep m K r hrl).1
        have hbit : code.testBit (smBits K m).length = true := by
          rw [hr, Nat.testBit_two_pow_add_eq, Nat.testBit_lt_two_pow (by omega)]
          rfl
        have hdep : depTo (smBits K m) code (smBits K m).length = depTo (smBits K m) r (smBits K m).length := by
          refine depTo_congr _ fun i hi => ?_
          rw [hr, Nat.testBit_two_pow_add_gt hi]
        rw [hbit, if_pos rfl, hdep, ← h2]
        rw [List.getD_eq_getElem?_getD, List.getElem?_append_right (by omega), show code - (subL m K).length = r by omega, List.getElem?_map, List.getElem?_eq_getElem hrl, List.getD_eq_getElem?_getD, List.getElem?_eq_getElem hrl]
        show (subL m K)[r] ||| 2 ^ K = (subL m K)[r] + 2 ^ K
        exact or_two_pow (Nat.testBit_lt_two_pow (subL_lt m K _ (List.getElem_mem hrl)))
theorem depTo_lt {ps : List Nat} (hp : ps.Pairwise (· < ·)) (code : Nat) : ∀ j, j ≤ ps.length → ∀ b, (∀ i, i < j → ps.getD i 0 < b) → depTo ps code j < 2 ^ b
  | 0, _, b, _ => Nat.two_pow_pos b
  | j + 1, h, b, hb => by
    have hj : j < ps.length := by omega
    have e : ps.getD j 0 = ps[j] := by simp [List.getD_eq_getElem?_getD, hj]
    have h1 := depTo_lt hp code j (by omega) (ps.getD j 0) (fun i hi => by
      rw [e, List.getD_eq_getElem?_getD, List.getElem?_eq_getElem (by omega)]
      exact (List.pairwise_iff_getElem.1 hp) i j (by omega) hj hi)
    have h2 := hb j (Nat.lt_succ_self j)
    have h3 : 2 ^ (ps.getD j 0 + 1) ≤ 2 ^ b := Nat.pow_le_pow_right (by decide) h2
    rw [Nat.pow_succ] at h3
    rw [depTo]
    split <;> omega
theorem depTo_pc {ps : List Nat} (hp : ps.Pairwise (· < ·)) (h36 : ∀ p ∈ ps, p < 36) (code : Nat) : ∀ j, j ≤ ps.length → pc (depTo ps code j) = cntC code j
  | 0, _ => pc_zero
  | j + 1, h => by
    have hj : j < ps.length := by omega
    have e : ps.getD j 0 = ps[j] := by simp [List.getD_eq_getElem?_getD, hj]
    have h1 := depTo_lt hp code j (by omega) (ps.getD j 0) (fun i hi => by
      rw [e, List.getD_eq_getElem?_getD, List.getElem?_eq_getElem (by omega)]
      exact (List.pairwise_iff_getElem.1 hp) i j (by omega) hj hi)
    have ih := depTo_pc hp h36 code j (by omega)
    rw [depTo, cntC]
    cases hb : code.testBit j with
    | false => rw [if_neg (by decide), if_neg (by decide), Nat.add_zero, ih, Nat.add_zero]
    | true =>
      rw [if_pos rfl, if_pos rfl, pc_add (Nat.testBit_lt_two_pow h1) (by rw [e]; exact h36 _ (List.getElem_mem hj)), ih]
theorem smBits_asc (n m : Nat) : (smBits n m).Pairwise (· < ·) := List.Pairwise.filter _ List.pairwise_lt_range

theorem subL_stop {m k : Nat} (h : m < 2 ^ k) : ∀ n, k ≤ n → subL m n = subL m k := by
  intro n
  induction n with
  | zero => intro hk; rw [show k = 0 by omega]
  | succ n ih =>
    intro hk
    by_cases e : k = n + 1
    · rw [e]
    · rw [subL, Nat.testBit_lt_two_pow (Nat.lt_of_lt_of_le h (Nat.pow_le_pow_right (by decide) (by omega : k ≤ n))), if_neg (by decide)]
      exact ih (by omega)
end Go.Proofs.Ytcoggnoeafpgbaa
