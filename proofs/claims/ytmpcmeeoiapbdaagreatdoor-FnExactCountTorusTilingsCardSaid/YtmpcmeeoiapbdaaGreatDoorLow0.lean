/- Low0: the least bit of a number; lists of masks, ordered by their least bits, that lie apart; plain. -/
import Derived.Lib.TrailingZeros
import Derived.Test.YtmpcmeeoiapbdaaGreatDoorPack0
namespace Go.Proofs.YtmpcmeeoiapbdaaGreatDoor
open Go.RowKit

/-- The place of the least bit. -/
def lowB (m : Nat) : Nat := Lib.ctz 64 m
theorem low_form {m : Nat} (h0 : 0 < m) (hm : m < 18446744073709551616) : ∃ q, m = (2 * q + 1) * 2 ^ lowB m ∧ lowB m < 64 := by
  obtain ⟨q, hq, hk⟩ := Lib.ctzFrom_spec 64 m h0 hm
  have hl : lowB m = Lib.ctzFrom 64 m := by unfold lowB Lib.ctz; rw [if_neg (by omega)]
  rw [hl]
  exact ⟨q, by rw [Nat.mul_comm]; exact hq, hk⟩
theorem low_bit {m : Nat} (h0 : 0 < m) (hm : m < 18446744073709551616) : m.testBit (lowB m) = true := by
  obtain ⟨q, hq, _⟩ := low_form h0 hm
  generalize lowB m = k at hq
  rw [hq, Nat.testBit_mul_two_pow]
  simp
theorem low_below {m i : Nat} (h0 : 0 < m) (hm : m < 18446744073709551616) (hi : i < lowB m) : m.testBit i = false := by
  obtain ⟨q, hq, _⟩ := low_form h0 hm
  generalize lowB m = k at hq hi
  rw [hq, Nat.testBit_mul_two_pow, decide_eq_false (by omega), Bool.false_and]
theorem low_lt {m : Nat} (h0 : 0 < m) (hm : m < 18446744073709551616) : lowB m < 64 := by
  obtain ⟨_, _, h⟩ := low_form h0 hm
  exact h
/-- A mask that is some cells of a small board: not empty. -/
def Mk (v : Int) : Prop := 0 < v ∧ v < 68719476736
def covStep (A l : List Int) (k : Nat) : Bool := decide (l.getD k 0 ∈ A) && (decide (usedTo l k &&& (l.getD k 0).toNat = 0) && (decide (k = 0) || decide (lowB (l.getD (k - 1) 0).toNat < lowB (l.getD k 0).toNat)))
def covTo (A l : List Int) : Nat → Bool
  | 0 => true
  | k + 1 => covTo A l k && covStep A l k
/-- Masks of a list of placements, ordered by their least bits, that have each of some cells once. -/
def covL (A : List Int) (n1 : Nat) (l : List Int) : Bool := covTo A l l.length && decide (usedTo l l.length = n1)
theorem covTo_false {A l : List Int} {k n : Nat} (h : covTo A l k = false) (hk : k ≤ n) : covTo A l n = false := by
  induction hk with
  | refl => exact h
  | step _ ih => rw [covTo, ih]; rfl
theorem covStep_at (A l : List Int) (k : Nat) (h : k < l.length) : covStep A l k = (decide (l[k] ∈ A) && (decide (usedTo l k &&& l[k].toNat = 0) && (decide (k = 0) || decide (lowB (l.getD (k - 1) 0).toNat < lowB l[k].toNat)))) := by
  rw [covStep, getD_at l k h]
/-- The mask ahead of a round's is a placement, and what it has is used. -/
theorem cov_prev {A l : List Int} {j : Nat} (h : covTo A l (j + 1) = true) (hj : j < l.length) : l[j] ∈ A ∧ ∀ i, l[j].toNat.testBit i = true → (usedTo l (j + 1)).testBit i = true := by
  rw [covTo, covStep_at A l j hj] at h
  simp only [Bool.and_eq_true, decide_eq_true_eq] at h
  refine ⟨h.2.1, fun i hi => ?_⟩
  rw [← usedTo_at l j hj, Nat.testBit_or, hi, Bool.or_true]
theorem low_ne {U p u : Nat} (hp0 : 0 < p) (hp : p < 18446744073709551616) (hu0 : 0 < u) (hu : u < 18446744073709551616) (hin : ∀ i, p.testBit i = true → U.testBit i = true) (h : U &&& u = 0) : lowB p ≠ lowB u := fun e => by
  have h1 := hin _ (low_bit hp0 hp)
  have h2 := low_bit hu0 hu
  rw [← e] at h2
  have h3 : (U &&& u).testBit (lowB p) = true := by rw [Nat.testBit_and, h1, h2]; rfl
  rw [h] at h3
  simp at h3
end Go.Proofs.YtmpcmeeoiapbdaaGreatDoor
