/- Srch0: all tilings out of some masks, in the order of the search; plain. -/
import Derived.Test.YtmpcmeeoiapbdaaGreatDoorLow0
namespace Go.Proofs.YtmpcmeeoiapbdaaGreatDoor
open Go.RowKit

/-- A mask has the least free cell and lies within what is free. -/
def fitsB (free : Nat) (v : Int) : Bool := v.toNat.testBit (lowB free) && decide (v.toNat &&& free = v.toNat)
theorem fitsB_def (free : Nat) (v : Int) : fitsB free v = (v.toNat.testBit (lowB free) && decide (v.toNat &&& free = v.toNat)) := rfl
def goS (A : List Int) (rec : Nat → List (List Int)) (free : Nat) : Nat → List (List Int)
  | 0 => []
  | i + 1 => goS A rec free i ++ (if fitsB free (A.getD i 0) = true then (rec (free - (A.getD i 0).toNat)).map (A.getD i 0 :: ·) else [])
/-- The tilings of what is free, the first mask at the least free cell; the first number bounds how deep the search goes. -/
def srchF (A : List Int) : Nat → Nat → List (List Int)
  | 0, free => if free = 0 then [[]] else []
  | f + 1, free => if free = 0 then [[]] else goS A (srchF A f) free A.length
theorem srchF_zero (A : List Int) (f : Nat) : srchF A f 0 = [[]] := by
  cases f <;> simp [srchF]
theorem srchF_pos (A : List Int) (f : Nat) {free : Nat} (h : free ≠ 0) : srchF A (f + 1) free = goS A (srchF A f) free A.length := by
  rw [srchF, if_neg h]
theorem goS_yes {A : List Int} {rec : Nat → List (List Int)} {free k : Nat} (hk : k < A.length) (h : fitsB free A[k] = true) : goS A rec free (k + 1) = goS A rec free k ++ (rec (free - A[k].toNat)).map (A[k] :: ·) := by
  rw [goS, getD_at A k hk, if_pos h]
theorem goS_no {A : List Int} {rec : Nat → List (List Int)} {free k : Nat} (hk : k < A.length) (h : fitsB free A[k] = false) : goS A rec free (k + 1) = goS A rec free k := by
  rw [goS, getD_at A k hk, if_neg (by rw [h]; simp), List.append_nil]
theorem goS_prefix (A : List Int) (rec : Nat → List (List Int)) (free : Nat) {k n : Nat} (h : k ≤ n) : ∃ t, goS A rec free n = goS A rec free k ++ t := by
  induction h with
  | refl => exact ⟨[], by rw [List.append_nil]⟩
  | step _ ih =>
    obtain ⟨t, ht⟩ := ih
    rw [goS, ht, List.append_assoc]
    exact ⟨_, rfl⟩
theorem goS_len (A : List Int) (rec : Nat → List (List Int)) (free : Nat) {k n : Nat} (h : k ≤ n) : (goS A rec free k).length ≤ (goS A rec free n).length := by
  obtain ⟨t, ht⟩ := goS_prefix A rec free h
  rw [ht, List.length_append]
  omega
theorem fits_sub {free u : Nat} (h : u &&& free = u) : u ≤ free := by
  rw [← h]
  exact Nat.and_le_right
end Go.Proofs.YtmpcmeeoiapbdaaGreatDoor
