/- Pack0: lists of masks that lie apart; plain. -/
import Derived.Test.YtmpcmeeoiapbdaaGreatDoorBlock0
namespace Go.Proofs.YtmpcmeeoiapbdaaGreatDoor
open Go.RowKit

def usedTo (l : List Int) : Nat → Nat
  | 0 => 0
  | k + 1 => usedTo l k ||| (l.getD k 0).toNat
def apStep (A l : List Int) (k : Nat) : Bool := decide (l.getD k 0 ∈ A) && (decide (usedTo l k &&& (l.getD k 0).toNat = 0) && (decide (k = 0) || decide (l.getD (k - 1) 0 < l.getD k 0)))
def apTo (A l : List Int) : Nat → Bool
  | 0 => true
  | k + 1 => apTo A l k && apStep A l k
/-- Masks of a list of placements, ascending, no two of them with a cell in common. -/
def apartL (A l : List Int) : Bool := apTo A l l.length
def packR (b : Int) (xs : List Int) (ps : List (List Cl)) (l : List Int) : Bool := decide (Reg b xs) && (decide (Pcs ps) && apartL (allL b.toNat xs ps) l)
theorem apTo_false {A l : List Int} {k n : Nat} (h : apTo A l k = false) (hk : k ≤ n) : apTo A l n = false := by
  induction hk with
  | refl => exact h
  | step _ ih => rw [apTo, ih]; rfl
theorem getD_at (l : List Int) (k : Nat) (h : k < l.length) : l.getD k 0 = l[k] := by
  simp [List.getD_eq_getElem?_getD, List.getElem?_eq_getElem h]
theorem apStep_at (A l : List Int) (k : Nat) (h : k < l.length) : apStep A l k = (decide (l[k] ∈ A) && (decide (usedTo l k &&& l[k].toNat = 0) && (decide (k = 0) || decide (l.getD (k - 1) 0 < l[k])))) := by
  rw [apStep, getD_at l k h]
theorem usedTo_at (l : List Int) (k : Nat) (h : k < l.length) : usedTo l k ||| l[k].toNat = usedTo l (k + 1) := by
  rw [usedTo, getD_at l k h]
end Go.Proofs.YtmpcmeeoiapbdaaGreatDoor
