/- CylP0: the dominoes on a cylinder, as numbers, in the order in which they are met; plain. -/
import Derived.Test.YtgplpngphaaefaaDoorAllFrame
import Derived.Test.YtgplpngphaaefaaDoorAllBase
namespace Go.Proofs.YtgplpngphaaefaaDoor
open Go.RowKit

def cylCell (W N y x : Nat) : List Int := (if x + 1 < W then [((2 ^ (y * W + x) + 2 ^ (y * W + x + 1) : Nat) : Int)] else []) ++ [((2 ^ (y * W + x) + 2 ^ ((y + 1) % N * W + x) : Nat) : Int)]
def cylRow (W N y : Nat) : Nat → List Int
  | 0 => []
  | x + 1 => cylRow W N y x ++ cylCell W N y x
def cylAll (W N : Nat) : Nat → List Int
  | 0 => []
  | y + 1 => cylAll W N y ++ cylRow W N y W
def CylFine (a b : Int) : Prop := (1 ≤ a ∧ a ≤ 4) ∧ 3 ≤ b ∧ b ≤ 6
instance (a b : Int) : Decidable (CylFine a b) := by unfold CylFine; infer_instance
def cylL (a b : Int) : List Int := if CylFine a b then putAllG ltI (cylAll a.toNat b.toNat b.toNat) else []
theorem cylCell_length (W N y x : Nat) : (cylCell W N y x).length ≤ 2 := by unfold cylCell; split <;> simp
theorem cylRow_length (W N y : Nat) : ∀ x, (cylRow W N y x).length ≤ 2 * x := by
  intro x
  induction x with
  | zero => simp [cylRow]
  | succ x ih =>
    have := cylCell_length W N y x
    rw [cylRow, List.length_append]
    omega
theorem cylAll_length (W N : Nat) (hW : W ≤ 4) : ∀ y, (cylAll W N y).length ≤ 8 * y := by
  intro y
  induction y with
  | zero => simp [cylAll]
  | succ y ih =>
    have := cylRow_length W N y W
    rw [cylAll, List.length_append]
    omega
theorem cylL_length (a b : Int) : (cylL a b).length ≤ 48 := by
  unfold cylL
  split
  · rename_i h
    have h1 := putAllG_length (lt := ltI) (cylAll a.toNat b.toNat b.toNat)
    have h2 := cylAll_length a.toNat b.toNat (by have := h.1.2; omega) b.toNat
    have := h.2.2
    omega
  · simp
theorem w64 (x : Int) : IntKind.i64.wrap x = wrap64 x := IntWalk.i64_left x
theorem pow_le_30 {p : Nat} (h : p ≤ 30) : 2 ^ p ≤ 1073741824 := Nat.pow_le_pow_right (by decide) h
theorem wrap_pows {p q : Nat} (hp : p ≤ 30) (hq : q ≤ 30) : wrap64 (wrap64 ((2 : Int) ^ p) + wrap64 ((2 : Int) ^ q)) = ((2 ^ p + 2 ^ q : Nat) : Int) := by
  have h1 := pow_le_30 hp
  have h2 := pow_le_30 hq
  have e1 : ((2 : Int) ^ p) = ((2 ^ p : Nat) : Int) := by norm_cast
  have e2 : ((2 : Int) ^ q) = ((2 ^ q : Nat) : Int) := by norm_cast
  rw [e1, e2]
  generalize 2 ^ p = P at h1
  generalize 2 ^ q = Q at h2
  rw [IntWalk.wrap64_in (P : Int) (by omega), IntWalk.wrap64_in (Q : Int) (by omega), IntWalk.wrap64_in _ (by omega)]
  norm_cast
theorem or_pows {p q : Nat} (hp : p ≤ 30) (hq : q ≤ 30) (hne : p ≠ q) : bits .or .i64 (wrap64 ((2 : Int) ^ p)) (wrap64 ((2 : Int) ^ q)) = ((2 ^ p + 2 ^ q : Nat) : Int) := by
  have h1 := pow_le_30 hp
  have hb : (2 ^ p).testBit q = false := by rw [Nat.testBit_two_pow]; simp [hne]
  have h2 := or_pow (2 ^ p) q (by omega) (by omega)
  have e1 : ((2 : Int) ^ p) = ((2 ^ p : Nat) : Int) := by norm_cast
  rw [or_two_pow hb] at h2
  rw [e1]
  generalize 2 ^ p = P at h1 h2
  rw [IntWalk.wrap64_in (P : Int) (by omega), h2]
theorem three_pow {p : Nat} (hp : p ≤ 29) : wrap64 (3 * (2 : Int) ^ p) = ((2 ^ p + 2 ^ (p + 1) : Nat) : Int) := by
  have h1 := pow_le_30 (show p ≤ 30 by omega)
  have e1 : ((2 : Int) ^ p) = ((2 ^ p : Nat) : Int) := by norm_cast
  have e2 : 2 ^ (p + 1) = 2 * 2 ^ p := by rw [Nat.pow_succ]; omega
  rw [e1, e2]
  generalize 2 ^ p = P at h1
  rw [IntWalk.wrap64_in _ (by omega)]
  omega
/-- The two places of an upright domino. -/
theorem cyl_places {W N y x : Nat} (hW : W ≤ 4) (hN : 3 ≤ N ∧ N ≤ 6) (hy : y < N) (hx : x < W) :
    ∃ u v : Nat, u = y * W ∧ v = (y + 1) % N * W ∧ u + x ≤ 23 ∧ v + x ≤ 23 ∧ u + x ≠ v + x ∧ (y + 1) % N < N := by
  have h1 : (y + 1) % N < N := Nat.mod_lt _ (by omega)
  have h2 : y * W ≤ 5 * 4 := Nat.mul_le_mul (by omega) hW
  have h3 : (y + 1) % N * W ≤ 5 * 4 := Nat.mul_le_mul (by omega) hW
  refine ⟨_, _, rfl, rfl, by omega, by omega, ?_, h1⟩
  intro h
  have h4 : y * W = (y + 1) % N * W := by omega
  have h5 : y = (y + 1) % N := Nat.eq_of_mul_eq_mul_right (by omega) h4
  by_cases e : y + 1 = N
  · rw [e, Nat.mod_self] at h5; omega
  · rw [Nat.mod_eq_of_lt (by omega)] at h5; omega
end Go.Proofs.YtgplpngphaaefaaDoor
