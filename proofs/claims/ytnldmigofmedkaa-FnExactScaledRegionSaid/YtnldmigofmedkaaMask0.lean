/- Mask0: the mask of a region's cells, as a number; what is left of it behind some masks; plain. -/
import Derived.Test.YtnldmigofmedkaaRegH
namespace Go.Proofs.Ytnldmigofmedkaa
open Go.RowKit

/-- The rows as numbers. -/
def regN (xs : List Int) : List Nat := xs.map Int.toNat
theorem regN_length (xs : List Int) : (regN xs).length = xs.length := by simp [regN]
def maskTo (W : Nat) (ns : List Nat) : Nat → Nat
  | 0 => 0
  | k + 1 => maskTo W ns k + ns.getD k 0 * 2 ^ (k * W)
theorem maskTo_lt {W : Nat} {ns : List Nat} (h : ∀ x ∈ ns, x < 2 ^ W) : ∀ k, k ≤ ns.length → maskTo W ns k < 2 ^ (k * W) := by
  intro k
  induction k with
  | zero => intro _; simp [maskTo]
  | succ k ih =>
    intro hk
    have h1 := ih (by omega)
    have h2 : ns.getD k 0 < 2 ^ W := by
      rw [List.getD_eq_getElem?_getD, List.getElem?_eq_getElem (by omega)]
      exact h _ (List.getElem_mem _)
    rw [maskTo, Nat.succ_mul, Nat.pow_add]
    have h3 : (ns.getD k 0 + 1) * 2 ^ (k * W) ≤ 2 ^ W * 2 ^ (k * W) := Nat.mul_le_mul_right _ h2
    rw [Nat.succ_mul] at h3
    rw [Nat.mul_comm (2 ^ (k * W))]
    omega
theorem maskTo_or {W : Nat} {ns : List Nat} (h : ∀ x ∈ ns, x < 2 ^ W) {k : Nat} (hk : k ≤ ns.length) : maskTo W ns k ||| ns.getD k 0 * 2 ^ (k * W) = maskTo W ns (k + 1) := by
  have h1 := maskTo_lt h k hk
  have h2 := Nat.shiftLeft_add_eq_or_of_lt h1 (ns.getD k 0)
  rw [Nat.shiftLeft_eq] at h2
  rw [maskTo, Nat.or_comm, ← h2, Nat.add_comm]
/-- The mask of all cells. -/
def regMask (b : Int) (xs : List Int) : Nat := maskTo b.toNat (regN xs) xs.length
theorem reg_nat {b : Int} {xs : List Int} (h : Reg b xs) : ∀ x ∈ regN xs, x < 2 ^ b.toNat := by
  intro x hx
  simp only [regN, List.mem_map] at hx
  obtain ⟨y, hy, rfl⟩ := hx
  obtain ⟨h1, h2⟩ := h.2.2 y hy
  have : ((2 : Int) ^ b.toNat) = ((2 ^ b.toNat : Nat) : Int) := by norm_cast
  rw [this] at h2
  omega
theorem regMask_lt {b : Int} {xs : List Int} (h : Reg b xs) : regMask b xs < 2 ^ 36 := by
  have h1 := maskTo_lt (reg_nat h) xs.length (by rw [regN_length]; exact Nat.le_refl _)
  have h2 : xs.length * b.toNat ≤ 6 * 6 := Nat.mul_le_mul h.2.1.2 (by have := h.1.2; omega)
  exact Nat.lt_of_lt_of_le h1 (Nat.pow_le_pow_right (by decide) h2)
/-- What is left of a mask behind one mask. -/
def takeOff (m : Nat) (x : Int) : Nat := if 0 ≤ x then m - (m &&& x.toNat) else m
theorem takeOff_le (m : Nat) (x : Int) : takeOff m x ≤ m := by unfold takeOff; split <;> omega
def holesTo (m : Nat) (ls : List Int) : Nat → Nat
  | 0 => m
  | k + 1 => takeOff (holesTo m ls k) (ls.getD k 0)
theorem holesTo_le (m : Nat) (ls : List Int) : ∀ k, holesTo m ls k ≤ m := by
  intro k
  induction k with
  | zero => exact Nat.le_refl _
  | succ k ih => exact Nat.le_trans (takeOff_le _ _) ih
def holesLeft (b : Int) (xs ls : List Int) : Int := if Reg b xs then (holesTo (regMask b xs) ls ls.length : Nat) else -1
end Go.Proofs.Ytnldmigofmedkaa
