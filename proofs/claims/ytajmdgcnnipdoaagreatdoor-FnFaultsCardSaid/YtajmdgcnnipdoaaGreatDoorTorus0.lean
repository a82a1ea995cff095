/- Torus0: the masks of a shape's turned copies on a torus, as numbers; plain. -/
import Derived.Test.YtajmdgcnnipdoaaGreatDoorAllReg
import Derived.Test.YtajmdgcnnipdoaaGreatDoorAllBase
namespace Go.Proofs.YtajmdgcnnipdoaaGreatDoor
open Go.RowKit

def tbit (W H a : Nat) (c : Cl) : Nat := (c.y.toNat + a / W) % H * W + (c.x.toNat + a % W) % W
theorem tbit_lt {W H a : Nat} {c : Cl} (hW : 0 < W) (hH : 0 < H) : tbit W H a c < W * H := by
  unfold tbit
  have h1 := Nat.mod_lt (c.x.toNat + a % W) hW
  have h2 : (c.y.toNat + a / W) % H + 1 ≤ H := Nat.mod_lt _ hH
  have h3 := Nat.mul_le_mul_left W h2
  rw [Nat.mul_add, Nat.mul_one, Nat.mul_comm] at h3
  omega
def torStep (W H a : Nat) (s : Nat × Bool) (c : Cl) : Nat × Bool := (s.1 ||| 2 ^ tbit W H a c, s.2 && !s.1.testBit (tbit W H a c))
def torS (W H a : Nat) (P : List Cl) : Nat × Bool := P.foldl (torStep W H a) (0, true)
theorem torS_take (W H a : Nat) (t : List Cl) (k : Nat) (hk : k < t.length) : torS W H a (t.take (k + 1)) = torStep W H a (torS W H a (t.take k)) t[k] := by
  unfold torS
  rw [List.take_succ_eq_append_getElem hk, List.foldl_append]
  rfl
theorem torS_lt {W H a : Nat} (hW : 0 < W) (hH : 0 < H) (P : List Cl) : (torS W H a P).1 < 2 ^ (W * H) := by
  have h : ∀ (P : List Cl) (s : Nat × Bool), s.1 < 2 ^ (W * H) → (P.foldl (torStep W H a) s).1 < 2 ^ (W * H) := by
    intro P
    induction P with
    | nil => intro s h; exact h
    | cons c P ih =>
      intro s h
      rw [List.foldl_cons]
      refine ih _ ?_
      unfold torStep
      exact Nat.or_lt_two_pow h (Nat.pow_lt_pow_right (by omega) (tbit_lt hW hH))
  exact h P _ (Nat.two_pow_pos _)
def torOne (W H : Nat) (t : List Cl) (a : Nat) : List Int := if (torS W H a t).2 = true then [(((torS W H a t).1 : Nat) : Int)] else []
def torRow (W H : Nat) (t : List Cl) : Nat → List Int
  | 0 => []
  | a + 1 => torRow W H t a ++ torOne W H t a
def torTo (W H : Nat) (rows : List (List Cl)) : Nat → List Int
  | 0 => []
  | i + 1 => torTo W H rows i ++ torRow W H (rows.getD i default) (W * H)
theorem torRow_length (W H : Nat) (t : List Cl) : ∀ a, (torRow W H t a).length ≤ a
  | 0 => Nat.le_refl _
  | a + 1 => by
    have h := torRow_length W H t a
    unfold torRow torOne
    rw [List.length_append]
    split
    · simp; omega
    · simp; omega
theorem torTo_length (W H : Nat) (hWH : W * H ≤ 25) (rows : List (List Cl)) : ∀ i, (torTo W H rows i).length ≤ i * 25
  | 0 => Nat.le_refl _
  | i + 1 => by
    have h := torTo_length W H hWH rows i
    have h2 := torRow_length W H (rows.getD i default) (W * H)
    unfold torTo
    rw [List.length_append]
    omega
def torL (w h : Int) (l : List Cl) : List Int := if (1 ≤ w ∧ w ≤ 5) ∧ 1 ≤ h ∧ h ≤ 5 then putAllG ltI (torTo w.toNat h.toNat (orientL l) (orientL l).length) else []
theorem torL_length (w h : Int) (l : List Cl) : (torL w h l).length ≤ 200 := by
  unfold torL
  split
  · rename_i q
    have h1 := putAllG_length (lt := ltI) (torTo w.toNat h.toNat (orientL l) (orientL l).length)
    have h0 : w.toNat * h.toNat ≤ 25 := Nat.mul_le_mul (show w.toNat ≤ 5 by omega) (show h.toNat ≤ 5 by omega)
    have h2 := torTo_length w.toNat h.toNat h0 (orientL l) (orientL l).length
    have h3 := orientL_length l
    omega
  · simp
theorem and_pow_ne {M b : Nat} (h : M.testBit b = true) : M &&& 2 ^ b ≠ 0 := fun e => by
  have h1 : (M &&& 2 ^ b).testBit b = true := by rw [Nat.testBit_and, h, Nat.testBit_two_pow_self]; rfl
  rw [e] at h1
  simp at h1
/-- All numbers on the way to a cell's bit. -/
theorem tor_nums {W H a : Nat} {X Y : Nat} (hW : 1 ≤ W ∧ W ≤ 5) (hH : 1 ≤ H ∧ H ≤ 5) (ha : a < W * H) (hX : X ≤ 7) (hY : Y ≤ 7) :
    ∃ q r s1 s2 s3 s4 s5 b : Nat, b = tbit W H a ⟨(X : Int), (Y : Int)⟩ ∧ b ≤ 24 ∧ q ≤ 25 ∧ r ≤ 5 ∧ s1 ≤ 40 ∧ s2 ≤ 5 ∧ s3 ≤ 25 ∧ s4 ≤ 20 ∧ s5 ≤ 5 ∧
      (a : Int) / (W : Int) = (q : Int) ∧ (a : Int) % (W : Int) = (r : Int) ∧ (Y : Int) + (q : Int) = (s1 : Int) ∧ (s1 : Int) % (H : Int) = (s2 : Int) ∧ (s2 : Int) * (W : Int) = (s3 : Int) ∧
      (X : Int) + (r : Int) = (s4 : Int) ∧ (s4 : Int) % (W : Int) = (s5 : Int) ∧ (s3 : Int) + (s5 : Int) = (b : Int) := by
  have hWH : W * H ≤ 25 := Nat.mul_le_mul hW.2 hH.2
  have hb : tbit W H a ⟨(X : Int), (Y : Int)⟩ = (Y + a / W) % H * W + (X + a % W) % W := rfl
  have h1 : tbit W H a ⟨(X : Int), (Y : Int)⟩ < W * H := tbit_lt (by omega) (by omega)
  have hq : a / W ≤ a := Nat.div_le_self a W
  have hr : a % W < W := Nat.mod_lt _ (by omega)
  have h2 : (Y + a / W) % H < H := Nat.mod_lt _ (by omega)
  have h5 : (X + a % W) % W < W := Nat.mod_lt _ (by omega)
  have h3 : (Y + a / W) % H * W ≤ 4 * 5 := Nat.mul_le_mul (by omega) hW.2
  refine ⟨a / W, a % W, Y + a / W, (Y + a / W) % H, (Y + a / W) % H * W, X + a % W, (X + a % W) % W, _, rfl, by omega, by omega, by omega, by omega, by omega, by omega, by omega, by omega, ?_, ?_, ?_, ?_, ?_, ?_, ?_, ?_⟩
  · norm_cast
  · norm_cast
  · norm_cast
  · norm_cast
  · norm_cast
  · norm_cast
  · norm_cast
  · rw [hb]; norm_cast
end Go.Proofs.YtajmdgcnnipdoaaGreatDoor
