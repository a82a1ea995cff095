/- Scale2: when a shape may be drawn larger, its region, and the bounds of all numbers on the way; plain. -/
import Derived.Test.YtmpcmeeoiapbdaaGreatDoorScale1
namespace Go.Proofs.YtmpcmeeoiapbdaaGreatDoor
open Go.RowKit

theorem scRow_lt {k : Nat} (hk : 0 < k) {P : List Cl} (h : P.Nodup) (hp : ∀ c ∈ P, Pos c) (hx : ∀ c ∈ P, (c.x.toNat + 1) * k ≤ 6) (y : Nat) : scRow k P y < 64 := by
  refine Nat.lt_pow_two_of_testBit (n := 6) _ fun i hi => ?_
  rw [scRow_test k hk y i P h hp, List.any_eq_false]
  intro c hc hq
  simp only [Bool.and_eq_true, decide_eq_true_eq] at hq
  have h1 := hx c hc
  have h2 := (div_iff k i c.x.toNat hk).2 hq.2
  rw [Nat.add_mul] at h1
  omega
theorem pow_le6 {n : Nat} (h : n ≤ 6) : 2 ^ n ≤ 64 := Nat.pow_le_pow_right (by omega) h
theorem upTo2_le {s i : Nat} (h : s + i ≤ 6) : upTo2 s i ≤ 64 := by
  rw [upTo2_eq]
  have h1 : (2 ^ i - 1) * 2 ^ s ≤ 2 ^ i * 2 ^ s := Nat.mul_le_mul_right _ (Nat.sub_le _ _)
  rw [← Nat.pow_add] at h1
  exact Nat.le_trans h1 (pow_le6 (by omega))
theorem stS_le {k : Nat} (hk : 0 < k) {P : List Cl} (h : P.Nodup) (hp : ∀ c ∈ P, Pos c) (hx : ∀ c ∈ P, (c.x.toNat + 1) * k ≤ 6) {c : Cl} (hc : (c.x.toNat + 1) * k ≤ 6) {i j : Nat} (hi : i < k) (y : Nat) : stS k P c i j y ≤ 192 := by
  have h1 := scRow_lt hk h hp hx y
  rw [Nat.add_mul] at hc
  have h2 := upTo2_le (s := c.x.toNat * k) (i := i) (by omega)
  have h3 := pow_le6 (n := c.x.toNat * k + i) (by omega)
  unfold stS
  split
  · split <;> omega
  · omega
/-- Whether a shape may be drawn k times as large. -/
def scOk (l : List Cl) (k : Int) : Bool := decide (Shape l) && (decide (1 ≤ k) && decide (k ≤ 6)) && decide (sizeX l * k ≤ 6) && decide (sizeY l * k ≤ 6)
theorem scOk_iff {l : List Cl} {k : Int} : scOk l k = true ↔ Shape l ∧ (1 ≤ k ∧ k ≤ 6) ∧ sizeX l * k ≤ 6 ∧ sizeY l * k ≤ 6 := by
  unfold scOk
  simp only [Bool.and_eq_true, decide_eq_true_eq, and_assoc]
theorem corn_nodup {l : List Cl} (h : Shape l) : (cornL l).Nodup := by
  have ha := asc_cornL h.1.1
  unfold AscG at ha
  unfold List.Nodup
  refine ha.imp fun {a b} q e => ?_
  subst e
  rw [ltC_iff] at q
  omega
theorem corn_pos {l : List Cl} (h : Shape l) : ∀ c ∈ cornL l, Pos c := fun c hc => by
  have := cornL_in h hc
  unfold Pos
  omega
theorem corn_size {l : List Cl} (h : Shape l) : ∀ c ∈ cornL l, c.x + 1 ≤ sizeX l ∧ c.y + 1 ≤ sizeY l := by
  intro c hc
  obtain ⟨i, hi, rfl⟩ := List.mem_iff_getElem.1 hc
  unfold sizeX sizeY
  have e : cornS l = cornL l := by unfold cornS; rw [if_pos h]
  rw [e]
  exact ⟨maxTo_ge (f := Cl.x) _ (Nat.le_refl _) i hi hi, maxTo_ge (f := Cl.y) _ (Nat.le_refl _) i hi hi⟩
/-- The numbers of a cell of a shape that may be drawn larger. -/
theorem corn_room {l : List Cl} {k : Nat} (h : scOk l k = true) : ∀ c ∈ cornL l, (c.x.toNat + 1) * k ≤ 6 ∧ (c.y.toNat + 1) * k ≤ (sizeY l).toNat * k := by
  obtain ⟨hs, hk, hx, hy⟩ := scOk_iff.1 h
  intro c hc
  have h1 := corn_size hs c hc
  have h2 := cornL_in hs hc
  constructor
  · have e1 : c.x.toNat + 1 ≤ (sizeX l).toNat := by omega
    have e2 : (sizeX l).toNat * k ≤ 6 := by
      have hb := (size_bd l).1.1
      have : (((sizeX l).toNat * k : Nat) : Int) ≤ 6 := by rw [Int.natCast_mul, Int.toNat_of_nonneg hb]; exact hx
      omega
    exact Nat.le_trans (Nat.mul_le_mul_right k e1) e2
  · exact Nat.mul_le_mul_right k (by omega)
end Go.Proofs.YtmpcmeeoiapbdaaGreatDoor
