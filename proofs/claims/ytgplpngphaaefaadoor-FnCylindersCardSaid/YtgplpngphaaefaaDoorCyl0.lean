/- Cyl0: traces of powers of the transfer matrices are not negative; tables of them; plain. -/
import Derived.Test.YtgplpngphaaefaaDoorMat0
import Derived.IntWalk
namespace Go.Proofs.YtgplpngphaaefaaDoor
open Go.RowKit

/-- All numbers lie in 0 .. c. -/
def Bd (A : List (List Int)) (c : Nat) : Prop := ∀ i j, 0 ≤ (A.getD i []).getD j 0 ∧ (A.getD i []).getD j 0 ≤ (c : Int)
def allIn (A : List (List Int)) : Bool := A.all fun r => r.all fun x => decide (0 ≤ x) && decide (x ≤ 1)
theorem trans_in : ∀ w, w < 5 → allIn (transM w) = true := by decide +kernel
theorem bd_of_all {A : List (List Int)} (h : allIn A = true) : Bd A 1 := by
  intro i j
  unfold allIn at h
  rw [List.all_eq_true] at h
  by_cases hi : i < A.length
  · have h1 := h A[i] (List.getElem_mem _)
    rw [List.all_eq_true] at h1
    have e : A.getD i [] = A[i] := by simp [List.getD_eq_getElem?_getD, hi]
    rw [e]
    by_cases hj : j < A[i].length
    · have h2 := h1 A[i][j] (List.getElem_mem _)
      have e2 : A[i].getD j 0 = A[i][j] := by simp [List.getD_eq_getElem?_getD, hj]
      rw [e2]
      simpa using h2
    · have e2 : A[i].getD j 0 = 0 := by simp [List.getD_eq_getElem?_getD, List.getElem?_eq_none (Nat.le_of_not_lt hj)]
      rw [e2]
      omega
  · have e : A.getD i [] = [] := by simp [List.getD_eq_getElem?_getD, List.getElem?_eq_none (Nat.le_of_not_lt hi)]
    rw [e]
    simp
theorem dotTo_bd {a : List Int} {B : List (List Int)} {c k : Nat} (hc : c ≤ 281474976710656) (ha : ∀ j, 0 ≤ a.getD j 0 ∧ a.getD j 0 ≤ (c : Int)) (hB : Bd B 1) : ∀ m, m ≤ 16 → 0 ≤ dotTo a B k m ∧ dotTo a B k m ≤ (m : Int) * (c : Int) := by
  intro m
  induction m with
  | zero => intro _; simp [dotTo]
  | succ m ih =>
    intro hm
    obtain ⟨h1, h2⟩ := ih (by omega)
    obtain ⟨a1, a2⟩ := ha m
    obtain ⟨b1, b2⟩ := hB m k
    have hcm : (m : Int) * (c : Int) ≤ 16 * 281474976710656 := Int.mul_le_mul (by omega) (by omega) (by omega) (by omega)
    have hs : ((m + 1 : Nat) : Int) * (c : Int) = (m : Int) * (c : Int) + (c : Int) := by rw [Int.natCast_add, Int.add_mul]; simp
    rw [dotTo, hs]
    have hb : (B.getD m []).getD k 0 = 0 ∨ (B.getD m []).getD k 0 = 1 := by omega
    rcases hb with hb | hb
    · rw [hb, Int.mul_zero, IntWalk.wrap64_in 0 (by omega), IntWalk.wrap64_in _ (by omega)]
      omega
    · rw [hb, Int.mul_one, IntWalk.wrap64_in (a.getD m 0) (by omega), IntWalk.wrap64_in _ (by omega)]
      omega
theorem mulM_bd {A B : List (List Int)} {c n : Nat} (hc : c ≤ 281474976710656) (hn : n ≤ 16) (hA : Bd A c) (hB : Bd B 1) : Bd (mulM A B n) (16 * c) := by
  intro i j
  by_cases hi : i < A.length
  · have e : (mulM A B n).getD i [] = mulRow A[i] B n := by simp [mulM, List.getD_eq_getElem?_getD, hi]
    rw [e]
    by_cases hj : j < n
    · have e2 : (mulRow A[i] B n).getD j 0 = dotTo A[i] B j n := by simp [mulRow, List.getD_eq_getElem?_getD, hj]
      rw [e2]
      have hr : ∀ j, 0 ≤ A[i].getD j 0 ∧ A[i].getD j 0 ≤ (c : Int) := by
        intro j
        have := hA i j
        have e : A.getD i [] = A[i] := by simp [List.getD_eq_getElem?_getD, hi]
        rwa [e] at this
      obtain ⟨h1, h2⟩ := dotTo_bd (k := j) hc hr hB n hn
      have : (n : Int) * (c : Int) ≤ 16 * (c : Int) := Int.mul_le_mul (by omega) (Int.le_refl _) (by omega) (by omega)
      omega
    · have e2 : (mulRow A[i] B n).getD j 0 = 0 := by simp [mulRow, List.getD_eq_getElem?_getD, Nat.le_of_not_lt hj]
      rw [e2]; omega
  · have e : (mulM A B n).getD i [] = [] := by simp [mulM, List.getD_eq_getElem?_getD, Nat.le_of_not_lt hi]
    rw [e]; simp; omega
theorem powM_bd {M : List (List Int)} {k : Nat} (hk : k ≤ 16) (h : Bd M 1) : ∀ n, n ≤ 11 → Bd (powM M k n) (16 ^ n) := by
  intro n
  induction n with
  | zero => intro _; exact h
  | succ n ih =>
    intro hn
    have h16 : 16 ^ n ≤ 16 ^ 12 := Nat.pow_le_pow_right (by decide) (by omega)
    have := mulM_bd (A := powM M k n) (B := M) (c := 16 ^ n) (n := k) (by omega) hk (ih (by omega)) h
    rw [powM, Nat.pow_succ, Nat.mul_comm]
    exact this
theorem traceTo_bd {A : List (List Int)} {c : Nat} (hc : c ≤ 281474976710656) (hA : Bd A c) : ∀ m, m ≤ 16 → 0 ≤ traceTo A m ∧ traceTo A m ≤ (m : Int) * (c : Int) := by
  intro m
  induction m with
  | zero => intro _; simp [traceTo]
  | succ m ih =>
    intro hm
    obtain ⟨h1, h2⟩ := ih (by omega)
    obtain ⟨a1, a2⟩ := hA m m
    have hcm : (m : Int) * (c : Int) ≤ 16 * 281474976710656 := Int.mul_le_mul (by omega) (by omega) (by omega) (by omega)
    have hs : ((m + 1 : Nat) : Int) * (c : Int) = (m : Int) * (c : Int) + (c : Int) := by rw [Int.natCast_add, Int.add_mul]; simp
    rw [traceTo, hs, IntWalk.wrap64_in _ (by omega)]
    omega
theorem pow4 {w : Nat} (h : w ≤ 4) : 2 ^ w ≤ 16 := Nat.pow_le_pow_right (by decide) h
theorem cylV_nonneg {w n : Nat} (hw : w ≤ 4) (hn : n ≤ 12) : 0 ≤ cylV w n := by
  have h16 : 16 ^ (n - 1) ≤ 16 ^ 11 := Nat.pow_le_pow_right (by decide) (by omega)
  exact (traceTo_bd (c := 16 ^ (n - 1)) (by omega) (powM_bd (pow4 hw) (bd_of_all (trans_in w (by omega))) (n - 1) (by omega)) _ (pow4 hw)).1
def WOk (w : Int) : Prop := 1 ≤ w ∧ w ≤ 4
instance (w : Int) : Decidable (WOk w) := by unfold WOk; infer_instance
/-- The counts for 1 to n rows. -/
def growTo (w : Int) (n : Nat) : List Int := (List.range n).map fun (i : Nat) => cylCount w ((i : Int) + 1)
theorem growTo_snoc (w : Int) (n : Nat) : growTo w (n + 1) = growTo w n ++ [cylCount w ((n : Int) + 1)] := by simp [growTo, List.range_succ]
theorem growTo_length (w : Int) (n : Nat) : (growTo w n).length = n := by simp [growTo]
def growL (w n : Int) : List Int := if WOk w ∧ n ≤ 12 then growTo w n.toNat else []
theorem growL_length (w n : Int) : (growL w n).length ≤ 12 := by
  unfold growL
  split
  · rw [growTo_length]; omega
  · simp
end Go.Proofs.YtgplpngphaaefaaDoor
