/- Mat0: the rows of the transfer matrices, products of matrices and their traces, plain. -/
import Derived.Test.YtgplpngphaaefaaDoorAllBase
namespace Go.Proofs.YtgplpngphaaefaaDoor
open Go.RowKit

/-- The ways to lie dominoes from place x on, n places left: those of full are filled, dominoes stand out at those of out. -/
def l11F (f o : Nat) : Nat → Nat → Nat
  | 0, _ => 1
  | 1, x => if f.testBit x then (if o.testBit x then 0 else l11F f o 0 (x + 1)) else if o.testBit x then l11F f o 0 (x + 1) else 0
  | n + 2, x => if f.testBit x then (if o.testBit x then 0 else l11F f o (n + 1) (x + 1)) else if o.testBit x then l11F f o (n + 1) (x + 1) else
      if f.testBit (x + 1) = false ∧ o.testBit (x + 1) = false then l11F f o n (x + 2) else 0
/-- The sets of standing places that the program reaches, in its order. -/
def endsF (u : Nat) : Nat → Nat → Nat → List Nat
  | 0, _, d => [d]
  | 1, x, d => if u.testBit x then endsF u 0 (x + 1) d else endsF u 0 (x + 1) (d ||| 2 ^ x)
  | n + 2, x, d => if u.testBit x then endsF u (n + 1) (x + 1) d else endsF u (n + 1) (x + 1) (d ||| 2 ^ x) ++ (if u.testBit (x + 1) = false then endsF u n (x + 2) d else [])
def incAt (o : List Int) (d : Nat) : List Int := o.set d (wrap64 (o.getD d 0 + 1))
def incAll (o : List Int) (ds : List Nat) : List Int := ds.foldl incAt o
theorem incAt_length (o : List Int) (d : Nat) : (incAt o d).length = o.length := by simp [incAt]
theorem incAll_length (ds : List Nat) : ∀ o : List Int, (incAll o ds).length = o.length := by
  induction ds with
  | nil => intro o; rfl
  | cons d ds ih => intro o; rw [incAll, List.foldl_cons]; exact (ih _).trans (incAt_length o d)
theorem incAll_append (o : List Int) (xs ys : List Nat) : incAll o (xs ++ ys) = incAll (incAll o xs) ys := by simp [incAll]
def waysRow (w a : Nat) : List Int := incAll (List.replicate (2 ^ w) 0) (endsF a w 0 0)
def layRow (w a : Nat) : List Int := (List.range (2 ^ w)).map fun b => ((l11F a b w 0 : Nat) : Int)
theorem ways_lay : ∀ w, w < 5 → ∀ a, a < 2 ^ w → waysRow w a = layRow w a := by decide +kernel
theorem layRow_length (w a : Nat) : (layRow w a).length = 2 ^ w := by simp [layRow]
def transM (w : Nat) : List (List Int) := (List.range (2 ^ w)).map (layRow w)
theorem transM_length (w : Nat) : (transM w).length = 2 ^ w := by simp [transM]

/-- A square matrix with n rows. -/
def Sq (A : List (List Int)) (n : Nat) : Prop := A.length = n ∧ ∀ r ∈ A, r.length = n
def dotTo (a : List Int) (B : List (List Int)) (c : Nat) : Nat → Int
  | 0 => 0
  | m + 1 => wrap64 (dotTo a B c m + wrap64 (a.getD m 0 * (B.getD m []).getD c 0))
def mulRow (a : List Int) (B : List (List Int)) (n : Nat) : List Int := (List.range n).map fun c => dotTo a B c n
def mulM (A B : List (List Int)) (n : Nat) : List (List Int) := A.map fun a => mulRow a B n
def unitM (n : Nat) : List (List Int) := (List.range n).map fun i => (List.replicate n 0).set i 1
/-- m, times m, n times. -/
def powM (M : List (List Int)) (k : Nat) : Nat → List (List Int)
  | 0 => M
  | n + 1 => mulM (powM M k n) M k
def traceTo (A : List (List Int)) : Nat → Int
  | 0 => 0
  | m + 1 => wrap64 (traceTo A m + (A.getD m []).getD m 0)
theorem transM_sq (w : Nat) : Sq (transM w) (2 ^ w) := by
  refine ⟨transM_length w, fun r hr => ?_⟩
  simp only [transM, List.mem_map] at hr
  obtain ⟨a, _, rfl⟩ := hr
  exact layRow_length w a
theorem unitM_sq (n : Nat) : Sq (unitM n) n := by
  refine ⟨by simp [unitM], fun r hr => ?_⟩
  simp only [unitM, List.mem_map] at hr
  obtain ⟨a, _, rfl⟩ := hr
  simp
theorem mulM_sq {A : List (List Int)} {n : Nat} (B : List (List Int)) (h : A.length = n) : Sq (mulM A B n) n := by
  refine ⟨by simp [mulM, h], fun r hr => ?_⟩
  simp only [mulM, List.mem_map] at hr
  obtain ⟨a, _, rfl⟩ := hr
  simp [mulRow]
theorem powM_sq {M : List (List Int)} {k : Nat} (h : Sq M k) : ∀ n, Sq (powM M k n) k := by
  intro n
  induction n with
  | zero => exact h
  | succ n ih => exact mulM_sq M ih.1
/-- The unit times a transfer matrix. -/
theorem unit_trans : ∀ w, w < 5 → mulM (unitM (2 ^ w)) (transM w) (2 ^ w) = transM w := by decide +kernel
/-- How the reference counts: the unit, times m, n times. -/
def upM (M : List (List Int)) (k : Nat) : Nat → List (List Int)
  | 0 => unitM k
  | n + 1 => mulM (upM M k n) M k
theorem upM_sq {M : List (List Int)} {k : Nat} : ∀ n, Sq (upM M k n) k := by
  intro n
  cases n with
  | zero => exact unitM_sq k
  | succ n =>
    induction n with
    | zero => exact mulM_sq M (unitM_sq k).1
    | succ n ih => exact mulM_sq M ih.1
theorem upM_powM (w : Nat) (hw : w < 5) : ∀ n, upM (transM w) (2 ^ w) (n + 1) = powM (transM w) (2 ^ w) n := by
  intro n
  induction n with
  | zero => exact unit_trans w hw
  | succ n ih => rw [upM, ih, powM]
def cylV (w n : Nat) : Int := traceTo (powM (transM w) (2 ^ w) (n - 1)) (2 ^ w)
/-- The trace, or -1. -/
def cylCount (w n : Int) : Int := if (1 ≤ w ∧ w ≤ 4) ∧ 1 ≤ n ∧ n ≤ 12 then cylV w.toNat n.toNat else -1
end Go.Proofs.YtgplpngphaaefaaDoor
