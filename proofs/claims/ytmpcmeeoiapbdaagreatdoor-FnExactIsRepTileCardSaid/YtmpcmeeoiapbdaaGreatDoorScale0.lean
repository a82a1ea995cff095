/- Scale0: a shape's cells drawn larger, row by row, as numbers; plain. -/
import Derived.Test.YtmpcmeeoiapbdaaGreatDoorAllHead
import Derived.Test.YtmpcmeeoiapbdaaGreatDoorAllBase
namespace Go.Proofs.YtmpcmeeoiapbdaaGreatDoor
open Go.RowKit

/-- The bits of a cell in each of its k rows. -/
def scBit (k : Nat) (c : Cl) : Nat := (2 ^ k - 1) * 2 ^ (c.x.toNat * k)
def scRow (k : Nat) : List Cl → Nat → Nat
  | [], _ => 0
  | c :: P, y => (if c.y.toNat = y / k then scBit k c else 0) + scRow k P y
theorem scRow_snoc (k : Nat) (P : List Cl) (c : Cl) (y : Nat) : scRow k (P ++ [c]) y = scRow k P y + (if c.y.toNat = y / k then scBit k c else 0) := by
  induction P with
  | nil => simp [scRow]
  | cons d P ih => rw [List.cons_append, scRow, ih, scRow]; omega
theorem div_iff (k b x : Nat) (hk : 0 < k) : (x * k ≤ b ∧ b - x * k < k) ↔ b / k = x := by
  constructor
  · rintro ⟨h1, h2⟩
    rw [Nat.div_eq_iff hk]
    omega
  · intro h
    rw [Nat.div_eq_iff hk] at h
    omega
theorem scBit_test (k : Nat) (c : Cl) (b : Nat) (hk : 0 < k) : (scBit k c).testBit b = decide (b / k = c.x.toNat) := by
  unfold scBit
  rw [Nat.testBit_mul_two_pow, Nat.testBit_two_pow_sub_one, Bool.eq_iff_iff]
  simp only [Bool.and_eq_true, decide_eq_true_eq]
  exact div_iff k b c.x.toNat hk
def Pos (c : Cl) : Prop := 0 ≤ c.x ∧ 0 ≤ c.y
theorem scRow_test (k : Nat) (hk : 0 < k) (y b : Nat) : ∀ P : List Cl, P.Nodup → (∀ c ∈ P, Pos c) → (scRow k P y).testBit b = P.any fun c => decide (c.y.toNat = y / k) && decide (b / k = c.x.toNat) := by
  intro P
  induction P generalizing b with
  | nil => intro _ _; simp [scRow]
  | cons c P ih =>
    intro hnd hp
    obtain ⟨hc, hnd'⟩ := List.nodup_cons.1 hnd
    have hp' := fun d hd => hp d (List.mem_cons_of_mem _ hd)
    rw [scRow, List.any_cons]
    by_cases h : c.y.toNat = y / k
    · have hdis : scBit k c &&& scRow k P y = 0 := by
        apply Nat.eq_of_testBit_eq
        intro i
        rw [Nat.testBit_and, Nat.zero_testBit, scBit_test k c i hk, ih i hnd' hp']
        by_cases hx : i / k = c.x.toNat
        · simp only [hx, decide_true, Bool.true_and]
          rw [List.any_eq_false]
          intro d hd hq
          simp only [Bool.and_eq_true, decide_eq_true_eq] at hq
          have p1 := hp c List.mem_cons_self
          have p2 := hp' d hd
          unfold Pos at p1 p2
          refine hc ?_
          have e1 : c.x = d.x := by omega
          have e2 : c.y = d.y := by omega
          have : c = d := by cases c; cases d; simp_all
          rw [this]
          exact hd
        · simp [hx]
      rw [if_pos h, ← or_eq_add hdis, Nat.testBit_or, scBit_test k c b hk, ih b hnd' hp', h]
      simp
    · rw [if_neg h, Nat.zero_add, ih b hnd' hp']
      simp [h]
/-- A further cell's bits are free, so that 'or' adds them. -/
theorem scRow_or (k : Nat) (hk : 0 < k) (P : List Cl) (c : Cl) (y : Nat) (h : (P ++ [c]).Nodup) (hp : ∀ d ∈ P ++ [c], Pos d) (hy : c.y.toNat = y / k) : scRow k P y ||| scBit k c = scRow k (P ++ [c]) y := by
  rw [scRow_snoc, if_pos hy]
  apply or_eq_add
  have hnd := (List.nodup_append.1 h)
  apply Nat.eq_of_testBit_eq
  intro i
  rw [Nat.testBit_and, Nat.zero_testBit, scBit_test k c i hk, scRow_test k hk y i P hnd.1 (fun d hd => hp d (List.mem_append_left _ hd))]
  by_cases hx : i / k = c.x.toNat
  · simp only [hx, decide_true, Bool.and_true]
    rw [List.any_eq_false]
    intro d hd hq
    simp only [Bool.and_eq_true, decide_eq_true_eq] at hq
    have p1 := hp c (by simp)
    have p2 := hp d (List.mem_append_left _ hd)
    unfold Pos at p1 p2
    have e1 : d.x = c.x := by omega
    have e2 : d.y = c.y := by omega
    have e : d = c := by cases c; cases d; simp_all
    exact hnd.2.2 d hd c (by simp) e
  · simp [hx]
/-- k cells one beside the other are the cell's bits. -/
def upTo2 (s : Nat) : Nat → Nat
  | 0 => 0
  | i + 1 => upTo2 s i + 2 ^ (s + i)
theorem upTo2_eq (s : Nat) : ∀ i, upTo2 s i = (2 ^ i - 1) * 2 ^ s := by
  intro i
  induction i with
  | zero => simp [upTo2]
  | succ i ih =>
    have h1 : 1 ≤ 2 ^ i := Nat.one_le_two_pow
    rw [upTo2, ih, Nat.pow_succ, Nat.pow_add, show 2 ^ i * 2 - 1 = (2 ^ i - 1) + 2 ^ i by omega, Nat.add_mul, Nat.mul_comm (2 ^ s)]
theorem upTo2_bit (k : Nat) (c : Cl) : upTo2 (c.x.toNat * k) k = scBit k c := upTo2_eq _ _
end Go.Proofs.YtmpcmeeoiapbdaaGreatDoor
