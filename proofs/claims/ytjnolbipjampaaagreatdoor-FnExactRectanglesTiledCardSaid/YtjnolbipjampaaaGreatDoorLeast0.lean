/- Least0: of pairs of sides the one with the least product, and of these the least first number; plain. -/
import Derived.Test.YtjnolbipjampaaaGreatDoorAllBase
namespace Go.Proofs.YtjnolbipjampaaaGreatDoor

def betterP (p q : Nat × Nat) : Bool := decide (p.1 * p.2 < q.1 * q.2) || (decide (p.1 * p.2 = q.1 * q.2) && decide (p.1 < q.1))
def leastTo (l : List (Nat × Nat)) : Nat → Nat × Nat
  | 0 => (0, 0)
  | k + 1 => if k = 0 ∨ betterP (l.getD k (0, 0)) (leastTo l k) = true then l.getD k (0, 0) else leastTo l k
def leastL (l : List (Nat × Nat)) : Nat × Nat := leastTo l l.length
theorem better_trans {p q r : Nat × Nat} (h1 : betterP p q = false) (h2 : betterP q r = false) : betterP p r = false := by
  unfold betterP at *
  generalize p.1 * p.2 = a at *
  generalize q.1 * q.2 = b at *
  generalize r.1 * r.2 = c at *
  simp only [Bool.or_eq_false_iff, Bool.and_eq_false_iff, decide_eq_false_iff_not] at *
  omega
theorem better_self (p : Nat × Nat) : betterP p p = false := by
  unfold betterP
  simp
theorem better_le {p q : Nat × Nat} (h : betterP p q = true) : betterP q p = false := by
  unfold betterP at *
  generalize p.1 * p.2 = a at *
  generalize q.1 * q.2 = b at *
  simp only [Bool.or_eq_true, Bool.and_eq_true, decide_eq_true_eq, Bool.or_eq_false_iff, Bool.and_eq_false_iff, decide_eq_false_iff_not] at *
  omega
theorem better_both {p q : Nat × Nat} (h1 : betterP p q = false) (h2 : betterP q p = false) (hp : 0 < p.1) : p = q := by
  unfold betterP at *
  simp only [Bool.or_eq_false_iff, Bool.and_eq_false_iff, decide_eq_false_iff_not] at *
  have e : p.1 * p.2 = q.1 * q.2 := by
    generalize p.1 * p.2 = a at *
    generalize q.1 * q.2 = b at *
    omega
  have e1 : p.1 = q.1 := by
    generalize p.1 * p.2 = a at *
    generalize q.1 * q.2 = b at *
    omega
  rw [← e1] at e
  have e2 : p.2 = q.2 := Nat.eq_of_mul_eq_mul_left hp e
  exact Prod.ext e1 e2
theorem leastTo_spec (l : List (Nat × Nat)) : ∀ k, k < l.length → leastTo l (k + 1) ∈ l.take (k + 1) ∧ ∀ p ∈ l.take (k + 1), betterP p (leastTo l (k + 1)) = false := by
  intro k
  induction k with
  | zero =>
    intro h
    have e : l.getD 0 (0, 0) = l[0] := by simp [List.getD_eq_getElem?_getD, h]
    rw [leastTo, if_pos (Or.inl rfl), e, List.take_succ_eq_append_getElem h]
    simp [better_self]
  | succ k ih =>
    intro h
    obtain ⟨h1, h2⟩ := ih (by omega)
    have e : l.getD (k + 1) (0, 0) = l[k + 1] := by simp [List.getD_eq_getElem?_getD, h]
    rw [leastTo, e, List.take_succ_eq_append_getElem h]
    by_cases hb : betterP l[k + 1] (leastTo l (k + 1)) = true
    · rw [if_pos (Or.inr hb)]
      refine ⟨List.mem_append.2 (Or.inr (List.mem_singleton.2 rfl)), fun p hp => ?_⟩
      rcases List.mem_append.1 hp with hp | hp
      · exact better_trans (h2 p hp) (better_le hb)
      · rw [List.mem_singleton.1 hp]; exact better_self _
    · rw [if_neg (by intro q; rcases q with q | q; · omega
                     · exact hb q)]
      refine ⟨List.mem_append.2 (Or.inl h1), fun p hp => ?_⟩
      rcases List.mem_append.1 hp with hp | hp
      · exact h2 p hp
      · rw [List.mem_singleton.1 hp]; simpa using hb
theorem leastL_spec {l : List (Nat × Nat)} (h : 0 < l.length) : leastL l ∈ l ∧ ∀ p ∈ l, betterP p (leastL l) = false := by
  have := leastTo_spec l (l.length - 1) (by omega)
  rw [show l.length - 1 + 1 = l.length by omega, List.take_length] at this
  exact this
/-- The least of a list is the one that none of the list is better than. -/
theorem leastL_eq {l : List (Nat × Nat)} {p : Nat × Nat} (hp : p ∈ l) (h : ∀ q ∈ l, betterP q p = false) (h0 : 0 < p.1) : leastL l = p := by
  have hl : 0 < l.length := List.length_pos_of_mem hp
  obtain ⟨h1, h2⟩ := leastL_spec hl
  exact (better_both (h2 p hp) (h _ h1) h0).symm
end Go.Proofs.YtjnolbipjampaaaGreatDoor
