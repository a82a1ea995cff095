/- AllMarkP: parts laid together: Tight, MarkCell, MarkShps. -/
import Derived.Test.YtajmdgcnnipdoaaGreatDoorAllBase

/- Tight: an owned slice's own block alone; what a write to it leaves of the others. -/
namespace Go.Proofs.YtajmdgcnnipdoaaGreatDoor
open Go.RowKit

/-- An owned slice's own block alone. -/
theorem Owned.tight {w : World} {lo hi e size n cap : Nat} {ad : Option Addr} {xs : List Value} (h : Owned w lo hi e size ad n cap xs) :
    ∃ l2 h2, Owned w l2 h2 e size ad n cap xs ∧ (∀ k, k < lo ∨ hi ≤ k → k < l2 ∨ h2 ≤ k) ∧ ∀ g, (Value.slice ad n cap).ownBlock ≠ some g → g < l2 ∨ h2 ≤ g := by
  obtain ⟨⟨h0, h1⟩, h2⟩ := h
  rcases h1 with ⟨q1, q2⟩ | ⟨g, c, cur, q1, q2, q3, r⟩
  · exact ⟨0, 0, ⟨⟨h0, .inl ⟨q1, q2⟩⟩, fun k hk => by rw [q1] at hk; cases hk⟩, fun k _ => .inr (Nat.zero_le _), fun g _ => .inr (Nat.zero_le _)⟩
  · have hg := h2 g (by rw [q1]; rfl)
    refine ⟨g, g + 1, ⟨⟨h0, .inr ⟨g, c, cur, q1, Nat.le_refl _, q3, r⟩⟩, fun k hk => ?_⟩, fun k hk => by omega, fun k hk => ?_⟩
    · rw [q1] at hk
      have : g = k := by simpa [Value.ownBlock] using hk
      omega
    · rcases Nat.lt_or_ge k g with q | q
      · exact .inl q
      · right
        rcases Nat.lt_or_ge g k with q' | q'
        · exact q'
        · exfalso
          apply hk
          rw [q1]
          have : g = k := by omega
          rw [this]; rfl
theorem Touched.widen {l2 h2 lo hi : Nat} {w w' : World} (h : Touched l2 h2 w w') (hd : ∀ k, k < lo ∨ hi ≤ k → k < l2 ∨ h2 ≤ k) : Touched lo hi w w' :=
  ⟨h.os, h.tape, h.output, h.size, fun k hk hne => h.block k hk (hd k hne)⟩
theorem Owned.apart {w w' : World} {lo hi e size n cap l2 h2 : Nat} {ad : Option Addr} {xs : List Value} (h : Owned w lo hi e size ad n cap xs) (ht : Touched l2 h2 w w') (hd : ∀ g, (Value.slice ad n cap).ownBlock = some g → g < l2 ∨ h2 ≤ g) : Owned w' lo hi e size ad n cap xs := by
  refine ⟨⟨h.1.1, ?_⟩, h.2⟩
  rcases h.1.2 with q2 | ⟨g, c, cur, q1, q2, q3, r⟩
  · exact .inl q2
  · refine .inr ⟨g, c, cur, q1, q2, ?_, r⟩
    rw [ht.block g (Array.getElem?_eq_some_iff.1 q3).1 (hd g (by rw [q1]; rfl))]
    exact q3
/-- Two owned slices of different elements lie in different blocks. -/
theorem Owned.other {w : World} {lo hi e size n cap lo' hi' e' size' n' cap' : Nat} {ad ad' : Option Addr} {xs xs' : List Value} (h : Owned w lo hi e size ad n cap xs) (h' : Owned w lo' hi' e' size' ad' n' cap' xs') (he : e ≠ e') :
    ∀ g, (Value.slice ad n cap).ownBlock = some g → (Value.slice ad' n' cap').ownBlock ≠ some g := by
  intro g hg hg'
  rcases h.1.2 with ⟨q1, _⟩ | ⟨b, c, cur, q1, _, q3, _⟩
  · rw [q1] at hg; cases hg
  · rcases h'.1.2 with ⟨r1, _⟩ | ⟨b', c', cur', r1, _, r3, _⟩
    · rw [r1] at hg'; cases hg'
    · rw [q1] at hg
      rw [r1] at hg'
      have e1 : b = g := by simpa [Value.ownBlock] using hg
      have e2 : b' = g := by simpa [Value.ownBlock] using hg'
      subst e1; subst e2
      rw [q3] at r3
      simp at r3
      exact he r3.2
/-- The same slice, as it was owned. -/
theorem ownsRow_rebase' {w w' : World} {lo l2 e size n cap : Nat} {ad : Option Addr} {xs ys : List Value} (h : w'.ownsRow l2 e size (.slice ad n cap) n xs) (h0 : w.ownsRow lo e size (.slice ad n cap) n ys) : w'.ownsRow lo e size (.slice ad n cap) n xs := by
  refine ⟨h.1, ?_⟩
  rcases h.2 with q | ⟨g, c, cur, q1, q2, q3, r⟩
  · exact .inl q
  · refine .inr ⟨g, c, cur, q1, ?_, q3, r⟩
    exact (h0.lt g (by rw [q1]; rfl)).1
end Go.Proofs.YtajmdgcnnipdoaaGreatDoor
