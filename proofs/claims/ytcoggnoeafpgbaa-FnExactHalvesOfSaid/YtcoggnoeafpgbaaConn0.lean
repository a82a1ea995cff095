/- Conn0: the cells that can be come to from the first one; plain. -/
import Derived.Test.YtcoggnoeafpgbaaNear
namespace Go.Proofs.Ytcoggnoeafpgbaa
open Go.RowKit

def at0 (s : List Cl) (i : Nat) : Cl := s.getD i ⟨0, 0⟩
inductive Rch (s : List Cl) : Nat → Prop
  | first : 0 < s.length → Rch s 0
  | next {i j : Nat} : Rch s i → j < s.length → near (at0 s i) (at0 s j) = true → Rch s j
/-- A list of cells hangs together. -/
def Hangs (s : List Cl) : Prop := 0 < s.length ∧ ∀ j, j < s.length → Rch s j
theorem at0_get {s : List Cl} {i : Nat} (h : i < s.length) : at0 s i = s[i] := by
  unfold at0
  rw [List.getD_eq_getElem?_getD, List.getElem?_eq_getElem h]
  rfl
/-- Distinct numbers below a bound are no more than it; as many as it: all of them. -/
theorem few_lt : ∀ (N : Nat) (l : List Nat), l.Nodup → (∀ x ∈ l, x < N) → l.length ≤ N ∧ (l.length = N → ∀ x, x < N → x ∈ l)
  | 0, l, _, h => by
    cases l with
    | nil => exact ⟨Nat.le_refl _, fun _ x hx => absurd hx (Nat.not_lt_zero _)⟩
    | cons x l => exact absurd (h x List.mem_cons_self) (Nat.not_lt_zero _)
  | N + 1, l, hn, h => by
    have h1 := few_lt N (l.erase N) (hn.erase N) (fun x hx => by
      have q1 := h x (List.mem_of_mem_erase hx)
      have q2 : x ≠ N := fun e => by
        subst e
        exact (hn.not_mem_erase) hx
      omega)
    by_cases q : N ∈ l
    · have e : (l.erase N).length = l.length - 1 := List.length_erase_of_mem q
      have hp : 0 < l.length := List.length_pos_of_mem q
      refine ⟨by omega, fun hl x hx => ?_⟩
      by_cases ex : x = N
      · rw [ex]; exact q
      · exact List.mem_of_mem_erase (h1.2 (by omega) x (by omega))
    · have e : l.erase N = l := List.erase_of_not_mem q
      rw [e] at h1
      exact ⟨by omega, fun hl => by omega⟩
/-- What is closed and has the first cell has all that can be come to. -/
theorem rch_in {s : List Cl} {S : Nat → Prop} (h0 : S 0) (hs : ∀ i j, S i → j < s.length → near (at0 s i) (at0 s j) = true → S j) : ∀ j, Rch s j → S j := by
  intro j h
  induction h with
  | first _ => exact h0
  | next _ hj hn ih => exact hs _ _ ih hj hn
theorem hangs_idx {s : List Cl} {idx : List Nat} (h1 : idx.Nodup) (h2 : ∀ j ∈ idx, j < s.length ∧ Rch s j) (h0 : 0 ∈ idx) (hc : ∀ p ∈ idx, ∀ j, j < s.length → near (at0 s p) (at0 s j) = true → j ∈ idx) :
    idx.length = s.length ↔ Hangs s := by
  have hf := few_lt s.length idx h1 (fun x hx => (h2 x hx).1)
  constructor
  · intro h
    exact ⟨by have := (h2 0 h0).1; omega, fun j hj => (h2 j (hf.2 h j hj)).2⟩
  · rintro ⟨_, h⟩
    have hall : ∀ x, x < s.length → x ∈ idx := fun x hx => rch_in (S := fun y => y ∈ idx) h0 (fun i j hi hj hn => hc i hi j hj hn) x (h x hx)
    have hle : s.length ≤ idx.length := by
      have := (List.nodup_range (n := s.length)).length_le_of_subset (fun x hx => hall x (List.mem_range.1 hx))
      rwa [List.length_range] at this
    omega
end Go.Proofs.Ytcoggnoeafpgbaa
