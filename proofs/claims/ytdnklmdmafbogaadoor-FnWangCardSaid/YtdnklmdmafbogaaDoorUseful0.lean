/- Useful0: the tiles that are left when the useless ones are taken off, plain. -/
import Derived.Test.YtdnklmdmafbogaaDoorFits0
namespace Go.Proofs.YtdnklmdmafbogaaDoor

/-- Tile i has in C a tile that meets it on each of its four sides. -/
def useB (ts : List Tile) (C : List Nat) (i : Nat) : Bool :=
  (C.any fun j => decide ((Tl ts j).b = (Tl ts i).t)) && (C.any fun j => decide ((Tl ts j).l = (Tl ts i).r)) &&
    (C.any fun j => decide ((Tl ts j).t = (Tl ts i).b)) && (C.any fun j => decide ((Tl ts j).r = (Tl ts i).l))
def useStep (ts : List Tile) (C : List Nat) : List Nat := C.filter (useB ts C)
def useIter (ts : List Tile) : Nat → List Nat → List Nat
  | 0, C => C
  | n + 1, C => useIter ts n (useStep ts C)
theorem useStep_le (ts : List Tile) (C : List Nat) : (useStep ts C).length ≤ C.length := List.length_filter_le _ _
theorem useStep_same {ts : List Tile} {C : List Nat} (h : (useStep ts C).length = C.length) : useStep ts C = C := by
  have hs : (useStep ts C).Sublist C := List.filter_sublist
  exact hs.eq_of_length h
theorem useIter_same {ts : List Tile} {C : List Nat} (h : useStep ts C = C) : ∀ n, useIter ts n C = C := by
  intro n
  induction n with
  | zero => rfl
  | succ n ih => rw [useIter, h, ih]
/-- A list of at most n is steady behind n steps. -/
theorem useIter_steady (ts : List Tile) : ∀ (n : Nat) (C : List Nat), C.length ≤ n → useStep ts (useIter ts n C) = useIter ts n C := by
  intro n
  induction n with
  | zero =>
    intro C h
    obtain rfl : C = [] := List.length_eq_zero_iff.1 (by omega)
    rfl
  | succ n ih =>
    intro C h
    by_cases e : (useStep ts C).length = C.length
    · have := useStep_same e
      rw [useIter_same this, this]
    · have := useStep_le ts C
      rw [useIter]
      exact ih _ (by omega)
theorem useIter_succ (ts : List Tile) (n : Nat) (C : List Nat) : useIter ts (n + 1) C = useStep ts (useIter ts n C) := by
  induction n generalizing C with
  | zero => rfl
  | succ n ih => rw [useIter, ih, useIter]
/-- One step more or less, when steady. -/
theorem useIter_step {ts : List Tile} {C : List Nat} {n : Nat} (h : C.length ≤ n) : useIter ts n (useStep ts C) = useIter ts n C := by
  have h1 : useIter ts (n + 1) C = useStep ts (useIter ts n C) := by
    clear h
    induction n generalizing C with
    | zero => rfl
    | succ n ih => rw [useIter, ih, useIter]
  rw [useIter_steady ts n C h, useIter] at h1
  exact h1
end Go.Proofs.YtdnklmdmafbogaaDoor
