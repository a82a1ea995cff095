/- Search0: the list of all fills, in order; plain. -/
import Derived.Test.YtjklclegkjnegaaFits
namespace Go.Proofs.Ytjklclegkjnegaa

/-- All fills that begin with f and have n places more, in order. -/
def fillsF (ts : List Tile) (b : Nat) : Nat → List Nat → List (List Nat)
  | 0, f => [f]
  | n + 1, f => (List.range ts.length).flatMap fun t => if fitsB ts b f t then fillsF ts b n (f ++ [t]) else []
/-- Of those, the ones that go on with a tile below k. -/
def fillsTo (ts : List Tile) (b n : Nat) (f : List Nat) (k : Nat) : List (List Nat) := (List.range k).flatMap fun t => if fitsB ts b f t then fillsF ts b n (f ++ [t]) else []
theorem fillsTo_zero (ts : List Tile) (b n : Nat) (f : List Nat) : fillsTo ts b n f 0 = [] := rfl
theorem fillsTo_all (ts : List Tile) (b n : Nat) (f : List Nat) : fillsTo ts b n f ts.length = fillsF ts b (n + 1) f := rfl
theorem fillsTo_yes {ts : List Tile} {b n : Nat} {f : List Nat} {k : Nat} (h : fitsB ts b f k = true) : fillsTo ts b n f (k + 1) = fillsTo ts b n f k ++ fillsF ts b n (f ++ [k]) := by
  simp [fillsTo, List.range_succ, List.flatMap_append, h]
theorem fillsTo_no {ts : List Tile} {b n : Nat} {f : List Nat} {k : Nat} (h : fitsB ts b f k = false) : fillsTo ts b n f (k + 1) = fillsTo ts b n f k := by
  simp [fillsTo, List.range_succ, List.flatMap_append, h]
theorem fillsTo_mono {ts : List Tile} {b n : Nat} {f : List Nat} {k m : Nat} (h : k ≤ m) : fillsTo ts b n f k <+: fillsTo ts b n f m := by
  induction m with
  | zero => obtain rfl : k = 0 := by omega
            exact List.prefix_refl _
  | succ m ih =>
    by_cases e : k = m + 1
    · subst e; exact List.prefix_refl _
    · have h1 := ih (by omega)
      cases hf : fitsB ts b f m with
      | true => rw [fillsTo_yes hf]; exact h1.trans (List.prefix_append _ _)
      | false => rw [fillsTo_no hf]; exact h1

/-- Indices that are in range. -/
def InR (ts : List Tile) (f : List Nat) : Prop := ∀ i, i < f.length → At f i < ts.length
theorem InR.nil (ts : List Tile) : InR ts [] := fun i hi => by simp at hi
theorem InR.snoc {ts : List Tile} {f : List Nat} {t : Nat} (h : InR ts f) (ht : t < ts.length) : InR ts (f ++ [t]) := by
  intro i hi
  rw [List.length_append, List.length_singleton] at hi
  unfold At
  by_cases e : i < f.length
  · have := h i e
    unfold At at this
    simpa [List.getElem?_append_left e] using this
  · obtain rfl : i = f.length := by omega
    simpa using ht
theorem fillsF_length (ts : List Tile) (b : Nat) : ∀ (n : Nat) (f g : List Nat), g ∈ fillsF ts b n f → g.length = f.length + n := by
  intro n
  induction n with
  | zero => intro f g h; simp [fillsF] at h; rw [h]; rfl
  | succ n ih =>
    intro f g h
    simp only [fillsF, List.mem_flatMap] at h
    obtain ⟨t, _, h⟩ := h
    split at h
    · have := ih _ _ h
      rw [List.length_append, List.length_singleton] at this
      omega
    · simp at h

end Go.Proofs.Ytjklclegkjnegaa
