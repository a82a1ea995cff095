/- At0: the search's struct in memory: 64 rows of the search's own, the visitor, no second visitor; how it is kept. -/
import Derived.Test.YtmpcmeeoiapbdaaGreatDoorSrch0
import Derived.Test.YtmpcmeeoiapbdaaGreatDoorAllBase
import Derived.Test.YtmpcmeeoiapbdaaGreatDoorPut0
import Derived.OneCell
namespace Go.Proofs.YtmpcmeeoiapbdaaGreatDoor
open Go.RowKit

def rowAt (arr : Array Value) (k : Nat) : Value := (arr[k]?).getD .nilFunc
/-- What the search's struct at block S holds: at k the list L k, in a row of its own; the visitor. -/
def AtOK (w : World) (S : Nat) (vis : Value) (L : Nat → List Int) : Prop :=
  ∃ arr : Array Value, w.heap[S]? = some (.cells arr 97 (0, 0)) ∧ arr.size = 66 ∧ arr[64]? = some vis ∧ arr[65]? = some .nilFunc ∧
    (∀ k, k < 64 → w.ownsRow (S + 1) 3 1 (rowAt arr k) (L k).length (ints (L k))) ∧
    ∀ i j, i < 64 → j < 64 → i ≠ j → ∀ g, (rowAt arr i).ownBlock = some g → (rowAt arr j).ownBlock ≠ some g
theorem getD_arr {arr : Array Value} {k : Nat} (h : k < arr.size) : arr[k]? = some (rowAt arr k) := by
  unfold rowAt
  rw [Array.getElem?_eq_getElem h]
  rfl
theorem AtOK.lt {w : World} {S : Nat} {vis : Value} {L : Nat → List Int} (h : AtOK w S vis L) : S < w.heap.size := by
  obtain ⟨arr, h1, _⟩ := h
  exact lt_of_block h1
theorem AtOK.row {w : World} {S : Nat} {vis : Value} {L : Nat → List Int} (h : AtOK w S vis L) {k : Nat} (hk : k < 64) :
    ∃ ad cap, w.cell? ⟨S, k, none⟩ = some (.slice ad (L k).length cap) ∧ w.ownsRow (S + 1) 3 1 (.slice ad (L k).length cap) (L k).length (ints (L k)) := by
  obtain ⟨arr, h1, h2, _, _, h5, _⟩ := h
  have h := h5 k hk
  obtain ⟨ad, cap, hv, _⟩ := ownsRow_cells h
  refine ⟨ad, cap, ?_, by rw [← hv]; exact h⟩
  rw [cell_of_row w S k arr _ (0, 0) h1, getD_arr (by omega), hv]
theorem AtOK.vis {w : World} {S : Nat} {vis : Value} {L : Nat → List Int} (h : AtOK w S vis L) : w.cell? ⟨S, 64, none⟩ = some vis := by
  obtain ⟨arr, h1, _, h3, _⟩ := h
  rw [cell_of_row w S 64 arr _ (0, 0) h1, h3]
theorem AtOK.tried {w : World} {S : Nat} {vis : Value} {L : Nat → List Int} (h : AtOK w S vis L) : w.cell? ⟨S, 65, none⟩ = some .nilFunc := by
  obtain ⟨arr, h1, _, _, h4, _⟩ := h
  rw [cell_of_row w S 65 arr _ (0, 0) h1, h4]
theorem AtOK.free {w : World} {S : Nat} {vis : Value} {L : Nat → List Int} (h : AtOK w S vis L) (k : Nat) : w.frozen? ⟨S, k, none⟩ = false := by
  obtain ⟨arr, h1, _⟩ := h
  simp [World.frozen?, h1]
theorem AtOK.below {w w' : World} {S : Nat} {vis : Value} {L : Nat → List Int} (h : AtOK w S vis L) (hb : Below w.heap.size w w') : AtOK w' S vis L := by
  have hS := h.lt
  obtain ⟨arr, h1, h2, h3, h4, h5, h6⟩ := h
  exact ⟨arr, (hb.block S hS).trans h1, h2, h3, h4, fun k hk => ownsRow_far_below (h5 k hk) hb (Nat.le_refl _), h6⟩
theorem AtOK.congr {w : World} {S : Nat} {vis : Value} {L M : Nat → List Int} (h : AtOK w S vis L) (he : ∀ k, k < 64 → L k = M k) : AtOK w S vis M := by
  obtain ⟨arr, h1, h2, h3, h4, h5, h6⟩ := h
  exact ⟨arr, h1, h2, h3, h4, fun k hk => by rw [← he k hk]; exact h5 k hk, h6⟩
/-- A mask has been appended to the row at k, and the row stored. -/
theorem AtOK.push {w w2 : World} {S : Nat} {vis : Value} {L : Nat → List Int} (h : AtOK w S vis L) {k : Nat} (hk : k < 64) {v : Value} (hv : w.cell? ⟨S, k, none⟩ = some v) {g n cap : Nat} {xs : List Int} (hn : n = xs.length)
    (ho : w2.ownsRow (S + 1) 3 1 (.slice (some ⟨g, 0, none⟩) n cap) n (ints xs)) (hg : w.grownBy w2 v.ownBlock) (hw : v.ownBlock = some g ∨ w.heap.size ≤ g) :
    AtOK (w2.setCell ⟨S, k, none⟩ (.slice (some ⟨g, 0, none⟩) n cap)) S vis (fun j => if j = k then xs else L j) := by
  have hS := h.lt
  obtain ⟨arr, h1, h2, h3, h4, h5, h6⟩ := h
  have hvk : rowAt arr k = v := by
    rw [cell_of_row w S k arr _ (0, 0) h1, getD_arr (by omega)] at hv
    exact Option.some.inj hv
  have hown := h5 k hk
  have hne : v.ownBlock ≠ some S := fun e => by
    have := (hown.lt S (by rw [hvk]; exact e)).1
    omega
  have hS2 : w2.heap[S]? = some (.cells arr 97 (0, 0)) := (hg.block S hS (fun e => hne e.symm)).trans h1
  have hgS : g ≠ S := by
    rcases hw with e | e
    · intro q; exact hne (by rw [e, q])
    · omega
  have hget : ∀ j, rowAt (arr.setIfInBounds k (.slice (some ⟨g, 0, none⟩) n cap)) j = if j = k then .slice (some ⟨g, 0, none⟩) n cap else rowAt arr j := by
    intro j
    unfold rowAt
    rw [Array.getElem?_setIfInBounds]
    by_cases e : j = k
    · rw [if_pos e, if_pos e.symm, if_pos (by omega)]
      rfl
    · rw [if_neg e, if_neg (fun q => e q.symm)]
  refine ⟨arr.setIfInBounds k (.slice (some ⟨g, 0, none⟩) n cap), heap_setCell_same w2 S k arr _ _ hS2, by simp [h2], ?_, ?_, ?_, ?_⟩
  · rw [Array.getElem?_setIfInBounds_ne (by omega)]; exact h3
  · rw [Array.getElem?_setIfInBounds_ne (by omega)]; exact h4
  · intro j hj
    rw [hget j]
    by_cases e : j = k
    · subst e
      simp only [if_pos]
      rw [← hn]
      exact ownsRow_setCell_other ho (fun q => hgS (by simpa [Value.ownBlock] using q)) _
    · simp only [if_neg e]
      have hj5 := h5 j hj
      have hjn : ∀ q, (rowAt arr j).ownBlock = some q → v.ownBlock ≠ some q := fun q hq => by
        rw [← hvk]
        exact h6 j k hj hk e q hq
      refine ownsRow_setCell_other (hj5.kept hg ?_) (fun q => ?_) _
      · cases hb : (rowAt arr j).ownBlock with
        | none => exact .inl rfl
        | some b => exact .inr fun q => hjn b hb q.symm
      · have := (hj5.lt S q).1
        omega
  · intro i j hi hj hij b hb
    rw [hget i] at hb
    rw [hget j]
    have key : ∀ m, m < 64 → m ≠ k → (rowAt arr m).ownBlock ≠ some g := fun m hm hmk q => by
      rcases hw with e | e
      · exact h6 k m hk hm (fun z => hmk z.symm) g (by rw [hvk]; exact e) q
      · have := ((h5 m hm).lt g q).2
        omega
    by_cases ei : i = k
    · rw [if_pos ei] at hb
      rw [if_neg (fun q => hij (ei.trans q.symm))]
      have : b = g := by simpa [Value.ownBlock] using hb.symm
      subst this
      exact key j hj (fun q => hij (ei.trans q.symm))
    · rw [if_neg ei] at hb
      by_cases ej : j = k
      · rw [if_pos ej]
        intro q
        have : b = g := by simpa [Value.ownBlock] using q.symm
        subst this
        exact key i hi ei hb
      · rw [if_neg ej]
        exact h6 i j hi hj hij b hb
/-- The masks of some that have the cell k. -/
def atL (A : List Int) (k : Nat) : List Int := A.filter fun v => v.toNat.testBit k
theorem atL_snoc (A : List Int) (v : Int) (k : Nat) : atL (A ++ [v]) k = atL A k ++ (if v.toNat.testBit k = true then [v] else []) := by
  unfold atL
  rw [List.filter_append]
  by_cases h : v.toNat.testBit k = true
  · rw [if_pos h]; simp [h]
  · rw [if_neg h]; simp [h]
theorem atL_length (A : List Int) (k : Nat) : (atL A k).length ≤ A.length := List.length_filter_le _ _
end Go.Proofs.YtmpcmeeoiapbdaaGreatDoor
