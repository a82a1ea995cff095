/- Range: slices that a call has made, with the span of blocks in which they lie; what a write to one leaves of the others. -/
import Derived.Test.YtipikojinfpidaaCells
namespace Go.Proofs.Ytipikojinfpidaa
open Go.RowKit

/-- An owned slice whose block lies in lo .. hi - 1. -/
def Owned (w : World) (lo hi e size : Nat) (ad : Option Addr) (n cap : Nat) (xs : List Value) : Prop :=
  w.ownsRow lo e size (.slice ad n cap) n xs ∧ ∀ k, (Value.slice ad n cap).ownBlock = some k → k < hi
/-- Of the blocks that were there only those in lo .. hi - 1 may have turned. -/
structure Touched (lo hi : Nat) (w w' : World) : Prop where
  os : w'.os = w.os
  tape : w'.tape = w.tape
  output : w'.output = w.output
  size : w.heap.size ≤ w'.heap.size
  block : ∀ k, k < w.heap.size → (k < lo ∨ hi ≤ k) → w'.heap[k]? = w.heap[k]?

theorem Touched.refl (lo hi : Nat) (w : World) : Touched lo hi w w := ⟨rfl, rfl, rfl, Nat.le_refl _, fun _ _ _ => rfl⟩
theorem Touched.trans {lo hi : Nat} {a b c : World} (h : Touched lo hi a b) (k : Touched lo hi b c) : Touched lo hi a c :=
  ⟨k.os.trans h.os, k.tape.trans h.tape, k.output.trans h.output, Nat.le_trans h.size k.size, fun i hi hne => (k.block i (Nat.lt_of_lt_of_le hi h.size) hne).trans (h.block i hi hne)⟩
theorem Touched.drewN {lo hi : Nat} {a b : World} (h : Touched lo hi a b) (n : Nat) : Touched lo hi a (b.drewN n) := h.trans ⟨rfl, rfl, rfl, Nat.le_refl _, fun _ _ _ => rfl⟩
theorem Touched.setCell {lo hi : Nat} {a w : World} (h : Touched lo hi a w) {p : Addr} (h1 : lo ≤ p.block) (h2 : p.block < hi) (u : Value) : Touched lo hi a (w.setCell p u) :=
  h.trans ⟨rfl, rfl, rfl, by simp [World.setCell], fun k _ hne => Below.heap_setCell _ _ _ _ (by omega)⟩
theorem Touched.below {lo hi B : Nat} {w w' : World} (h : Touched lo hi w w') (hB : B ≤ lo) (hs : B ≤ w.heap.size) : Below B w w' :=
  ⟨h.os, h.tape, h.output, h.size, fun k hk => h.block k (by omega) (.inl (by omega))⟩

theorem Owned.of {w w' : World} {e size n cap : Nat} {ad : Option Addr} {xs : List Value} (h : w'.ownsRow w.heap.size e size (.slice ad n cap) n xs) : Owned w' w.heap.size w'.heap.size e size ad n cap xs :=
  ⟨h, fun k hk => (h.lt k hk).2⟩
theorem Owned.below {w w' : World} {lo hi e size n cap B : Nat} {ad : Option Addr} {xs : List Value} (h : Owned w lo hi e size ad n cap xs) (hb : Below B w w') (hB : hi ≤ B) : Owned w' lo hi e size ad n cap xs := by
  refine ⟨⟨h.1.1, ?_⟩, h.2⟩
  rcases h.1.2 with h2 | ⟨g, c, cur, h1, h2, h3, r⟩
  · exact .inl h2
  · refine .inr ⟨g, c, cur, h1, h2, ?_, r⟩
    have := h.2 g (by rw [h1]; rfl)
    rw [hb.block g (by omega)]
    exact h3
theorem Owned.drewN {w : World} {lo hi e size n cap : Nat} {ad : Option Addr} {xs : List Value} (h : Owned w lo hi e size ad n cap xs) (k : Nat) : Owned (w.drewN k) lo hi e size ad n cap xs := h
/-- A write to blocks that are not this slice's. -/
theorem Owned.touched {w w' : World} {lo hi e size n cap l2 h2 : Nat} {ad : Option Addr} {xs : List Value} (h : Owned w lo hi e size ad n cap xs) (ht : Touched l2 h2 w w') (hd : h2 ≤ lo ∨ hi ≤ l2) : Owned w' lo hi e size ad n cap xs := by
  refine ⟨⟨h.1.1, ?_⟩, h.2⟩
  rcases h.1.2 with q2 | ⟨g, c, cur, q1, q2, q3, r⟩
  · exact .inl q2
  · refine .inr ⟨g, c, cur, q1, q2, ?_, r⟩
    have := h.2 g (by rw [q1]; rfl)
    rw [ht.block g (Array.getElem?_eq_some_iff.1 q3).1 (by omega)]
    exact q3
theorem Owned.cells {w : World} {lo hi e size n cap : Nat} {ad : Option Addr} {xs : List Value} (h : Owned w lo hi e size ad n cap xs) : CellsAt w ad xs := ownsRow_cellsAt h.1
theorem Owned.le_cap {w : World} {lo hi e size n cap : Nat} {ad : Option Addr} {xs : List Value} (h : Owned w lo hi e size ad n cap xs) : n ≤ cap := by
  rcases h.1.2 with ⟨h1, h2⟩ | ⟨g, c, cur, h1, _, _, h2, _⟩
  · rw [h2]; exact Nat.zero_le _
  · cases h1; exact h2
theorem Owned.lo_hi {w : World} {lo hi e size n cap : Nat} {ad : Option Addr} {xs : List Value} (h : Owned w lo hi e size ad n cap xs) (hn : 0 < n) : ∃ g, ad = some ⟨g, 0, none⟩ ∧ lo ≤ g ∧ g < hi := by
  obtain ⟨g, c, hv, hb, hlt⟩ := h.1.form hn
  cases hv
  exact ⟨g, rfl, hb, h.2 g rfl⟩

/-- The marks k, k + 1, .. -/
def marks (k n : Nat) : List Value := (List.range n).map fun i => .int .i64 ((k + i : Nat) : Int)
theorem marks_length (k n : Nat) : (marks k n).length = n := by simp [marks]
theorem marks_at {k n i : Nat} (h : i < n) : (marks k n)[i]? = some (.int .i64 ((k + i : Nat) : Int)) := by simp [marks, h]
theorem marks_succ (k n : Nat) : marks k (n + 1) = marks k n ++ [.int .i64 ((k + n : Nat) : Int)] := by simp [marks, List.range_succ]
/-- The first j cells are marked, the others are as they were. -/
def partly (k : Nat) (cs : List Value) (j : Nat) : List Value := marks k j ++ cs.drop j
theorem partly_zero (k : Nat) (cs : List Value) : partly k cs 0 = cs := by simp [partly, marks]
theorem partly_all (k : Nat) (cs : List Value) : partly k cs cs.length = marks k cs.length := by simp [partly]
theorem partly_length (k : Nat) (cs : List Value) (j : Nat) (h : j ≤ cs.length) : (partly k cs j).length = cs.length := by simp [partly, marks_length]; omega
theorem partly_set (k : Nat) (cs : List Value) (j : Nat) (h : j < cs.length) : (partly k cs j).set j (.int .i64 ((k + j : Nat) : Int)) = partly k cs (j + 1) := by
  unfold partly
  rw [List.set_append_right _ _ (by rw [marks_length]; exact Nat.le_refl _), marks_length, Nat.sub_self, marks_succ, List.append_assoc]
  congr 1
  rw [List.drop_eq_getElem_cons h]
  rfl

end Go.Proofs.Ytipikojinfpidaa
