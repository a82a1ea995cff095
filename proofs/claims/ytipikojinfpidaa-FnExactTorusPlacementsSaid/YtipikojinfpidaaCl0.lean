/- Cl0: cells of two numbers, as lists and as the values of a slice's cells; plain. -/
import Derived.Test.YtipikojinfpidaaCells
namespace Go.Proofs.Ytipikojinfpidaa
open Go.RowKit

structure Cl where
  x : Int
  y : Int
  deriving DecidableEq
def Cl.cells (c : Cl) : List Value := [.int .i64 c.x, .int .i64 c.y]
def cls (l : List Cl) : List Value := l.flatMap Cl.cells
theorem cls_length (l : List Cl) : (cls l).length = l.length * 2 := by
  unfold cls
  induction l with
  | nil => rfl
  | cons i l ih => simp only [List.flatMap_cons, List.length_append, ih, List.length_cons, Cl.cells, List.length_nil]; omega
theorem cls_append (xs ys : List Cl) : cls (xs ++ ys) = cls xs ++ cls ys := by simp [cls]
theorem cls_at (l : List Cl) (k : Nat) (h : k < l.length) : (cls l)[k * 2]? = some (.int .i64 l[k].x) ∧ (cls l)[k * 2 + 1]? = some (.int .i64 l[k].y) := by
  induction l generalizing k with
  | nil => simp at h
  | cons c l ih =>
    have e : cls (c :: l) = [.int .i64 c.x, .int .i64 c.y] ++ cls l := rfl
    rw [e]
    match k with
    | 0 => simp
    | k + 1 =>
      have := ih k (by simpa using h)
      rw [show (k + 1) * 2 = k * 2 + 2 from by omega, show k * 2 + 2 + 1 = k * 2 + 1 + 2 from by omega]
      simpa using this
theorem cls_one (l : List Cl) : ∀ u ∈ cls l, u.oneCell' = true := by
  intro u hu
  unfold cls at hu
  rw [List.mem_flatMap] at hu
  obtain ⟨c, _, hc⟩ := hu
  simp only [Cl.cells, List.mem_cons, List.not_mem_nil, or_false] at hc
  rcases hc with rfl | rfl <;> rfl
/-- The address and the cells of a list that is not empty. -/
theorem cl_open {w : World} {ad : Option Addr} {l : List Cl} (h : CellsAt w ad (cls l)) (hn : 0 < l.length) : ∃ g off, ad = some ⟨g, off, none⟩ ∧ g < w.heap.size ∧
    ∀ k (hk : k < l.length), w.cell? ⟨g, off + k * 2, none⟩ = some (.int .i64 l[k].x) ∧ w.cell? ⟨g, off + k * 2 + 1, none⟩ = some (.int .i64 l[k].y) := by
  obtain ⟨g, off, rfl, hg, hc⟩ := h.open (by rw [cls_length]; omega)
  refine ⟨g, off, rfl, hg, fun k hk => ?_⟩
  obtain ⟨i0, i1⟩ := cls_at l k hk
  exact ⟨hc _ _ i0, hc _ _ i1⟩
/-- Whether a cell is among those of a list. -/
def hasC (l : List Cl) (x y : Int) : Bool := decide ((⟨x, y⟩ : Cl) ∈ l)
theorem cl_eq_iff {c : Cl} {x y : Int} : c = ⟨x, y⟩ ↔ c.x = x ∧ c.y = y := by
  obtain ⟨a, b⟩ := c
  simp
theorem not_mem_take_succ {l : List Cl} {k : Nat} {c : Cl} (hk : k < l.length) (h : c ∉ l.take k) (hc : l[k] ≠ c) : c ∉ l.take (k + 1) := by
  rw [List.take_succ_eq_append_getElem hk, List.mem_append, List.mem_singleton]
  rintro (q | q)
  · exact h q
  · exact hc q.symm
theorem cl_box {w : World} {b : Nat} {x y : Int} (h : w.heap[b]? = some (.cells #[.int .i64 x, .int .i64 y] 47 (0, 0))) : w.cell? ⟨b, 0, none⟩ = some (.int .i64 x) ∧ w.cell? ⟨b, 1, none⟩ = some (.int .i64 y) :=
  ⟨by rw [cell_of_row w _ 0 _ _ _ h]; rfl, by rw [cell_of_row w _ 1 _ _ _ h]; rfl⟩
end Go.Proofs.Ytipikojinfpidaa
