/- Put0: the pieces of 'append(append(append([]T{}, l[:k]...), x), l[k:]...)', in whatever order its memory is made. -/
import Derived.Test.YtcoggnoeafpgbaaGreatAllFrame
import Derived.Deep.RegionHeld3
namespace Go.Proofs.YtcoggnoeafpgbaaGreat
open Go.RowKit

section
variable {P : Program} {ops : Array Oper} {o : Oper} {a : Act} {w : World} {K : Act → World → Prop} {Q : Exit → Act → World → Prop}
/-- append(v, xs...), v empty: a step of a region that draws its order. -/
theorem step_app0 {E : Prop} (hgd : o.guard = none) (s x : Operand) (t : TypeId) (ho : o.op = .call { callee := .builtin .append, args := #[s, x], argTypes := #[t, t] })
    (base e : Nat) (z : Value) (size bytes : Nat) (T : ElemT P t e z size bytes) (v : Value) (hs : a.eval s = v) (hown : w.ownsRow base e size v 0 [])
    (ad : Option Addr) (m c : Nat) (news : List Value) (hx : a.eval x = .slice ad m c) (hnil : ad = none → c = 0) (hl : news.length = m * size) (hc : CellsAt w ad news) (h1 : ∀ u ∈ news, u.oneCell' = true)
    (h63 : m ≤ maxLen) (hbytes : m * bytes ≤ 140737488355328) (hbase : base ≤ w.heap.size)
    (h : ∀ ad' cap' w', w'.ownsRow base e size (.slice ad' m cap') m news → Below base w w' → w.grownBy w' v.ownBlock → K (a.put o.dst (.slice ad' m cap')) w') :
    if Region.wanted o (yielded ops a.tmps) = true then Oper.wp P o a w K Q else E := by
  refine step_appN hgd s x t ho base e z size bytes T v 0 [] hs hown ad m c news hx hnil hl hc h1 (by omega) (by rw [Nat.zero_add]; exact hbytes) hbase ?_
  intro ad' cap' w' p1 p2 p3
  have := h ad' cap' w'
  simp only [Nat.zero_add, List.nil_append] at p1 ⊢
  exact this p1 p2 p3
end
theorem push_snd (a : Array Obj) (x y : Obj) : ((a.push x).push y)[a.size + 1]? = some y := by
  rw [Array.getElem?_push, if_pos (by simp)]
theorem push_fst (a : Array Obj) (x y : Obj) : ((a.push x).push y)[a.size]? = some x := by
  rw [Array.getElem?_push, if_neg (by simp), Array.getElem?_push, if_pos rfl]
section
variable {w W : World} {e size : Nat} {cs : Array Value}
/-- The empty slice that the statement makes: alone, ahead of the element's block, behind it. -/
theorem empty_a (h : W.heap = w.heap.push (.cells #[] e (0, 0))) : W.ownsRow w.heap.size e size (.slice (some ⟨w.heap.size, 0, none⟩) 0 0) 0 [] := by
  refine ⟨by simp, .inr ⟨w.heap.size, 0, #[], rfl, Nat.le_refl _, ?_, Nat.le_refl _, by decide, by simp, by simp⟩⟩
  rw [h]; simp
theorem empty_b {ob : Obj} (h : W.heap = (w.heap.push (.cells #[] e (0, 0))).push ob) : W.ownsRow w.heap.size e size (.slice (some ⟨w.heap.size, 0, none⟩) 0 0) 0 [] := by
  refine ⟨by simp, .inr ⟨w.heap.size, 0, #[], rfl, Nat.le_refl _, ?_, Nat.le_refl _, by decide, by simp, by simp⟩⟩
  rw [h]; exact push_fst _ _ _
theorem empty_c {ob : Obj} (h : W.heap = (w.heap.push ob).push (.cells #[] e (0, 0))) : W.ownsRow w.heap.size e size (.slice (some ⟨w.heap.size + 1, 0, none⟩) 0 0) 0 [] := by
  refine ⟨by simp, .inr ⟨w.heap.size + 1, 0, #[], rfl, Nat.le_succ _, ?_, Nat.le_refl _, by decide, by simp, by simp⟩⟩
  rw [h]; exact push_snd _ _ _
/-- The element's block. -/
theorem elem_at {B : Nat} (h : W.heap[B]? = some (.cells cs e (0, 0))) : CellsAt W (some ⟨B, 0, none⟩) cs.toList := by
  refine .inr ⟨B, 0, rfl, fun j u hu => ?_⟩
  rw [cell_of_row W _ (0 + j) _ _ _ h, Nat.zero_add]
  simpa using hu
theorem elem_a (h : W.heap = w.heap.push (.cells cs e (0, 0))) : CellsAt W (some ⟨w.heap.size, 0, none⟩) cs.toList := elem_at (e := e) (by rw [h]; simp)
theorem elem_b {W1 : World} {ob : Obj} {row : Option Nat} (h : W.heap = (w.heap.push ob).push (.cells cs e (0, 0))) (hg : W.grownBy W1 row) (hr : row = some w.heap.size) : CellsAt W1 (some ⟨w.heap.size + 1, 0, none⟩) cs.toList := by
  refine elem_at (e := e) ?_
  rw [hg.block (w.heap.size + 1) (by rw [h]; simp) (by rw [hr]; simp), h]
  exact push_snd _ _ _
theorem elem_c {W1 : World} {ob : Obj} {row : Option Nat} (h : W.heap = (w.heap.push (.cells cs e (0, 0))).push ob) (hg : W.grownBy W1 row) (hr : row = some (w.heap.size + 1)) : CellsAt W1 (some ⟨w.heap.size, 0, none⟩) cs.toList := by
  refine elem_at (e := e) ?_
  rw [hg.block w.heap.size (by rw [h]; simp; omega) (by rw [hr]; simp), h]
  exact push_fst _ _ _
/-- What is behind a place of a slice, and ahead of it. -/
theorem cellsAt_drop {g off n size : Nat} {cs : List Value} (h : CellsAt w (some ⟨g, off, none⟩) cs) (k : Nat) (hk : n = k * size) : CellsAt w (some ⟨g, off + n, none⟩) (cs.drop (k * size)) := by
  subst hk
  rcases h with h | ⟨g', off', hv, hc⟩
  · left; rw [h]; simp
  · cases hv
    refine .inr ⟨g, off + k * size, rfl, fun j u hu => ?_⟩
    rw [List.getElem?_drop] at hu
    have := hc (k * size + j) u hu
    rwa [← Nat.add_assoc] at this
end
theorem below_one {w W : World} {a : Obj} (h : W.heap = w.heap.push a) (h1 : W.os = w.os) (h2 : W.tape = w.tape) (h3 : W.output = w.output) : Below w.heap.size w W :=
  ⟨h1, h2, h3, by rw [h]; simp, fun k hk => by rw [h, Array.getElem?_push, if_neg (by omega)]⟩
theorem below_two {w W : World} {a b : Obj} (h : W.heap = (w.heap.push a).push b) (h1 : W.os = w.os) (h2 : W.tape = w.tape) (h3 : W.output = w.output) : Below w.heap.size w W :=
  ⟨h1, h2, h3, by rw [h]; simp; omega, fun k hk => by rw [h, Array.getElem?_push, if_neg (by simp; omega), Array.getElem?_push, if_neg (by omega)]⟩
theorem ints_take (l : List Int) (k : Nat) : ints (l.take k) = (ints l).take k := by simp [ints, List.map_take]
theorem ints_drop (l : List Int) (k : Nat) : ints (l.drop k) = (ints l).drop k := by simp [ints, List.map_drop]
theorem ownsRow_le_cap {w : World} {base e size n cap : Nat} {ad : Option Addr} {xs : List Value} (h : w.ownsRow base e size (.slice ad n cap) n xs) : n ≤ cap ∧ (ad = none → cap = 0) := by
  rcases h.2 with ⟨h1, h2⟩ | ⟨g, c', cur, h1, _, _, h2, _⟩
  · cases h1; exact ⟨by omega, fun _ => rfl⟩
  · cases h1; exact ⟨h2, fun h => by cases h⟩
end Go.Proofs.YtcoggnoeafpgbaaGreat
