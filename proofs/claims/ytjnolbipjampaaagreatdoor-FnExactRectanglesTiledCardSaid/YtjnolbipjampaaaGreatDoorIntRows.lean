/- IntRows: slices of slices of integers: how they are read, and how a call builds one row by row. -/
import Derived.Test.YtjnolbipjampaaaGreatDoorAllBase
namespace Go.Proofs.YtjnolbipjampaaaGreatDoor
open Go.RowKit

theorem Tryz.infoInts : (Tryz.prog.info? 35).map (fun i => (i.zero, i.size, i.bytes)) = some (some (Value.slice none 0 0), 1, 24) := by kernel_rfl
theorem Tryz.elemInts : ElemT Tryz.prog 24 35 (.slice none 0 0) 1 24 := ⟨Tryz.underlying24, info_parts Tryz.infoInts, rfl, by decide⟩

/-- The cells from the address on hold slices that hold the rows. -/
def MatAt (w : World) (ad : Option Addr) (rows : List (List Int)) : Prop :=
  ∃ vals : List Value, CellsAt w ad vals ∧ vals.length = rows.length ∧ ∀ (i : Nat) (xs : List Int), rows[i]? = some xs → ∃ ai ci, vals[i]? = some (Value.slice ai xs.length ci) ∧ CellsAt w ai (ints xs)
theorem MatAt.below {w w' : World} {ad : Option Addr} {rows : List (List Int)} (h : MatAt w ad rows) (hb : Below w.heap.size w w') : MatAt w' ad rows := by
  obtain ⟨vals, h1, h2, h3⟩ := h
  refine ⟨vals, h1.below hb, h2, fun i xs hx => ?_⟩
  obtain ⟨ai, ci, q1, q2⟩ := h3 i xs hx
  exact ⟨ai, ci, q1, q2.below hb⟩
/-- One row: its slice, then its cells. -/
theorem MatAt.row {w : World} {ad : Option Addr} {rows : List (List Int)} (h : MatAt w ad rows) {i : Nat} (hi : i < rows.length) :
    ∃ g off ai ci, ad = some ⟨g, off, none⟩ ∧ g < w.heap.size ∧ w.cell? ⟨g, off + i, none⟩ = some (Value.slice ai rows[i].length ci) ∧ CellsAt w ai (ints rows[i]) := by
  obtain ⟨vals, h1, h2, h3⟩ := h
  obtain ⟨g, off, rfl, hg, hc⟩ := h1.open (by omega)
  obtain ⟨ai, ci, q1, q2⟩ := h3 i rows[i] (by simp [hi])
  exact ⟨g, off, ai, ci, rfl, hg, hc i _ q1, q2⟩

/-- The values are slices, each a call's own, that hold the rows; a later one lies in a later block. -/
def RowsIn (w : World) (base : Nat) (vals : List Value) (rows : List (List Int)) : Prop :=
  vals.length = rows.length ∧ (∀ (i : Nat) (xs : List Int), rows[i]? = some xs → ∃ ai ci, vals[i]? = some (Value.slice ai xs.length ci) ∧ w.ownsRow base 3 1 (.slice ai xs.length ci) xs.length (ints xs)) ∧
    ∀ (i j : Nat) (u v : Value) (g h : Nat), i < j → vals[i]? = some u → vals[j]? = some v → u.ownBlock = some g → v.ownBlock = some h → g < h
theorem RowsIn.nil (w : World) (base : Nat) : RowsIn w base [] [] := ⟨rfl, fun i xs h => by simp at h, fun i j u v g h _ hu => by simp at hu⟩
theorem RowsIn.below {w w' : World} {base : Nat} {vals : List Value} {rows : List (List Int)} (h : RowsIn w base vals rows) (hb : Below w.heap.size w w') : RowsIn w' base vals rows := by
  obtain ⟨h1, h2, h3⟩ := h
  refine ⟨h1, fun i xs hx => ?_, h3⟩
  obtain ⟨ai, ci, q1, q2⟩ := h2 i xs hx
  exact ⟨ai, ci, q1, ownsRow_far_below q2 hb (Nat.le_refl _)⟩
/-- Behind writes to another block, of slices. -/
theorem RowsIn.grown {w w' : World} {base b e n : Nat} {v : Value} {cs : List Value} {vals : List Value} {rows : List (List Int)} (h : RowsIn w base vals rows)
    (ho : w.ownsRow b e 1 v n cs) (he : e ≠ 3) (hg : w.grownBy w' v.ownBlock) : RowsIn w' base vals rows := by
  obtain ⟨h1, h2, h3⟩ := h
  refine ⟨h1, fun i xs hx => ?_, h3⟩
  obtain ⟨ai, ci, q1, q2⟩ := h2 i xs hx
  refine ⟨ai, ci, q1, q2.kept hg ?_⟩
  rcases q2.2 with ⟨hv, _⟩ | ⟨g, c, cur, hv, _, hblk, _⟩
  · left; rw [hv]; rfl
  · rcases ho.2 with ⟨hv', _⟩ | ⟨g', c', cur', hv', _, hblk', _⟩
    · right; rw [hv, hv']; simp [Value.ownBlock]
    · right
      rw [hv, hv']
      intro hgg
      have hgg' : g = g' := by simpa [Value.ownBlock] using hgg
      subst hgg'
      rw [hblk] at hblk'
      simp at hblk'
      exact he hblk'.2.symm
theorem RowsIn.snoc {w w' : World} {base : Nat} {vals : List Value} {rows : List (List Int)} {ai : Option Addr} {ci : Nat} {xs : List Int} (h : RowsIn w base vals rows) (hb : Below w.heap.size w w')
    (hbase : base ≤ w.heap.size) (ho : w'.ownsRow w.heap.size 3 1 (.slice ai xs.length ci) xs.length (ints xs)) : RowsIn w' base (vals ++ [.slice ai xs.length ci]) (rows ++ [xs]) := by
  obtain ⟨h1, h2, h3⟩ := h
  refine ⟨by simp [h1], fun i ys hy => ?_, fun i j u v g k hij hu hv hg hk => ?_⟩
  · rw [List.getElem?_append] at hy ⊢
    by_cases q : i < rows.length
    · rw [if_pos q] at hy
      rw [if_pos (by omega)]
      obtain ⟨aj, cj, q1, q2⟩ := h2 i ys hy
      exact ⟨aj, cj, q1, ownsRow_far_below q2 hb (Nat.le_refl _)⟩
    · rw [if_neg q] at hy
      rw [if_neg (by omega), h1]
      have hi : i - rows.length = 0 := by
        rcases Nat.eq_zero_or_pos (i - rows.length) with q' | q'
        · exact q'
        · rw [List.getElem?_eq_none (by simp; omega)] at hy; cases hy
      rw [hi] at hy ⊢
      simp at hy
      subst hy
      exact ⟨ai, ci, rfl, ownsRow_rebase ho hbase⟩
  · have hjl : j < vals.length + 1 := by
      rcases Nat.lt_or_ge j (vals.length + 1) with q | q
      · exact q
      · rw [List.getElem?_eq_none (by simp; omega)] at hv; cases hv
    rw [List.getElem?_append, if_pos (by omega)] at hu
    rw [List.getElem?_append] at hv
    by_cases q : j < vals.length
    · rw [if_pos q] at hv
      exact h3 i j u v g k hij hu hv hg hk
    · have hj : j - vals.length = 0 := by omega
      rw [if_neg q, hj] at hv
      simp at hv
      subst hv
      have hk' := (ho.lt k hk).1
      have hi : i < rows.length := by omega
      obtain ⟨aj, cj, q1, q2⟩ := h2 i rows[i] (by simp [hi])
      rw [q1] at hu
      simp at hu
      subst hu
      have := (q2.lt g hg).2
      omega
/-- A slice of rows that a call has made. -/
def OwnMat (w : World) (base : Nat) (v : Value) (rows : List (List Int)) : Prop :=
  ∃ vals, w.ownsRow base 35 1 v rows.length vals ∧ RowsIn w base vals rows
theorem OwnMat.matAt {w : World} {base n c : Nat} {ad : Option Addr} {rows : List (List Int)} (h : OwnMat w base (.slice ad n c) rows) (hn : n = rows.length) : MatAt w ad rows := by
  obtain ⟨vals, h1, h2, h3, _⟩ := h
  subst hn
  refine ⟨vals, ownsRow_cellsAt h1, h2, fun i xs hx => ?_⟩
  obtain ⟨ai, ci, q1, q2⟩ := h3 i xs hx
  exact ⟨ai, ci, q1, ownsRow_cellsAt q2⟩
theorem OwnMat.below {w w' : World} {base : Nat} {v : Value} {rows : List (List Int)} (h : OwnMat w base v rows) (hb : Below w.heap.size w w') : OwnMat w' base v rows := by
  obtain ⟨vals, h1, h2⟩ := h
  exact ⟨vals, ownsRow_far_below h1 hb (Nat.le_refl _), h2.below hb⟩
theorem OwnMat.rebase {w : World} {base base' : Nat} {v : Value} {rows : List (List Int)} (h : OwnMat w base v rows) (hb : base' ≤ base) : OwnMat w base' v rows := by
  obtain ⟨vals, h1, h2, h3, h4⟩ := h
  refine ⟨vals, ownsRow_rebase h1 hb, h2, fun i xs hx => ?_, h4⟩
  obtain ⟨ai, ci, q1, q2⟩ := h3 i xs hx
  exact ⟨ai, ci, q1, ownsRow_rebase q2 hb⟩
theorem OwnMat.form {w : World} {base : Nat} {v : Value} {rows : List (List Int)} (h : OwnMat w base v rows) : ∃ ad cap, v = .slice ad rows.length cap := by
  obtain ⟨vals, h1, _⟩ := h
  obtain ⟨ad, cap, hv, _⟩ := ownsRow_cells h1
  exact ⟨ad, cap, hv⟩
end Go.Proofs.YtjnolbipjampaaaGreatDoor
