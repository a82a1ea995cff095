/- AllRows: parts laid together: IntRows, KinL. -/
import Derived.Test.YtajmdgcnnipdoaaGreatDoorAllBase

/- IntRows: slices of slices of integers: how they are read, and how a call builds one row by row. -/
namespace Go.Proofs.YtajmdgcnnipdoaaGreatDoor
open Go.RowKit

theorem Tryz.infoInts : (Tryz.prog.info? 24).map (fun i => (i.zero, i.size, i.bytes)) = some (some (Value.slice none 0 0), 1, 24) := by kernel_rfl
theorem Tryz.elemInts : ElemT Tryz.prog 44 24 (.slice none 0 0) 1 24 := ⟨Tryz.underlying44, info_parts Tryz.infoInts, rfl, by decide⟩

/-- The cells from the address on hold slices that hold the rows. -/
def MatAt (w : World) (ad : Option Addr) (rows : List (List Int)) : Prop :=
  ∃ vals : List Value, CellsAt w ad vals ∧ vals.length = rows.length ∧ ∀ (i : Nat) (xs : List Int), rows[i]? = some xs → ∃ ai ci, vals[i]? = some (Value.slice ai xs.length ci) ∧ CellsAt w ai (ints xs)
theorem MatAt.below {w w' : World} {ad : Option Addr} {rows : List (List Int)} (h : MatAt w ad rows) (hb : Below w.heap.size w w') : MatAt w' ad rows := by
  obtain ⟨vals, h1, h2, h3⟩ := h
  refine ⟨vals, h1.below hb, h2, fun i xs hx => ?_⟩
  obtain ⟨ai, ci, q1, q2⟩ := h3 i xs hx
  exact ⟨ai, ci, q1, q2.below hb⟩
/-- One row: its slice, then its cells. -/
theorem MatAt.row {w : World} {ad : Option Addr} {rows : List (List Int)} (h : MatAt w ad rows) {i : Nat} (hi : i < rows.length) :
    ∃ g off ai ci, ad = some ⟨g, off, none⟩ ∧ g < w.heap.size ∧ w.cell? ⟨g, off + i, none⟩ = some (Value.slice ai rows[i].length ci) ∧ CellsAt w ai (ints rows[i]) := by
  obtain ⟨vals, h1, h2, h3⟩ := h
  obtain ⟨g, off, rfl, hg, hc⟩ := h1.open (by omega)
  obtain ⟨ai, ci, q1, q2⟩ := h3 i rows[i] (by simp [hi])
  exact ⟨g, off, ai, ci, rfl, hg, hc i _ q1, q2⟩

/-- The values are slices, each a call's own, that hold the rows; a later one lies in a later block. -/
def RowsIn (w : World) (base : Nat) (vals : List Value) (rows : List (List Int)) : Prop :=
  vals.length = rows.length ∧ (∀ (i : Nat) (xs : List Int), rows[i]? = some xs → ∃ ai ci, vals[i]? = some (Value.slice ai xs.length ci) ∧ w.ownsRow base 3 1 (.slice ai xs.length ci) xs.length (ints xs)) ∧
    ∀ (i j : Nat) (u v : Value) (g h : Nat), i < j → vals[i]? = some u → vals[j]? = some v → u.ownBlock = some g → v.ownBlock = some h → g < h
theorem RowsIn.nil (w : World) (base : Nat) : RowsIn w base [] [] := ⟨rfl, fun i xs h => by simp at h, fun i j u v g h _ hu => by simp at hu⟩
theorem RowsIn.below {w w' : World} {base : Nat} {vals : List Value} {rows : List (List Int)} (h : RowsIn w base vals rows) (hb : Below w.heap.size w w') : RowsIn w' base vals rows := by
  obtain ⟨h1, h2, h3⟩ := h
  refine ⟨h1, fun i xs hx => ?_, h3⟩
  obtain ⟨ai, ci, q1, q2⟩ := h2 i xs hx
  exact ⟨ai, ci, q1, ownsRow_far_below q2 hb (Nat.le_refl _)⟩
/-- Behind writes to another block, of slices. -/
theorem RowsIn.grown {w w' : World} {base b e n : Nat} {v : Value} {cs : List Value} {vals : List Value} {rows : List (List Int)} (h : RowsIn w base vals rows)
    (ho : w.ownsRow b e 1 v n cs) (he : e ≠ 3) (hg : w.grownBy w' v.ownBlock) : RowsIn w' base vals rows := by
  obtain ⟨h1, h2, h3⟩ := h
  refine ⟨h1, fun i xs hx => ?_, h3⟩
  obtain ⟨ai, ci, q1, q2⟩ := h2 i xs hx
  refine ⟨ai, ci, q1, q2.kept hg ?_⟩
  rcases q2.2 with ⟨hv, _⟩ | ⟨g, c, cur, hv, _, hblk, _⟩
  · left; rw [hv]; rfl
  · rcases ho.2 with ⟨hv', _⟩ | ⟨g', c', cur', hv', _, hblk', _⟩
    · right; rw [hv, hv']; simp [Value.ownBlock]
    · right
      rw [hv, hv']
      intro hgg
      have hgg' : g = g' := by simpa [Value.ownBlock] using hgg
      subst hgg'
      rw [hblk] at hblk'
      simp at hblk'
      exact he hblk'.2.symm
theorem RowsIn.snoc {w w' : World} {base : Nat} {vals : List Value} {rows : List (List Int)} {ai : Option Addr} {ci : Nat} {xs : List Int} (h : RowsIn w base vals rows) (hb : Below w.heap.size w w')
    (hbase : base ≤ w.heap.size) (ho : w'.ownsRow w.heap.size 3 1 (.slice ai xs.length ci) xs.length (ints xs)) : RowsIn w' base (vals ++ [.slice ai xs.length ci]) (rows ++ [xs]) := by
  obtain ⟨h1, h2, h3⟩ := h
  refine ⟨by simp [h1], fun i ys hy => ?_, fun i j u v g k hij hu hv hg hk => ?_⟩
  · rw [List.getElem?_append] at hy ⊢
    by_cases q : i < rows.length
    · rw [if_pos q] at hy
      rw [if_pos (by omega)]
      obtain ⟨aj, cj, q1, q2⟩ := h2 i ys hy
      exact ⟨aj, cj, q1, ownsRow_far_below q2 hb (Nat.le_refl _)⟩
    · rw [if_neg q] at hy
      rw [if_neg (by omega), h1]
      have hi : i - rows.length = 0 := by
        rcases Nat.eq_zero_or_pos (i - rows.length) with q' | q'
        · exact q'
        · rw [List.getElem?_eq_none (by simp; omega)] at hy; cases hy
      rw [hi] at hy ⊢
      simp at hy
      subst hy
      exact ⟨ai, ci, rfl, ownsRow_rebase ho hbase⟩
  · have hjl : j < vals.length + 1 := by
      rcases Nat.lt_or_ge j (vals.length + 1) with q | q
      · exact q
      · rw [List.getElem?_eq_none (by simp; omega)] at hv; cases hv
    rw [List.getElem?_append, if_pos (by omega)] at hu
    rw [List.getElem?_append] at hv
    by_cases q : j < vals.length
    · rw [if_pos q] at hv
      exact h3 i j u v g k hij hu hv hg hk
    · have hj : j - vals.length = 0 := by omega
      rw [if_neg q, hj] at hv
      simp at hv
      subst hv
      have hk' := (ho.lt k hk).1
      have hi : i < rows.length := by omega
      obtain ⟨aj, cj, q1, q2⟩ := h2 i rows[i] (by simp [hi])
      rw [q1] at hu
      simp at hu
      subst hu
      have := (q2.lt g hg).2
      omega
/-- A slice of rows that a call has made. -/
def OwnMat (w : World) (base : Nat) (v : Value) (rows : List (List Int)) : Prop :=
  ∃ vals, w.ownsRow base 24 1 v rows.length vals ∧ RowsIn w base vals rows
theorem OwnMat.matAt {w : World} {base n c : Nat} {ad : Option Addr} {rows : List (List Int)} (h : OwnMat w base (.slice ad n c) rows) (hn : n = rows.length) : MatAt w ad rows := by
  obtain ⟨vals, h1, h2, h3, _⟩ := h
  subst hn
  refine ⟨vals, ownsRow_cellsAt h1, h2, fun i xs hx => ?_⟩
  obtain ⟨ai, ci, q1, q2⟩ := h3 i xs hx
  exact ⟨ai, ci, q1, ownsRow_cellsAt q2⟩
theorem OwnMat.below {w w' : World} {base : Nat} {v : Value} {rows : List (List Int)} (h : OwnMat w base v rows) (hb : Below w.heap.size w w') : OwnMat w' base v rows := by
  obtain ⟨vals, h1, h2⟩ := h
  exact ⟨vals, ownsRow_far_below h1 hb (Nat.le_refl _), h2.below hb⟩
theorem OwnMat.rebase {w : World} {base base' : Nat} {v : Value} {rows : List (List Int)} (h : OwnMat w base v rows) (hb : base' ≤ base) : OwnMat w base' v rows := by
  obtain ⟨vals, h1, h2, h3, h4⟩ := h
  refine ⟨vals, ownsRow_rebase h1 hb, h2, fun i xs hx => ?_, h4⟩
  obtain ⟨ai, ci, q1, q2⟩ := h3 i xs hx
  exact ⟨ai, ci, q1, ownsRow_rebase q2 hb⟩
theorem OwnMat.form {w : World} {base : Nat} {v : Value} {rows : List (List Int)} (h : OwnMat w base v rows) : ∃ ad cap, v = .slice ad rows.length cap := by
  obtain ⟨vals, h1, _⟩ := h
  obtain ⟨ad, cap, hv, _⟩ := ownsRow_cells h1
  exact ⟨ad, cap, hv⟩
end Go.Proofs.YtajmdgcnnipdoaaGreatDoor

/- KinL: rows that a call keeps in a list of lists that grows in place; what that leaves as it was. -/
namespace Go.Proofs.YtajmdgcnnipdoaaGreatDoor
open Go.RowKit

/-- The values are slices, each of the call's own, that hold the rows. -/
def RowsW (w : World) (base : Nat) (vals : List Value) (rows : List (List Int)) : Prop :=
  vals.length = rows.length ∧ ∀ (i : Nat) (xs : List Int), rows[i]? = some xs → ∃ ai ci, vals[i]? = some (Value.slice ai xs.length ci) ∧ w.ownsRow base 3 1 (.slice ai xs.length ci) xs.length (ints xs)
theorem RowsW.nil (w : World) (base : Nat) : RowsW w base [] [] := ⟨rfl, fun i xs h => by simp at h⟩
theorem RowsW.mono {w w' : World} {base : Nat} {vals : List Value} {rows : List (List Int)} (h : RowsW w base vals rows)
    (hk : ∀ v n xs, w.ownsRow base 3 1 v n xs → w'.ownsRow base 3 1 v n xs) : RowsW w' base vals rows := by
  obtain ⟨h1, h2⟩ := h
  refine ⟨h1, fun i xs hx => ?_⟩
  obtain ⟨ai, ci, q1, q2⟩ := h2 i xs hx
  exact ⟨ai, ci, q1, hk _ _ _ q2⟩
theorem RowsW.below {w w' : World} {base : Nat} {vals : List Value} {rows : List (List Int)} (h : RowsW w base vals rows) (hb : Below w.heap.size w w') : RowsW w' base vals rows :=
  h.mono fun _ _ _ q => ownsRow_far_below q hb (Nat.le_refl _)
theorem RowsW.rebase {w : World} {base base' : Nat} {vals : List Value} {rows : List (List Int)} (h : RowsW w base vals rows) (hb : base' ≤ base) : RowsW w base' vals rows := by
  obtain ⟨h1, h2⟩ := h
  refine ⟨h1, fun i xs hx => ?_⟩
  obtain ⟨ai, ci, q1, q2⟩ := h2 i xs hx
  exact ⟨ai, ci, q1, ownsRow_rebase q2 hb⟩
theorem RowsW.snoc {w : World} {base : Nat} {vals : List Value} {rows : List (List Int)} {ai : Option Addr} {ci : Nat} {xs : List Int} (h : RowsW w base vals rows)
    (ho : w.ownsRow base 3 1 (.slice ai xs.length ci) xs.length (ints xs)) : RowsW w base (vals ++ [.slice ai xs.length ci]) (rows ++ [xs]) := by
  obtain ⟨h1, h2⟩ := h
  refine ⟨by simp [h1], fun i ys hy => ?_⟩
  rw [List.getElem?_append] at hy ⊢
  by_cases q : i < rows.length
  · rw [if_pos q] at hy
    rw [if_pos (by omega)]
    exact h2 i ys hy
  · rw [if_neg q] at hy
    rw [if_neg (by omega), h1]
    have hi : i - rows.length = 0 := by
      rcases Nat.eq_zero_or_pos (i - rows.length) with q' | q'
      · exact q'
      · rw [List.getElem?_eq_none (by simp; omega)] at hy; cases hy
    rw [hi] at hy ⊢
    simp at hy
    subst hy
    exact ⟨ai, ci, rfl, ho⟩
theorem RowsW.ones {w : World} {base : Nat} {vals : List Value} {rows : List (List Int)} (h : RowsW w base vals rows) : ∀ u ∈ vals, u.oneCell' = true := by
  intro u hu
  obtain ⟨i, hi, rfl⟩ := List.mem_iff_getElem.1 hu
  obtain ⟨hl, h2⟩ := h
  obtain ⟨ai, ci, q1, _⟩ := h2 i rows[i] (by simp [← hl, hi])
  rw [List.getElem?_eq_getElem hi] at q1
  rw [Option.some.inj q1]
  rfl
/-- A row of integers stays where only one block of slices turns. -/
theorem ownsRow_grown {w w' : World} {base b n m : Nat} {u v : Value} {cs xs : List Value} (h : w.ownsRow base 3 1 u m xs)
    (ho : w.ownsRow b 24 1 v n cs) (hg : w.grownBy w' v.ownBlock) : w'.ownsRow base 3 1 u m xs := by
  refine h.kept hg ?_
  rcases h.2 with ⟨hv, _⟩ | ⟨g, c, cur, hv, _, hblk, _⟩
  · left; rw [hv]; rfl
  · rcases ho.2 with ⟨hv', _⟩ | ⟨g', c', cur', hv', _, hblk', _⟩
    · right; rw [hv, hv']; simp [Value.ownBlock]
    · right
      rw [hv, hv']
      intro hgg
      have hgg' : g = g' := by simpa [Value.ownBlock] using hgg
      subst hgg'
      rw [hblk] at hblk'
      simp at hblk'
/-- Below lo all stays; behind hi all but blocks of slices. -/
structure Kin (lo hi : Nat) (w w' : World) : Prop where
  os : w'.os = w.os
  tape : w'.tape = w.tape
  output : w'.output = w.output
  size : w.heap.size ≤ w'.heap.size
  low : ∀ k, k < w.heap.size → k < lo → w'.heap[k]? = w.heap[k]?
  high : ∀ k arr t fl, hi ≤ k → w.heap[k]? = some (.cells arr t fl) → t ≠ 24 → w'.heap[k]? = some (.cells arr t fl)
theorem Kin.trans {lo hi : Nat} {a b c : World} (h : Kin lo hi a b) (k : Kin lo hi b c) : Kin lo hi a c :=
  ⟨k.os.trans h.os, k.tape.trans h.tape, k.output.trans h.output, Nat.le_trans h.size k.size, fun i q1 q2 => (k.low i (Nat.lt_of_lt_of_le q1 h.size) q2).trans (h.low i q1 q2), fun i arr t fl q1 q2 q3 => k.high i arr t fl q1 (h.high i arr t fl q1 q2 q3) q3⟩
theorem Kin.of_below {lo hi : Nat} {w w' : World} (h : Below w.heap.size w w') : Kin lo hi w w' :=
  ⟨h.os, h.tape, h.output, h.size, fun k q _ => h.block k q, fun k _ _ _ _ q _ => (h.block k (lt_of_block q)).trans q⟩
theorem Kin.of_touched {lo hi : Nat} {w w' : World} (h : Touched lo hi w w') : Kin lo hi w w' :=
  ⟨h.os, h.tape, h.output, h.size, fun k q r => h.block k q (.inl r), fun k _ _ _ r q _ => (h.block k (lt_of_block q) (.inr r)).trans q⟩
theorem Kin.below {lo hi : Nat} {w w' : World} (h : Kin lo hi w w') (hs : lo ≤ w.heap.size) : Below lo w w' :=
  ⟨h.os, h.tape, h.output, h.size, fun k hk => h.low k (by omega) hk⟩
/-- An append to the list of rows. -/
theorem Kin.grown {lo hi base n : Nat} {w w' : World} {v : Value} {cs : List Value} (ho : w.ownsRow base 24 1 v n cs) (hl : lo ≤ base) (hg : w.grownBy w' v.ownBlock) : Kin lo hi w w' := by
  refine ⟨hg.os, hg.tape, hg.output, hg.size, fun k q r => hg.block k q (fun e => ?_), fun k arr t fl _ q r => ?_⟩
  · have := (ho.lt k e.symm).1
    omega
  · refine (hg.block k (lt_of_block q) (fun e => ?_)).trans q
    rcases ho.2 with ⟨hv', _⟩ | ⟨g', c', cur', hv', _, hblk', _⟩
    · rw [hv'] at e; cases e
    · rw [hv'] at e
      have e' : k = g' := by simpa [Value.ownBlock] using e
      subst e'
      rw [q] at hblk'
      simp at hblk'
      exact r hblk'.2.1
theorem Kin.owns {lo hi n : Nat} {w w' : World} {v : Value} {xs : List Value} (h : Kin lo hi w w') (ho : w.ownsRow hi 3 1 v n xs) : w'.ownsRow hi 3 1 v n xs := by
  refine ⟨ho.1, ?_⟩
  rcases ho.2 with q2 | ⟨g, c, cur, q1, q2, q3, r⟩
  · exact .inl q2
  · exact .inr ⟨g, c, cur, q1, q2, h.high g _ _ _ q2 q3 (by decide), r⟩
theorem RowsIn.mono {w w' : World} {base : Nat} {vals : List Value} {rows : List (List Int)} (h : RowsIn w base vals rows)
    (hk : ∀ v n xs, w.ownsRow base 3 1 v n xs → w'.ownsRow base 3 1 v n xs) : RowsIn w' base vals rows := by
  obtain ⟨h1, h2, h3⟩ := h
  refine ⟨h1, fun i xs hx => ?_, h3⟩
  obtain ⟨ai, ci, q1, q2⟩ := h2 i xs hx
  exact ⟨ai, ci, q1, hk _ _ _ q2⟩
theorem RowsIn.ones {w : World} {base : Nat} {vals : List Value} {rows : List (List Int)} (h : RowsIn w base vals rows) : ∀ u ∈ vals, u.oneCell' = true :=
  RowsW.ones ⟨h.1, h.2.1⟩
/-- A row whose block is new is of the call's own from there on. -/
theorem ownsRow_fresh {w : World} {base b e size n : Nat} {v : Value} {xs : List Value} (h : w.ownsRow b e size v n xs) (hf : ∀ k, v.ownBlock = some k → base ≤ k) : w.ownsRow base e size v n xs := by
  refine ⟨h.1, ?_⟩
  rcases h.2 with q2 | ⟨g, c, cur, q1, q2, q3, r⟩
  · exact .inl q2
  · exact .inr ⟨g, c, cur, q1, hf g (by rw [q1]; rfl), q3, r⟩
end Go.Proofs.YtajmdgcnnipdoaaGreatDoor
