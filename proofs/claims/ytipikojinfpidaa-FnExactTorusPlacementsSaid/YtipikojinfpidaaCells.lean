/- Cells: what it means that a slice's cells hold a list of values; how that is kept, and where it comes from. -/
import Derived.Test.YtipikojinfpidaaOwn
namespace Go.Proofs.Ytipikojinfpidaa
open Go.RowKit

/-- The cells from the address on hold the list. -/
def CellsAt (w : World) (ad : Option Addr) (cs : List Value) : Prop :=
  cs = [] ∨ ∃ g off, ad = some ⟨g, off, none⟩ ∧ ∀ j u, cs[j]? = some u → w.cell? ⟨g, off + j, none⟩ = some u
def ints (xs : List Int) : List Value := xs.map (Value.int .i64)
theorem ints_length (xs : List Int) : (ints xs).length = xs.length := by simp [ints]
theorem ints_at (xs : List Int) (k : Nat) (h : k < xs.length) : (ints xs)[k]? = some (.int .i64 xs[k]) := by simp [ints, h]
theorem ints_append (xs ys : List Int) : ints (xs ++ ys) = ints xs ++ ints ys := by simp [ints]

theorem CellsAt.nil (w : World) (ad : Option Addr) : CellsAt w ad [] := .inl rfl
/-- The address and the cells of a list that is not empty. -/
theorem CellsAt.open {w : World} {ad : Option Addr} {cs : List Value} (h : CellsAt w ad cs) (hn : 0 < cs.length) : ∃ g off, ad = some ⟨g, off, none⟩ ∧ g < w.heap.size ∧ ∀ j u, cs[j]? = some u → w.cell? ⟨g, off + j, none⟩ = some u := by
  rcases h with rfl | ⟨g, off, rfl, hc⟩
  · simp at hn
  · refine ⟨g, off, rfl, ?_, hc⟩
    have h0 := hc 0 (cs[0]) (by simp [hn])
    exact World.block_lt_of_cell? w _ h0
theorem CellsAt.same {w w' : World} {ad : Option Addr} {cs : List Value} (h : CellsAt w ad cs) (hc : ∀ g, g < w.heap.size → ∀ o, w'.cell? ⟨g, o, none⟩ = w.cell? ⟨g, o, none⟩) : CellsAt w' ad cs := by
  rcases h with rfl | ⟨g, off, rfl, hcs⟩
  · exact .inl rfl
  · refine .inr ⟨g, off, rfl, fun j u hu => ?_⟩
    have h1 := hcs j u hu
    rw [hc g (World.block_lt_of_cell? w _ h1)]
    exact h1
theorem CellsAt.below {w w' : World} {ad : Option Addr} {cs : List Value} (h : CellsAt w ad cs) (hb : Below w.heap.size w w') : CellsAt w' ad cs :=
  h.same fun _ hg _ => hb.cell hg
theorem CellsAt.drewN {w : World} {ad : Option Addr} {cs : List Value} (h : CellsAt w ad cs) (n : Nat) : CellsAt (w.drewN n) ad cs := h
/-- Behind a change to one block that is not this list's. -/
theorem CellsAt.take {w : World} {ad : Option Addr} {cs : List Value} (h : CellsAt w ad cs) (n : Nat) : CellsAt w ad (cs.take n) := by
  rcases h with rfl | ⟨g, off, rfl, hcs⟩
  · left; simp
  · refine .inr ⟨g, off, rfl, fun j u hu => hcs j u ?_⟩
    rw [List.getElem?_take] at hu
    split at hu
    · exact hu
    · cases hu

/-- An owned slice: the value written out, its cells, where it lies. -/
theorem ownsRow_cells {w : World} {base e size n : Nat} {v : Value} {xs : List Value} (h : w.ownsRow base e size v n xs) :
    ∃ ad cap, v = .slice ad n cap ∧ CellsAt w ad xs := by
  rcases h.2 with ⟨rfl, rfl⟩ | ⟨g, cap, cur, rfl, hb, hg, h1, h2, h3, h4⟩
  · refine ⟨none, 0, rfl, .inl ?_⟩
    have := h.1
    rw [Nat.zero_mul] at this
    exact List.eq_nil_of_length_eq_zero this
  · refine ⟨_, cap, rfl, .inr ⟨g, 0, rfl, fun j u hu => ?_⟩⟩
    rw [Nat.zero_add, cell_of_row w g j cur e (0, 0) hg]
    rw [← h4, List.getElem?_take] at hu
    split at hu
    · simpa using hu
    · cases hu
theorem ownsRow_cellsAt {w : World} {base e size n cap : Nat} {ad : Option Addr} {xs : List Value} (h : w.ownsRow base e size (.slice ad n cap) n xs) : CellsAt w ad xs := by
  obtain ⟨ad', cap', he, hc⟩ := ownsRow_cells h
  cases he
  exact hc
theorem ownsRow_far_below {w w' : World} {base e size n B : Nat} {v : Value} {xs : List Value} (h : w.ownsRow base e size v n xs) (hb : Below B w w') (hB : w.heap.size ≤ B) : w'.ownsRow base e size v n xs := by
  refine h.kept (row := none) ⟨hb.os, hb.tape, hb.output, hb.size, fun k hk _ => hb.block k (by omega)⟩ ?_
  cases v.ownBlock <;> simp
theorem ownsRow_drewN {w : World} {base e size n : Nat} {v : Value} {xs : List Value} (h : w.ownsRow base e size v n xs) (k : Nat) : (w.drewN k).ownsRow base e size v n xs := h
theorem ownsRow_rebase {w : World} {base base' e size n : Nat} {v : Value} {xs : List Value} (h : w.ownsRow base e size v n xs) (hb : base' ≤ base) : w.ownsRow base' e size v n xs := by
  refine ⟨h.1, ?_⟩
  rcases h.2 with h2 | ⟨g, cap, cur, h1, h2, r⟩
  · exact .inl h2
  · exact .inr ⟨g, cap, cur, h1, Nat.le_trans hb h2, r⟩

/-- The first k of a list, then zeros. -/
def mixed (z : Value) (cs : List Value) (k : Nat) : List Value := cs.take k ++ List.replicate (cs.length - k) z
theorem mixed_zero (z : Value) (cs : List Value) : mixed z cs 0 = List.replicate cs.length z := by simp [mixed]
theorem mixed_all (z : Value) (cs : List Value) : mixed z cs cs.length = cs := by simp [mixed]
theorem mixed_set (z : Value) (cs : List Value) (k : Nat) (hk : k < cs.length) : (mixed z cs k).set k cs[k] = mixed z cs (k + 1) := by
  unfold mixed
  rw [List.set_append_right _ _ (by simp; omega)]
  have e : (cs.take k).length = k := by simp; omega
  rw [e, Nat.sub_self, List.take_succ_eq_append_getElem hk, List.append_assoc]
  congr 1
  obtain ⟨m, hm⟩ : ∃ m, cs.length - k = m + 1 := ⟨cs.length - k - 1, by omega⟩
  have hm' : cs.length - (k + 1) = m := by omega
  rw [hm, hm']
  simp [List.replicate_succ]
theorem madeCells_all (z : Array Value) (u : Value) (n : Nat) (hz : 0 < z.size) (h : ∀ i, i < z.size → z[i]! = u) : (madeCells z n).toList = List.replicate n u := by
  rw [List.eq_replicate_iff]
  refine ⟨by simp [madeCells], fun b hb => ?_⟩
  unfold madeCells at hb
  rw [Array.toList_map, List.mem_map] at hb
  obtain ⟨i, _, rfl⟩ := hb
  exact h _ (Nat.mod_lt _ hz)
theorem madeCells_one (z : Value) (n : Nat) : (madeCells #[z] n).toList = List.replicate n z :=
  madeCells_all #[z] z n (by simp) fun i hi => by
    obtain rfl : i = 0 := by simpa using hi
    rfl

theorem mixed_ints_set (xs : List Int) (k : Nat) (hk : k < xs.length) : (mixed (.int .i64 0) (ints xs) k).set k (.int .i64 xs[k]) = mixed (.int .i64 0) (ints xs) (k + 1) := by
  have h := mixed_set (.int .i64 0) (ints xs) k (by rw [ints_length]; exact hk)
  have e : (ints xs)[k]'(by rw [ints_length]; exact hk) = .int .i64 xs[k] := by simp [ints]
  rw [e] at h
  exact h
theorem mixed_length (z : Value) (cs : List Value) (k : Nat) : (mixed z cs k).length = cs.length := by
  unfold mixed; simp; omega

/-- make([]T, n), all of whose zero cells are one value. -/
theorem wpList_make {P : Program} (w : World) {ops : Array Oper} {rest : List Oper} {o : Oper} {a : Act} {Q : Exit → Act → World → Prop}
    (hg : o.guard = none) (l c : Operand) (t : TypeId) (hop : o.op = Op.makeSlice t l c) (e : TypeId) (z : Value) (size bytes : Nat) (T : ElemT P t e z size bytes)
    (u : Value) (hu : ∀ i, i < z.cells.size → z.cells[i]! = u) (n : Nat) (hl : a.eval l = .int .i64 n) (hc : a.eval c = .int .i64 n) (b2 : bytes * n ≤ 281474976710656) (b3 : n ≤ maxLen) (cs : List Value) (hcs : cs.length = n * size)
    (hK : ∀ w', w'.ownsRow w.heap.size e size (.slice (some ⟨w.heap.size, 0, none⟩) n n) n (mixed u cs 0) → w.grownBy w' none → Below w.heap.size w w' → wpList P ops Q rest (a.put o.dst (.slice (some ⟨w.heap.size, 0, none⟩) n n)) w') :
    wpList P ops Q (o :: rest) a w := by
  obtain ⟨i, hi, hz, hsize, hby⟩ := T.inf
  refine wpList_make_full w hg l c t hop w.heap.size e i z size T.und hi hz hsize .i64 .i64 n n n hl hc rfl rfl (by rw [hby]; exact b2) b3 (Nat.le_refl _) ?_
  intro w' h1 h2
  rw [madeCells_all z.cells u _ (by rw [T.zs]; exact T.pos) hu, ← hcs, ← mixed_zero] at h1
  exact hK w' h1 h2 ((Below.refl _ _).grown h2 (Nat.le_refl _) (fun k hk => by cases hk))

end Go.Proofs.Ytipikojinfpidaa
