/- Own: appending one element to a slice that the call itself owns, in a plain region and in one that draws its order. -/
import Derived.Test.YtipikojinfpidaaBase
import Derived.Deep.RegionLaw
import Derived.Deep.AppendLies
namespace Go.Proofs.Ytipikojinfpidaa
open Go.RowKit

/-- What the table of types says of a slice type t with elements e. -/
structure ElemT (P : Program) (t e : TypeId) (z : Value) (size bytes : Nat) : Prop where
  und : P.underlying t = some (.slice e)
  inf : ∃ i, P.info? e = some i ∧ i.zero = some z ∧ i.size = size ∧ i.bytes = bytes
  zs : z.cells.size = size
  pos : 0 < size

theorem grownBy_trans {a b c : World} {row : Option Nat} (h : a.grownBy b row) (k : b.grownBy c row) : a.grownBy c row :=
  ⟨k.os.trans h.os, k.tape.trans h.tape, k.output.trans h.output, Nat.le_trans h.size k.size, fun i hi hne => (k.block i (Nat.lt_of_lt_of_le hi h.size) hne).trans (h.block i hi hne)⟩
theorem grownBy_drew (w : World) (row : Option Nat) : w.grownBy w.drew row := ⟨rfl, rfl, rfl, Nat.le_refl _, fun _ _ _ => rfl⟩
theorem grownBy_refl (w : World) (row : Option Nat) : w.grownBy w row := ⟨rfl, rfl, rfl, Nat.le_refl _, fun _ _ _ => rfl⟩
theorem ownsRow_far {w w' : World} {row : Option Nat} {base e size n : Nat} {v : Value} {xs : List Value} (h : w.ownsRow base e size v n xs) (hg : w.grownBy w' row) (hne : ∀ k, row = some k → k < base) : w'.ownsRow base e size v n xs := by
  refine h.kept hg ?_
  cases hv : v.ownBlock with
  | none => exact .inl rfl
  | some k =>
    refine .inr fun q => ?_
    have h1 := (h.lt k hv).1
    have h2 := hne k q.symm
    omega

/-- An owned slice, seen as a value with its cells. -/
theorem ownsRow_view {w : World} {base e size n : Nat} {v : Value} {xs : List Value} (h : w.ownsRow base e size v n xs) :
    ∃ ad cap, v = .slice ad n cap ∧ (0 < n → ∃ g, ad = some ⟨g, 0, none⟩ ∧ base ≤ g ∧ g < w.heap.size ∧ ∀ j u, xs[j]? = some u → w.cell? ⟨g, j, none⟩ = some u) := by
  rcases h.2 with ⟨rfl, rfl⟩ | ⟨g, cap, cur, rfl, hb, hg, h1, h2, h3, h4⟩
  · exact ⟨none, 0, rfl, fun h => absurd h (by omega)⟩
  · refine ⟨_, cap, rfl, fun _ => ⟨g, rfl, hb, (Array.getElem?_eq_some_iff.1 hg).1, fun j u hu => ?_⟩⟩
    rw [cell_of_row w g j cur e (0, 0) hg]
    rw [← h4, List.getElem?_take] at hu
    split at hu
    · simpa using hu
    · cases hu

section
variable {P : Program} {ops : Array Oper} {o : Oper} {a : Act} {wr w2 : World} {K : Act → World → Prop} {Q : Exit → Act → World → Prop}

theorem app1_core (s x : Operand) (t : TypeId) (ho : o.op = .call { callee := .builtin .append, args := #[s, x], argTypes := #[t, t] })
    (base e : Nat) (z : Value) (size bytes : Nat) (T : ElemT P t e z size bytes) (v : Value) (n : Nat) (xs : List Value) (cs : Array Value) (B : Nat) (f : Nat × Nat) (hB : wr.heap.size = B)
    (hs : a.eval s = v) (hx : a.eval x = .slice (some ⟨B, 0, none⟩) 1 1) (hg2 : wr.grownBy w2 none) (hb2 : w2.heap[B]? = some (.cells cs e f)) (hown : wr.ownsRow base e size v n xs) (hcs : cs.size = size)
    (h1 : ∀ u ∈ cs.toList, u.oneCell' = true) (h63 : n + 1 ≤ maxLen) (hbytes : (n + 1) * bytes ≤ 140737488355328) (hbase : base ≤ B)
    (h : ∀ g cap w', w'.ownsRow base e size (.slice (some ⟨g, 0, none⟩) (n + 1) cap) (n + 1) (xs ++ cs.toList) → Below base wr w' → wr.grownBy w' v.ownBlock → base ≤ g → g < w'.heap.size → (v.ownBlock = some g ∨ B ≤ g) →
      K (a.put o.dst (.slice (some ⟨g, 0, none⟩) (n + 1) cap)) w') : o.wp P a w2 K Q := by
  subst hB
  obtain ⟨i, hi, hz, hsize, hby⟩ := T.inf
  have hlt : wr.heap.size < w2.heap.size := by
    rcases Nat.lt_or_ge wr.heap.size w2.heap.size with q | q
    · exact q
    · rw [Array.getElem?_eq_none q] at hb2; cases hb2
  have hown2 : w2.ownsRow base e size v n xs := hown.kept hg2 (by cases hv : v.ownBlock <;> simp)
  refine wp_append_lies w2 s x t ho base e i z size bytes T.und hi hz hsize hby T.zs T.pos v n xs hs hown2 ⟨wr.heap.size, 0, none⟩ 1 1 cs.toList hx (by simp [hcs]) (World.news_of_block hb2) h1 (by decide) h63 hbytes (by omega) _ rfl ?_
  intro g cap w' q1 q2 q3 q4
  have hall : wr.grownBy w' v.ownBlock := by
    refine grownBy_trans ⟨hg2.os, hg2.tape, hg2.output, hg2.size, fun k hk _ => hg2.block k hk (by simp)⟩ q2
  have hgb : base ≤ g := by
    rcases q3 with q3 | q3
    · exact (hown.lt g q3).1
    · omega
  refine h g cap w' q1 ?_ hall hgb q4 ?_
  · exact (Below.refl base wr).grown hall hbase (fun k hk => (hown.lt k hk).1)
  · rcases q3 with q3 | q3
    · exact .inl q3
    · right; omega

theorem ownsRow_empty (w : World) (e size : Nat) : (w.alloc (.cells #[] e)).ownsRow w.heap.size e size (.slice (some ⟨w.heap.size, 0, none⟩) 0 0) 0 [] :=
  World.ownsRow_made w #[] 0 (Nat.le_refl _) (by decide) (by simp)

theorem heap_alloc_top (w : World) (ob : Obj) : (w.alloc ob).heap[w.heap.size]? = some ob := heap_alloc_new w ob

/-- In a plain region: the element lies in the newest block. -/
theorem wpList_app1 {rest : List Oper} (hgd : o.guard = none) (s x : Operand) (t : TypeId) (ho : o.op = .call { callee := .builtin .append, args := #[s, x], argTypes := #[t, t] })
    (base e : Nat) (z : Value) (size bytes : Nat) (T : ElemT P t e z size bytes) (v : Value) (n : Nat) (xs : List Value) (cs : Array Value) (B : Nat) (f : Nat × Nat)
    (hs : a.eval s = v) (hx : a.eval x = .slice (some ⟨B, 0, none⟩) 1 1) (hB : wr.heap.size = B) (hown : wr.ownsRow base e size v n xs) (hcs : cs.size = size)
    (h1 : ∀ u ∈ cs.toList, u.oneCell' = true) (h63 : n + 1 ≤ maxLen) (hbytes : (n + 1) * bytes ≤ 140737488355328) (hbase : base ≤ B)
    (h : ∀ g cap w', w'.ownsRow base e size (.slice (some ⟨g, 0, none⟩) (n + 1) cap) (n + 1) (xs ++ cs.toList) → Below base wr w' → wr.grownBy w' v.ownBlock → base ≤ g → g < w'.heap.size → (v.ownBlock = some g ∨ B ≤ g) →
      wpList P ops Q rest (a.put o.dst (.slice (some ⟨g, 0, none⟩) (n + 1) cap)) w') : wpList P ops Q (o :: rest) a (wr.alloc (.cells cs e f)) :=
  wpList_plain hgd fun _ hK => app1_core s x t ho base e z size bytes T v n xs cs B f hB hs hx (World.grownBy_alloc wr _ none) (hB ▸ heap_alloc_top wr _) hown hcs h1 h63 hbytes hbase fun g cap w' q1 q2 q3 q4 q5 q6 => hK _ _ (h g cap w' q1 q2 q3 q4 q5 q6)

/-- In a region that draws its order. -/
theorem step_app1 {E : Prop} (hgd : o.guard = none) (s x : Operand) (t : TypeId) (ho : o.op = .call { callee := .builtin .append, args := #[s, x], argTypes := #[t, t] })
    (base e : Nat) (z : Value) (size bytes : Nat) (T : ElemT P t e z size bytes) (v : Value) (n : Nat) (xs : List Value) (cs : Array Value) (B : Nat) (f : Nat × Nat)
    (hs : a.eval s = v) (hx : a.eval x = .slice (some ⟨B, 0, none⟩) 1 1) (hB : wr.heap.size = B) (hown : wr.ownsRow base e size v n xs) (hcs : cs.size = size)
    (h1 : ∀ u ∈ cs.toList, u.oneCell' = true) (h63 : n + 1 ≤ maxLen) (hbytes : (n + 1) * bytes ≤ 140737488355328) (hbase : base ≤ B)
    (h : ∀ g cap w', w'.ownsRow base e size (.slice (some ⟨g, 0, none⟩) (n + 1) cap) (n + 1) (xs ++ cs.toList) → Below base wr w' → wr.grownBy w' v.ownBlock → base ≤ g → g < w'.heap.size → (v.ownBlock = some g ∨ B ≤ g) →
      K (a.put o.dst (.slice (some ⟨g, 0, none⟩) (n + 1) cap)) w') :
    if Region.wanted o (yielded ops a.tmps) = true then Oper.wp P o a ((wr.alloc (.cells cs e f)).drew) K Q else E := by
  have hw : Region.wanted o (yielded ops a.tmps) = true := by simp [Region.wanted, hgd]
  rw [if_pos hw]
  exact app1_core s x t ho base e z size bytes T v n xs cs B f hB hs hx (grownBy_trans (World.grownBy_alloc wr _ none) (grownBy_drew _ _)) (hB ▸ heap_alloc_top wr _) hown hcs h1 h63 hbytes hbase h
end

end Go.Proofs.Ytipikojinfpidaa
