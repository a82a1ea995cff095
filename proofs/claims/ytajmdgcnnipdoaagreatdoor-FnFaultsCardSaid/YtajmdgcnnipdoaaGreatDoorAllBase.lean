/- AllBase: parts laid together: Base, Own, Cells, Num, Ints0, IntsEq, Ints, Range, AppN, App. -/
import Derived.WalkKit
import Derived.Handy
import Derived.WalkLawsBesides
import Derived.WalkSpells
import Derived.BigQuiet
import Derived.IntWalk
import Derived.Deep.QuietTactic
import Derived.StillTailTactics
import Derived.Lib.Hide
import Derived.Deep.RegionLaw
import Derived.Deep.AppendLies
import Derived.Test.YtajmdgcnnipdoaaGreatDoorProg
import Derived.Laws.AppendOwnNone

/- Base: plain lemmas on bits of int64 numbers and on the cells of slices; no statement about a Go function. -/
namespace Go.Proofs.YtajmdgcnnipdoaaGreatDoor
open Go.RowKit

theorem ofInt_i64 (a : Nat) (ha : a < 18446744073709551616) : (BitVec.ofInt 64 (a : Int)).toNat = a := by
  rw [BitVec.ofInt_natCast, BitVec.toNat_ofNat]; exact Nat.mod_eq_of_lt (by omega)
theorem i64_and_nat (a b : Nat) (ha : a < 9223372036854775808) (hb : b < 9223372036854775808) : bits .and .i64 (a : Int) (b : Int) = ((a &&& b : Nat) : Int) := by
  have hx : a &&& b ≤ a := Nat.and_le_left
  show IntKind.i64.wrap ((BitVec.ofInt 64 (a : Int) &&& BitVec.ofInt 64 (b : Int)).toNat : Int) = _
  rw [BitVec.toNat_and, ofInt_i64 a (by omega), ofInt_i64 b (by omega), IntKind.wrap_i64]
  omega
theorem i64_or_nat (a b : Nat) (ha : a < 9223372036854775808) (hb : b < 9223372036854775808) : bits .or .i64 (a : Int) (b : Int) = ((a ||| b : Nat) : Int) := by
  have hx : a ||| b < 2 ^ 63 := Nat.or_lt_two_pow (by omega) (by omega)
  show IntKind.i64.wrap ((BitVec.ofInt 64 (a : Int) ||| BitVec.ofInt 64 (b : Int)).toNat : Int) = _
  rw [BitVec.toNat_or, ofInt_i64 a (by omega), ofInt_i64 b (by omega), IntKind.wrap_i64]
  omega
theorem i64_and_one (a : Nat) (ha : a < 9223372036854775808) : bits .and .i64 (a : Int) 1 = ((a % 2 : Nat) : Int) := by
  have := i64_and_nat a 1 ha (by omega)
  rw [Nat.and_one_is_mod] at this
  exact this
theorem and_shr_one (m k : Nat) (hm : m < 9223372036854775808) : bits .and .i64 ((m : Int) / 2 ^ k) 1 = if m.testBit k then 1 else 0 := by
  have e : ((m : Int) / 2 ^ k) = ((m / 2 ^ k : Nat) : Int) := by norm_cast
  rw [e, i64_and_one _ (Nat.lt_of_le_of_lt (Nat.div_le_self _ _) hm), Nat.testBit_eq_decide_div_mod_eq]
  have := Nat.mod_lt (m / 2 ^ k) (show 0 < 2 by decide)
  by_cases h : m / 2 ^ k % 2 = 1
  · simp [h]
  · have h0 : m / 2 ^ k % 2 = 0 := by omega
    simp [h0]
theorem wrap_add_pow (s p : Nat) (hp : p ≤ 60) (hs : s ≤ 1152921504606846976) : wrap64 ((s : Int) + wrap64 (2 ^ p)) = ((s + 2 ^ p : Nat) : Int) := by
  have h : 2 ^ p ≤ 2 ^ 60 := Nat.pow_le_pow_right (by decide) hp
  have e : ((2 : Int) ^ p) = ((2 ^ p : Nat) : Int) := by norm_cast
  rw [e]
  generalize 2 ^ p = q at h
  rw [IntWalk.wrap64_in (q : Int) (by omega), IntWalk.wrap64_in _ (by omega)]
  norm_cast
theorem or_pow (s p : Nat) (hp : p ≤ 60) (hs : s ≤ 1152921504606846976) : bits .or .i64 (s : Int) (wrap64 (2 ^ p)) = ((s ||| 2 ^ p : Nat) : Int) := by
  have h : 2 ^ p ≤ 2 ^ 60 := Nat.pow_le_pow_right (by decide) hp
  have e : ((2 : Int) ^ p) = ((2 ^ p : Nat) : Int) := by norm_cast
  rw [e]
  generalize 2 ^ p = q at h
  rw [IntWalk.wrap64_in (q : Int) (by omega), i64_or_nat _ _ (by omega) (by omega)]
theorem bv_split (x y : BitVec 64) : (x &&& ~~~y).toNat + (x &&& y).toNat = x.toNat := by
  have h0 : (x &&& ~~~y) &&& (x &&& y) = 0#64 := by
    ext i hi
    simp only [BitVec.getElem_and, BitVec.getElem_not, BitVec.getElem_zero]
    cases x[i] <;> cases y[i] <;> rfl
  have h1 : (x &&& ~~~y) + (x &&& y) = x := by
    rw [BitVec.add_eq_or_of_and_eq_zero _ _ h0]
    ext i hi
    simp
    cases x[i] <;> cases y[i] <;> rfl
  have h2 := congrArg BitVec.toNat h1
  rw [BitVec.toNat_add] at h2
  have hx := x.isLt
  have ha : (x &&& ~~~y).toNat ≤ x.toNat := by rw [BitVec.toNat_and]; exact Nat.and_le_left
  by_cases hlt : (x &&& ~~~y).toNat + (x &&& y).toNat < 2 ^ 64
  · rwa [Nat.mod_eq_of_lt hlt] at h2
  · have hb : (x &&& y).toNat ≤ x.toNat := by rw [BitVec.toNat_and]; exact Nat.and_le_left
    omega
theorem i64_andNot_nat (a b : Nat) (ha : a < 9223372036854775808) (hb : b < 9223372036854775808) : bits .andNot .i64 (a : Int) (b : Int) = ((a - (a &&& b) : Nat) : Int) := by
  have h := bv_split (BitVec.ofInt 64 (a : Int)) (BitVec.ofInt 64 (b : Int))
  have hx : a &&& b ≤ a := Nat.and_le_left
  show IntKind.i64.wrap ((BitVec.ofInt 64 (a : Int) &&& ~~~(BitVec.ofInt 64 (b : Int))).toNat : Int) = _
  rw [BitVec.toNat_and (x := BitVec.ofInt 64 (a : Int)) (y := BitVec.ofInt 64 (b : Int)), ofInt_i64 a (by omega), ofInt_i64 b (by omega)] at h
  rw [IntKind.wrap_i64]
  omega

theorem or_eq_add {x y : Nat} (h : x &&& y = 0) : x ||| y = x + y := by
  have hlt : x + y < 2 ^ (x + y) := Nat.lt_two_pow_self
  have hbv : BitVec.ofNat (x + y) x &&& BitVec.ofNat (x + y) y = 0#(x + y) := by
    apply BitVec.eq_of_toNat_eq
    rw [BitVec.toNat_and, BitVec.toNat_ofNat, BitVec.toNat_ofNat, Nat.mod_eq_of_lt (by omega), Nat.mod_eq_of_lt (by omega), h]
    simp
  have h2 := congrArg BitVec.toNat (BitVec.add_eq_or_of_and_eq_zero _ _ hbv)
  rw [BitVec.toNat_add, BitVec.toNat_or, BitVec.toNat_ofNat, BitVec.toNat_ofNat, Nat.mod_eq_of_lt (a := x) (by omega), Nat.mod_eq_of_lt (a := y) (by omega), Nat.mod_eq_of_lt hlt] at h2
  exact h2.symm
theorem and_two_pow_zero {s p : Nat} (h : s.testBit p = false) : s &&& 2 ^ p = 0 := by
  apply Nat.eq_of_testBit_eq
  intro i
  rw [Nat.testBit_and, Nat.testBit_two_pow, Nat.zero_testBit]
  by_cases e : p = i
  · subst e; simp [h]
  · simp [e]
theorem or_two_pow {s p : Nat} (h : s.testBit p = false) : s ||| 2 ^ p = s + 2 ^ p := or_eq_add (and_two_pow_zero h)

/-- A callee that leaves the world as it is, inside a region that only reads. -/
theorem quiet_same {P : Program} {f : FuncId} {args : Array Value} {w : World} {n : Nat} {v : Value}
    (h : Calls P f args (w.drewN n) fun e w' => e = .returned v ∧ w.drewN n = w') : Calls P f args (w.drewN n) fun e w'' => e = .returned v ∧ ∃ m, w'' = w.drewN m :=
  h.mono fun _ _ ⟨he, hm⟩ => ⟨he, n, hm.symm⟩

theorem wrap_nat {p : Nat} (h : p < 68719476736) : wrap64 (p : Int) = (p : Int) := IntWalk.wrap64_in _ (by omega)
theorem pow_wrap {B : Nat} (hB : B ≤ 60) : wrap64 ((2 : Int) ^ B) = ((2 ^ B : Nat) : Int) := by
  have h : 2 ^ B ≤ 2 ^ 60 := Nat.pow_le_pow_right (by decide) hB
  have e : ((2 : Int) ^ B) = ((2 ^ B : Nat) : Int) := by norm_cast
  rw [e]
  generalize 2 ^ B = q at h
  exact IntWalk.wrap64_in (q : Int) (by omega)
end Go.Proofs.YtajmdgcnnipdoaaGreatDoor

/- Own: appending one element to a slice that the call itself owns, in a plain region and in one that draws its order. -/
namespace Go.Proofs.YtajmdgcnnipdoaaGreatDoor
open Go.RowKit

/-- What the table of types says of a slice type t with elements e. -/
structure ElemT (P : Program) (t e : TypeId) (z : Value) (size bytes : Nat) : Prop where
  und : P.underlying t = some (.slice e)
  inf : ∃ i, P.info? e = some i ∧ i.zero = some z ∧ i.size = size ∧ i.bytes = bytes
  zs : z.cells.size = size
  pos : 0 < size

theorem grownBy_trans {a b c : World} {row : Option Nat} (h : a.grownBy b row) (k : b.grownBy c row) : a.grownBy c row :=
  ⟨k.os.trans h.os, k.tape.trans h.tape, k.output.trans h.output, Nat.le_trans h.size k.size, fun i hi hne => (k.block i (Nat.lt_of_lt_of_le hi h.size) hne).trans (h.block i hi hne)⟩
theorem grownBy_drew (w : World) (row : Option Nat) : w.grownBy w.drew row := ⟨rfl, rfl, rfl, Nat.le_refl _, fun _ _ _ => rfl⟩
theorem grownBy_refl (w : World) (row : Option Nat) : w.grownBy w row := ⟨rfl, rfl, rfl, Nat.le_refl _, fun _ _ _ => rfl⟩
theorem ownsRow_far {w w' : World} {row : Option Nat} {base e size n : Nat} {v : Value} {xs : List Value} (h : w.ownsRow base e size v n xs) (hg : w.grownBy w' row) (hne : ∀ k, row = some k → k < base) : w'.ownsRow base e size v n xs := by
  refine h.kept hg ?_
  cases hv : v.ownBlock with
  | none => exact .inl rfl
  | some k =>
    refine .inr fun q => ?_
    have h1 := (h.lt k hv).1
    have h2 := hne k q.symm
    omega

/-- An owned slice, seen as a value with its cells. -/
theorem ownsRow_view {w : World} {base e size n : Nat} {v : Value} {xs : List Value} (h : w.ownsRow base e size v n xs) :
    ∃ ad cap, v = .slice ad n cap ∧ (0 < n → ∃ g, ad = some ⟨g, 0, none⟩ ∧ base ≤ g ∧ g < w.heap.size ∧ ∀ j u, xs[j]? = some u → w.cell? ⟨g, j, none⟩ = some u) := by
  rcases h.2 with ⟨rfl, rfl⟩ | ⟨g, cap, cur, rfl, hb, hg, h1, h2, h3, h4⟩
  · exact ⟨none, 0, rfl, fun h => absurd h (by omega)⟩
  · refine ⟨_, cap, rfl, fun _ => ⟨g, rfl, hb, (Array.getElem?_eq_some_iff.1 hg).1, fun j u hu => ?_⟩⟩
    rw [cell_of_row w g j cur e (0, 0) hg]
    rw [← h4, List.getElem?_take] at hu
    split at hu
    · simpa using hu
    · cases hu

section
variable {P : Program} {ops : Array Oper} {o : Oper} {a : Act} {wr w2 : World} {K : Act → World → Prop} {Q : Exit → Act → World → Prop}

theorem app1_core (s x : Operand) (t : TypeId) (ho : o.op = .call { callee := .builtin .append, args := #[s, x], argTypes := #[t, t] })
    (base e : Nat) (z : Value) (size bytes : Nat) (T : ElemT P t e z size bytes) (v : Value) (n : Nat) (xs : List Value) (cs : Array Value) (B : Nat) (f : Nat × Nat) (hB : wr.heap.size = B)
    (hs : a.eval s = v) (hx : a.eval x = .slice (some ⟨B, 0, none⟩) 1 1) (hg2 : wr.grownBy w2 none) (hb2 : w2.heap[B]? = some (.cells cs e f)) (hown : wr.ownsRow base e size v n xs) (hcs : cs.size = size)
    (h1 : ∀ u ∈ cs.toList, u.oneCell' = true) (h63 : n + 1 ≤ maxLen) (hbytes : (n + 1) * bytes ≤ 140737488355328) (hbase : base ≤ B)
    (h : ∀ g cap w', w'.ownsRow base e size (.slice (some ⟨g, 0, none⟩) (n + 1) cap) (n + 1) (xs ++ cs.toList) → Below base wr w' → wr.grownBy w' v.ownBlock → base ≤ g → g < w'.heap.size → (v.ownBlock = some g ∨ B ≤ g) →
      K (a.put o.dst (.slice (some ⟨g, 0, none⟩) (n + 1) cap)) w') : o.wp P a w2 K Q := by
  subst hB
  obtain ⟨i, hi, hz, hsize, hby⟩ := T.inf
  have hlt : wr.heap.size < w2.heap.size := by
    rcases Nat.lt_or_ge wr.heap.size w2.heap.size with q | q
    · exact q
    · rw [Array.getElem?_eq_none q] at hb2; cases hb2
  have hown2 : w2.ownsRow base e size v n xs := hown.kept hg2 (by cases hv : v.ownBlock <;> simp)
  refine wp_append_lies w2 s x t ho base e i z size bytes T.und hi hz hsize hby T.zs T.pos v n xs hs hown2 ⟨wr.heap.size, 0, none⟩ 1 1 cs.toList hx (by simp [hcs]) (World.news_of_block hb2) h1 (by decide) h63 hbytes (by omega) _ rfl ?_
  intro g cap w' q1 q2 q3 q4
  have hall : wr.grownBy w' v.ownBlock := by
    refine grownBy_trans ⟨hg2.os, hg2.tape, hg2.output, hg2.size, fun k hk _ => hg2.block k hk (by simp)⟩ q2
  have hgb : base ≤ g := by
    rcases q3 with q3 | q3
    · exact (hown.lt g q3).1
    · omega
  refine h g cap w' q1 ?_ hall hgb q4 ?_
  · exact (Below.refl base wr).grown hall hbase (fun k hk => (hown.lt k hk).1)
  · rcases q3 with q3 | q3
    · exact .inl q3
    · right; omega

theorem ownsRow_empty (w : World) (e size : Nat) : (w.alloc (.cells #[] e)).ownsRow w.heap.size e size (.slice (some ⟨w.heap.size, 0, none⟩) 0 0) 0 [] :=
  World.ownsRow_made w #[] 0 (Nat.le_refl _) (by decide) (by simp)

theorem heap_alloc_top (w : World) (ob : Obj) : (w.alloc ob).heap[w.heap.size]? = some ob := heap_alloc_new w ob

/-- In a plain region: the element lies in the newest block. -/
theorem wpList_app1 {rest : List Oper} (hgd : o.guard = none) (s x : Operand) (t : TypeId) (ho : o.op = .call { callee := .builtin .append, args := #[s, x], argTypes := #[t, t] })
    (base e : Nat) (z : Value) (size bytes : Nat) (T : ElemT P t e z size bytes) (v : Value) (n : Nat) (xs : List Value) (cs : Array Value) (B : Nat) (f : Nat × Nat)
    (hs : a.eval s = v) (hx : a.eval x = .slice (some ⟨B, 0, none⟩) 1 1) (hB : wr.heap.size = B) (hown : wr.ownsRow base e size v n xs) (hcs : cs.size = size)
    (h1 : ∀ u ∈ cs.toList, u.oneCell' = true) (h63 : n + 1 ≤ maxLen) (hbytes : (n + 1) * bytes ≤ 140737488355328) (hbase : base ≤ B)
    (h : ∀ g cap w', w'.ownsRow base e size (.slice (some ⟨g, 0, none⟩) (n + 1) cap) (n + 1) (xs ++ cs.toList) → Below base wr w' → wr.grownBy w' v.ownBlock → base ≤ g → g < w'.heap.size → (v.ownBlock = some g ∨ B ≤ g) →
      wpList P ops Q rest (a.put o.dst (.slice (some ⟨g, 0, none⟩) (n + 1) cap)) w') : wpList P ops Q (o :: rest) a (wr.alloc (.cells cs e f)) :=
  wpList_plain hgd fun _ hK => app1_core s x t ho base e z size bytes T v n xs cs B f hB hs hx (World.grownBy_alloc wr _ none) (hB ▸ heap_alloc_top wr _) hown hcs h1 h63 hbytes hbase fun g cap w' q1 q2 q3 q4 q5 q6 => hK _ _ (h g cap w' q1 q2 q3 q4 q5 q6)

/-- In a region that draws its order. -/
theorem step_app1 {E : Prop} (hgd : o.guard = none) (s x : Operand) (t : TypeId) (ho : o.op = .call { callee := .builtin .append, args := #[s, x], argTypes := #[t, t] })
    (base e : Nat) (z : Value) (size bytes : Nat) (T : ElemT P t e z size bytes) (v : Value) (n : Nat) (xs : List Value) (cs : Array Value) (B : Nat) (f : Nat × Nat)
    (hs : a.eval s = v) (hx : a.eval x = .slice (some ⟨B, 0, none⟩) 1 1) (hB : wr.heap.size = B) (hown : wr.ownsRow base e size v n xs) (hcs : cs.size = size)
    (h1 : ∀ u ∈ cs.toList, u.oneCell' = true) (h63 : n + 1 ≤ maxLen) (hbytes : (n + 1) * bytes ≤ 140737488355328) (hbase : base ≤ B)
    (h : ∀ g cap w', w'.ownsRow base e size (.slice (some ⟨g, 0, none⟩) (n + 1) cap) (n + 1) (xs ++ cs.toList) → Below base wr w' → wr.grownBy w' v.ownBlock → base ≤ g → g < w'.heap.size → (v.ownBlock = some g ∨ B ≤ g) →
      K (a.put o.dst (.slice (some ⟨g, 0, none⟩) (n + 1) cap)) w') :
    if Region.wanted o (yielded ops a.tmps) = true then Oper.wp P o a ((wr.alloc (.cells cs e f)).drew) K Q else E := by
  have hw : Region.wanted o (yielded ops a.tmps) = true := by simp [Region.wanted, hgd]
  rw [if_pos hw]
  exact app1_core s x t ho base e z size bytes T v n xs cs B f hB hs hx (grownBy_trans (World.grownBy_alloc wr _ none) (grownBy_drew _ _)) (hB ▸ heap_alloc_top wr _) hown hcs h1 h63 hbytes hbase h
end

end Go.Proofs.YtajmdgcnnipdoaaGreatDoor

/- Cells: what it means that a slice's cells hold a list of values; how that is kept, and where it comes from. -/
namespace Go.Proofs.YtajmdgcnnipdoaaGreatDoor
open Go.RowKit

/-- The cells from the address on hold the list. -/
def CellsAt (w : World) (ad : Option Addr) (cs : List Value) : Prop :=
  cs = [] ∨ ∃ g off, ad = some ⟨g, off, none⟩ ∧ ∀ j u, cs[j]? = some u → w.cell? ⟨g, off + j, none⟩ = some u
def ints (xs : List Int) : List Value := xs.map (Value.int .i64)
theorem ints_length (xs : List Int) : (ints xs).length = xs.length := by simp [ints]
theorem ints_at (xs : List Int) (k : Nat) (h : k < xs.length) : (ints xs)[k]? = some (.int .i64 xs[k]) := by simp [ints, h]
theorem ints_append (xs ys : List Int) : ints (xs ++ ys) = ints xs ++ ints ys := by simp [ints]

theorem CellsAt.nil (w : World) (ad : Option Addr) : CellsAt w ad [] := .inl rfl
/-- The address and the cells of a list that is not empty. -/
theorem CellsAt.open {w : World} {ad : Option Addr} {cs : List Value} (h : CellsAt w ad cs) (hn : 0 < cs.length) : ∃ g off, ad = some ⟨g, off, none⟩ ∧ g < w.heap.size ∧ ∀ j u, cs[j]? = some u → w.cell? ⟨g, off + j, none⟩ = some u := by
  rcases h with rfl | ⟨g, off, rfl, hc⟩
  · simp at hn
  · refine ⟨g, off, rfl, ?_, hc⟩
    have h0 := hc 0 (cs[0]) (by simp [hn])
    exact World.block_lt_of_cell? w _ h0
theorem CellsAt.same {w w' : World} {ad : Option Addr} {cs : List Value} (h : CellsAt w ad cs) (hc : ∀ g, g < w.heap.size → ∀ o, w'.cell? ⟨g, o, none⟩ = w.cell? ⟨g, o, none⟩) : CellsAt w' ad cs := by
  rcases h with rfl | ⟨g, off, rfl, hcs⟩
  · exact .inl rfl
  · refine .inr ⟨g, off, rfl, fun j u hu => ?_⟩
    have h1 := hcs j u hu
    rw [hc g (World.block_lt_of_cell? w _ h1)]
    exact h1
theorem CellsAt.below {w w' : World} {ad : Option Addr} {cs : List Value} (h : CellsAt w ad cs) (hb : Below w.heap.size w w') : CellsAt w' ad cs :=
  h.same fun _ hg _ => hb.cell hg
theorem CellsAt.drewN {w : World} {ad : Option Addr} {cs : List Value} (h : CellsAt w ad cs) (n : Nat) : CellsAt (w.drewN n) ad cs := h
/-- Behind a change to one block that is not this list's. -/
theorem CellsAt.take {w : World} {ad : Option Addr} {cs : List Value} (h : CellsAt w ad cs) (n : Nat) : CellsAt w ad (cs.take n) := by
  rcases h with rfl | ⟨g, off, rfl, hcs⟩
  · left; simp
  · refine .inr ⟨g, off, rfl, fun j u hu => hcs j u ?_⟩
    rw [List.getElem?_take] at hu
    split at hu
    · exact hu
    · cases hu

/-- An owned slice: the value written out, its cells, where it lies. -/
theorem ownsRow_cells {w : World} {base e size n : Nat} {v : Value} {xs : List Value} (h : w.ownsRow base e size v n xs) :
    ∃ ad cap, v = .slice ad n cap ∧ CellsAt w ad xs := by
  rcases h.2 with ⟨rfl, rfl⟩ | ⟨g, cap, cur, rfl, hb, hg, h1, h2, h3, h4⟩
  · refine ⟨none, 0, rfl, .inl ?_⟩
    have := h.1
    rw [Nat.zero_mul] at this
    exact List.eq_nil_of_length_eq_zero this
  · refine ⟨_, cap, rfl, .inr ⟨g, 0, rfl, fun j u hu => ?_⟩⟩
    rw [Nat.zero_add, cell_of_row w g j cur e (0, 0) hg]
    rw [← h4, List.getElem?_take] at hu
    split at hu
    · simpa using hu
    · cases hu
theorem ownsRow_cellsAt {w : World} {base e size n cap : Nat} {ad : Option Addr} {xs : List Value} (h : w.ownsRow base e size (.slice ad n cap) n xs) : CellsAt w ad xs := by
  obtain ⟨ad', cap', he, hc⟩ := ownsRow_cells h
  cases he
  exact hc
theorem ownsRow_far_below {w w' : World} {base e size n B : Nat} {v : Value} {xs : List Value} (h : w.ownsRow base e size v n xs) (hb : Below B w w') (hB : w.heap.size ≤ B) : w'.ownsRow base e size v n xs := by
  refine h.kept (row := none) ⟨hb.os, hb.tape, hb.output, hb.size, fun k hk _ => hb.block k (by omega)⟩ ?_
  cases v.ownBlock <;> simp
theorem ownsRow_drewN {w : World} {base e size n : Nat} {v : Value} {xs : List Value} (h : w.ownsRow base e size v n xs) (k : Nat) : (w.drewN k).ownsRow base e size v n xs := h
theorem ownsRow_rebase {w : World} {base base' e size n : Nat} {v : Value} {xs : List Value} (h : w.ownsRow base e size v n xs) (hb : base' ≤ base) : w.ownsRow base' e size v n xs := by
  refine ⟨h.1, ?_⟩
  rcases h.2 with h2 | ⟨g, cap, cur, h1, h2, r⟩
  · exact .inl h2
  · exact .inr ⟨g, cap, cur, h1, Nat.le_trans hb h2, r⟩

/-- The first k of a list, then zeros. -/
def mixed (z : Value) (cs : List Value) (k : Nat) : List Value := cs.take k ++ List.replicate (cs.length - k) z
theorem mixed_zero (z : Value) (cs : List Value) : mixed z cs 0 = List.replicate cs.length z := by simp [mixed]
theorem mixed_all (z : Value) (cs : List Value) : mixed z cs cs.length = cs := by simp [mixed]
theorem mixed_set (z : Value) (cs : List Value) (k : Nat) (hk : k < cs.length) : (mixed z cs k).set k cs[k] = mixed z cs (k + 1) := by
  unfold mixed
  rw [List.set_append_right _ _ (by simp; omega)]
  have e : (cs.take k).length = k := by simp; omega
  rw [e, Nat.sub_self, List.take_succ_eq_append_getElem hk, List.append_assoc]
  congr 1
  obtain ⟨m, hm⟩ : ∃ m, cs.length - k = m + 1 := ⟨cs.length - k - 1, by omega⟩
  have hm' : cs.length - (k + 1) = m := by omega
  rw [hm, hm']
  simp [List.replicate_succ]
theorem madeCells_all (z : Array Value) (u : Value) (n : Nat) (hz : 0 < z.size) (h : ∀ i, i < z.size → z[i]! = u) : (madeCells z n).toList = List.replicate n u := by
  rw [List.eq_replicate_iff]
  refine ⟨by simp [madeCells], fun b hb => ?_⟩
  unfold madeCells at hb
  rw [Array.toList_map, List.mem_map] at hb
  obtain ⟨i, _, rfl⟩ := hb
  exact h _ (Nat.mod_lt _ hz)
theorem madeCells_one (z : Value) (n : Nat) : (madeCells #[z] n).toList = List.replicate n z :=
  madeCells_all #[z] z n (by simp) fun i hi => by
    obtain rfl : i = 0 := by simpa using hi
    rfl

theorem mixed_ints_set (xs : List Int) (k : Nat) (hk : k < xs.length) : (mixed (.int .i64 0) (ints xs) k).set k (.int .i64 xs[k]) = mixed (.int .i64 0) (ints xs) (k + 1) := by
  have h := mixed_set (.int .i64 0) (ints xs) k (by rw [ints_length]; exact hk)
  have e : (ints xs)[k]'(by rw [ints_length]; exact hk) = .int .i64 xs[k] := by simp [ints]
  rw [e] at h
  exact h
theorem mixed_length (z : Value) (cs : List Value) (k : Nat) : (mixed z cs k).length = cs.length := by
  unfold mixed; simp; omega

/-- make([]T, n), all of whose zero cells are one value. -/
theorem wpList_make {P : Program} (w : World) {ops : Array Oper} {rest : List Oper} {o : Oper} {a : Act} {Q : Exit → Act → World → Prop}
    (hg : o.guard = none) (l c : Operand) (t : TypeId) (hop : o.op = Op.makeSlice t l c) (e : TypeId) (z : Value) (size bytes : Nat) (T : ElemT P t e z size bytes)
    (u : Value) (hu : ∀ i, i < z.cells.size → z.cells[i]! = u) (n : Nat) (hl : a.eval l = .int .i64 n) (hc : a.eval c = .int .i64 n) (b2 : bytes * n ≤ 281474976710656) (b3 : n ≤ maxLen) (cs : List Value) (hcs : cs.length = n * size)
    (hK : ∀ w', w'.ownsRow w.heap.size e size (.slice (some ⟨w.heap.size, 0, none⟩) n n) n (mixed u cs 0) → w.grownBy w' none → Below w.heap.size w w' → wpList P ops Q rest (a.put o.dst (.slice (some ⟨w.heap.size, 0, none⟩) n n)) w') :
    wpList P ops Q (o :: rest) a w := by
  obtain ⟨i, hi, hz, hsize, hby⟩ := T.inf
  refine wpList_make_full w hg l c t hop w.heap.size e i z size T.und hi hz hsize .i64 .i64 n n n hl hc rfl rfl (by rw [hby]; exact b2) b3 (Nat.le_refl _) ?_
  intro w' h1 h2
  rw [madeCells_all z.cells u _ (by rw [T.zs]; exact T.pos) hu, ← hcs, ← mixed_zero] at h1
  exact hK w' h1 h2 ((Below.refl _ _).grown h2 (Nat.le_refl _) (fun k hk => by cases hk))

end Go.Proofs.YtajmdgcnnipdoaaGreatDoor

/- Num: the contracts of the two small range tests, one of the reference, one of the program. -/
namespace Go.Proofs.YtajmdgcnnipdoaaGreatDoor
open Go.RowKit

theorem l1In_any (n lo hi : Int) (w : World) :
    Calls Tryz.prog 82 #[.int .i64 n, .int .i64 lo, .int .i64 hi] w fun e w' => e = .returned (.bool (decide (lo ≤ n) && decide (n ≤ hi))) ∧ w = w' := by
  go_enter Tryz.func82, Tryz.ntmps82
  go_wp2
  all_goals go_ret
  all_goals (refine ⟨?_, rfl⟩; congr 1; congr 1; simp; omega)
theorem l1In_yes (n lo hi : Int) (w : World) (h1 : lo ≤ n) (h2 : n ≤ hi) :
    Calls Tryz.prog 82 #[.int .i64 n, .int .i64 lo, .int .i64 hi] w fun e w' => e = .returned (.bool true) ∧ w = w' := by
  have e : (decide (lo ≤ n) && decide (n ≤ hi)) = true := by simp [h1, h2]
  exact (l1In_any n lo hi w).mono fun _ _ ⟨h, hw⟩ => ⟨by rw [h, e], hw⟩
theorem l1In_no (n lo hi : Int) (w : World) (h : n < lo ∨ hi < n) :
    Calls Tryz.prog 82 #[.int .i64 n, .int .i64 lo, .int .i64 hi] w fun e w' => e = .returned (.bool false) ∧ w = w' := by
  have e : (decide (lo ≤ n) && decide (n ≤ hi)) = false := by simp; omega
  exact (l1In_any n lo hi w).mono fun _ _ ⟨h, hw⟩ => ⟨by rw [h, e], hw⟩
theorem between_any (n lo hi : Int) (w : World) :
    Calls Tryz.prog 98 #[.int .i64 n, .int .i64 lo, .int .i64 hi] w fun e w' => e = .returned (.bool (decide (lo ≤ n) && decide (n ≤ hi))) ∧ w = w' := by
  go_enter Tryz.func98, Tryz.ntmps98
  go_wp2
  all_goals go_ret
  all_goals (refine ⟨?_, rfl⟩; congr 1; congr 1; simp; omega)
theorem between_yes (n lo hi : Int) (w : World) (h1 : lo ≤ n) (h2 : n ≤ hi) :
    Calls Tryz.prog 98 #[.int .i64 n, .int .i64 lo, .int .i64 hi] w fun e w' => e = .returned (.bool true) ∧ w = w' := by
  have e : (decide (lo ≤ n) && decide (n ≤ hi)) = true := by simp [h1, h2]
  exact (between_any n lo hi w).mono fun _ _ ⟨h, hw⟩ => ⟨by rw [h, e], hw⟩
theorem between_no (n lo hi : Int) (w : World) (h : n < lo ∨ hi < n) :
    Calls Tryz.prog 98 #[.int .i64 n, .int .i64 lo, .int .i64 hi] w fun e w' => e = .returned (.bool false) ∧ w = w' := by
  have e : (decide (lo ≤ n) && decide (n ≤ hi)) = false := by simp; omega
  exact (between_any n lo hi w).mono fun _ _ ⟨h, hw⟩ => ⟨by rw [h, e], hw⟩

end Go.Proofs.YtajmdgcnnipdoaaGreatDoor

/- Ints0: the type of lists of integers. -/
namespace Go.Proofs.YtajmdgcnnipdoaaGreatDoor
open Go.RowKit

theorem Tryz.infoInt : (Tryz.prog.info? 3).map (fun i => (i.zero, i.size, i.bytes)) = some (some (.int .i64 0), 1, 8) := by kernel_rfl
theorem Tryz.elemInt : ElemT Tryz.prog 24 3 (.int .i64 0) 1 8 := ⟨Tryz.underlying24, info_parts Tryz.infoInt, rfl, by decide⟩
end Go.Proofs.YtajmdgcnnipdoaaGreatDoor

/- Range: slices that a call has made, with the span of blocks in which they lie; what a write to one leaves of the others. -/
namespace Go.Proofs.YtajmdgcnnipdoaaGreatDoor
open Go.RowKit

/-- An owned slice whose block lies in lo .. hi - 1. -/
def Owned (w : World) (lo hi e size : Nat) (ad : Option Addr) (n cap : Nat) (xs : List Value) : Prop :=
  w.ownsRow lo e size (.slice ad n cap) n xs ∧ ∀ k, (Value.slice ad n cap).ownBlock = some k → k < hi
/-- Of the blocks that were there only those in lo .. hi - 1 may have turned. -/
structure Touched (lo hi : Nat) (w w' : World) : Prop where
  os : w'.os = w.os
  tape : w'.tape = w.tape
  output : w'.output = w.output
  size : w.heap.size ≤ w'.heap.size
  block : ∀ k, k < w.heap.size → (k < lo ∨ hi ≤ k) → w'.heap[k]? = w.heap[k]?

theorem Touched.refl (lo hi : Nat) (w : World) : Touched lo hi w w := ⟨rfl, rfl, rfl, Nat.le_refl _, fun _ _ _ => rfl⟩
theorem Touched.trans {lo hi : Nat} {a b c : World} (h : Touched lo hi a b) (k : Touched lo hi b c) : Touched lo hi a c :=
  ⟨k.os.trans h.os, k.tape.trans h.tape, k.output.trans h.output, Nat.le_trans h.size k.size, fun i hi hne => (k.block i (Nat.lt_of_lt_of_le hi h.size) hne).trans (h.block i hi hne)⟩
theorem Touched.drewN {lo hi : Nat} {a b : World} (h : Touched lo hi a b) (n : Nat) : Touched lo hi a (b.drewN n) := h.trans ⟨rfl, rfl, rfl, Nat.le_refl _, fun _ _ _ => rfl⟩
theorem Touched.setCell {lo hi : Nat} {a w : World} (h : Touched lo hi a w) {p : Addr} (h1 : lo ≤ p.block) (h2 : p.block < hi) (u : Value) : Touched lo hi a (w.setCell p u) :=
  h.trans ⟨rfl, rfl, rfl, by simp [World.setCell], fun k _ hne => Below.heap_setCell _ _ _ _ (by omega)⟩
theorem Touched.below {lo hi B : Nat} {w w' : World} (h : Touched lo hi w w') (hB : B ≤ lo) (hs : B ≤ w.heap.size) : Below B w w' :=
  ⟨h.os, h.tape, h.output, h.size, fun k hk => h.block k (by omega) (.inl (by omega))⟩

theorem Owned.of {w w' : World} {e size n cap : Nat} {ad : Option Addr} {xs : List Value} (h : w'.ownsRow w.heap.size e size (.slice ad n cap) n xs) : Owned w' w.heap.size w'.heap.size e size ad n cap xs :=
  ⟨h, fun k hk => (h.lt k hk).2⟩
theorem Owned.below {w w' : World} {lo hi e size n cap B : Nat} {ad : Option Addr} {xs : List Value} (h : Owned w lo hi e size ad n cap xs) (hb : Below B w w') (hB : hi ≤ B) : Owned w' lo hi e size ad n cap xs := by
  refine ⟨⟨h.1.1, ?_⟩, h.2⟩
  rcases h.1.2 with h2 | ⟨g, c, cur, h1, h2, h3, r⟩
  · exact .inl h2
  · refine .inr ⟨g, c, cur, h1, h2, ?_, r⟩
    have := h.2 g (by rw [h1]; rfl)
    rw [hb.block g (by omega)]
    exact h3
theorem Owned.drewN {w : World} {lo hi e size n cap : Nat} {ad : Option Addr} {xs : List Value} (h : Owned w lo hi e size ad n cap xs) (k : Nat) : Owned (w.drewN k) lo hi e size ad n cap xs := h
/-- A write to blocks that are not this slice's. -/
theorem Owned.touched {w w' : World} {lo hi e size n cap l2 h2 : Nat} {ad : Option Addr} {xs : List Value} (h : Owned w lo hi e size ad n cap xs) (ht : Touched l2 h2 w w') (hd : h2 ≤ lo ∨ hi ≤ l2) : Owned w' lo hi e size ad n cap xs := by
  refine ⟨⟨h.1.1, ?_⟩, h.2⟩
  rcases h.1.2 with q2 | ⟨g, c, cur, q1, q2, q3, r⟩
  · exact .inl q2
  · refine .inr ⟨g, c, cur, q1, q2, ?_, r⟩
    have := h.2 g (by rw [q1]; rfl)
    rw [ht.block g (Array.getElem?_eq_some_iff.1 q3).1 (by omega)]
    exact q3
theorem Owned.cells {w : World} {lo hi e size n cap : Nat} {ad : Option Addr} {xs : List Value} (h : Owned w lo hi e size ad n cap xs) : CellsAt w ad xs := ownsRow_cellsAt h.1
theorem Owned.le_cap {w : World} {lo hi e size n cap : Nat} {ad : Option Addr} {xs : List Value} (h : Owned w lo hi e size ad n cap xs) : n ≤ cap := by
  rcases h.1.2 with ⟨h1, h2⟩ | ⟨g, c, cur, h1, _, _, h2, _⟩
  · rw [h2]; exact Nat.zero_le _
  · cases h1; exact h2
theorem Owned.lo_hi {w : World} {lo hi e size n cap : Nat} {ad : Option Addr} {xs : List Value} (h : Owned w lo hi e size ad n cap xs) (hn : 0 < n) : ∃ g, ad = some ⟨g, 0, none⟩ ∧ lo ≤ g ∧ g < hi := by
  obtain ⟨g, c, hv, hb, hlt⟩ := h.1.form hn
  cases hv
  exact ⟨g, rfl, hb, h.2 g rfl⟩

/-- The marks k, k + 1, .. -/
def marks (k n : Nat) : List Value := (List.range n).map fun i => .int .i64 ((k + i : Nat) : Int)
theorem marks_length (k n : Nat) : (marks k n).length = n := by simp [marks]
theorem marks_at {k n i : Nat} (h : i < n) : (marks k n)[i]? = some (.int .i64 ((k + i : Nat) : Int)) := by simp [marks, h]
theorem marks_succ (k n : Nat) : marks k (n + 1) = marks k n ++ [.int .i64 ((k + n : Nat) : Int)] := by simp [marks, List.range_succ]
/-- The first j cells are marked, the others are as they were. -/
def partly (k : Nat) (cs : List Value) (j : Nat) : List Value := marks k j ++ cs.drop j
theorem partly_zero (k : Nat) (cs : List Value) : partly k cs 0 = cs := by simp [partly, marks]
theorem partly_all (k : Nat) (cs : List Value) : partly k cs cs.length = marks k cs.length := by simp [partly]
theorem partly_length (k : Nat) (cs : List Value) (j : Nat) (h : j ≤ cs.length) : (partly k cs j).length = cs.length := by simp [partly, marks_length]; omega
theorem partly_set (k : Nat) (cs : List Value) (j : Nat) (h : j < cs.length) : (partly k cs j).set j (.int .i64 ((k + j : Nat) : Int)) = partly k cs (j + 1) := by
  unfold partly
  rw [List.set_append_right _ _ (by rw [marks_length]; exact Nat.le_refl _), marks_length, Nat.sub_self, marks_succ, List.append_assoc]
  congr 1
  rw [List.drop_eq_getElem_cons h]
  rfl

end Go.Proofs.YtajmdgcnnipdoaaGreatDoor

/- AppN: appending a whole slice to one that the call itself owns. -/
namespace Go.Proofs.YtajmdgcnnipdoaaGreatDoor
open Go.RowKit

section
variable {P : Program} {ops : Array Oper} {o : Oper} {a : Act} {w : World} {Q : Exit → Act → World → Prop}

/-- append(v, xs...): v owned, xs any slice whose cells are known. -/
theorem wpList_appN {rest : List Oper} (hgd : o.guard = none) (s x : Operand) (t : TypeId) (ho : o.op = .call { callee := .builtin .append, args := #[s, x], argTypes := #[t, t] })
    (base e : Nat) (z : Value) (size bytes : Nat) (T : ElemT P t e z size bytes) (v : Value) (n : Nat) (xs : List Value) (hs : a.eval s = v) (hown : w.ownsRow base e size v n xs)
    (ad : Option Addr) (m c : Nat) (news : List Value) (hx : a.eval x = .slice ad m c) (hnil : ad = none → c = 0) (hl : news.length = m * size) (hc : CellsAt w ad news) (h1 : ∀ u ∈ news, u.oneCell' = true)
    (h63 : n + m ≤ maxLen) (hbytes : (n + m) * bytes ≤ 140737488355328) (hbase : base ≤ w.heap.size)
    (h : ∀ ad' cap' w', w'.ownsRow base e size (.slice ad' (n + m) cap') (n + m) (xs ++ news) → Below base w w' → w.grownBy w' v.ownBlock → wpList P ops Q rest (a.put o.dst (.slice ad' (n + m) cap')) w') :
    wpList P ops Q (o :: rest) a w := by
  obtain ⟨i, hi, hz, hsize, hby⟩ := T.inf
  have hpos := T.pos
  cases ad with
  | none =>
    have hm : m = 0 := by
      rcases hc with hz0 | ⟨g, off, hv, _⟩
      · rw [hz0, List.length_nil] at hl
        rcases Nat.eq_zero_or_pos m with q | q
        · exact q
        · have := Nat.mul_pos q hpos
          omega
      · cases hv
    obtain rfl : c = 0 := hnil rfl
    subst hm
    obtain rfl : news = [] := List.eq_nil_of_length_eq_zero (by simpa using hl)
    refine wpList_append_own_none hgd s x t ho base e i size T.und hi v n xs hs hown hx ?_
    obtain ⟨ad', cap', rfl, _⟩ := ownsRow_cells hown
    have := h ad' cap' w (by simpa using hown) (Below.refl _ _) (grownBy_refl _ _)
    simpa using this
  | some ad =>
    have hnews : ∀ j u, news[j]? = some u → w.cell? (ad.add j) = some u := by
      intro j u hu
      rcases hc with rfl | ⟨g, off, hv, hcc⟩
      · simp at hu
      · cases hv
        rw [Go.WideShapes.add_plain]
        exact hcc j u hu
    refine wpList_append_own w hgd s x t ho base e i z size bytes T.und hi hz hsize hby T.zs T.pos v n xs hs hown ad m c news hx hl hnews h1 h63 hbytes hbase ?_
    intro v' w' q1 q2 _
    obtain ⟨ad', cap', rfl, _⟩ := ownsRow_cells q1
    exact h ad' cap' w' q1 ((Below.refl base w).grown q2 hbase (fun k hk => (hown.lt k hk).1)) q2
end

theorem ints_one (xs : List Int) : ∀ u ∈ ints xs, u.oneCell' = true := by
  intro u hu
  unfold ints at hu
  rw [List.mem_map] at hu
  obtain ⟨x, _, rfl⟩ := hu
  rfl
end Go.Proofs.YtajmdgcnnipdoaaGreatDoor

/- App: the walk of the program's copyInts. -/
namespace Go.Proofs.YtajmdgcnnipdoaaGreatDoor
open Go.RowKit

set_option maxHeartbeats 400000 in
theorem copyInts_any (ad : Option Addr) (cap : Nat) (xs : List Int) (w : World) (hn : xs.length ≤ 1048576) (hnil : ad = none → cap = 0) (hc : CellsAt w ad (ints xs)) :
    Calls Tryz.prog 141 #[.slice ad xs.length cap] w fun e w' => ∃ ad' cap', e = .returned (.slice ad' xs.length cap') ∧ w'.ownsRow w.heap.size 3 1 (.slice ad' xs.length cap') xs.length (ints xs) ∧ Below w.heap.size w w' := by
  have hlen := ints_length xs
  have HC := Lib.hid hc
  have HN := Lib.hid hnil
  clear hc hnil
  go_enter Tryz.func141, Tryz.ntmps141
  go_wp2_with (at_builtin; refine wpList_appN rfl (.const (.slice none 0 0)) (.tmp 3) 24 rfl w.heap.size 3 _ 1 8 Tryz.elemInt _ 0 [] rfl (World.ownsRow_nil _ _ _ _) ad xs.length cap (ints xs) rfl HN.out (by omega) HC.out (ints_one xs) (by unfold maxLen; omega) (by omega) (Nat.le_refl _) ?_; intro ad' cap' w' q1 q2 q3)
  go_ret
  rw [Nat.zero_add, List.nil_append] at q1
  exact ⟨ad', cap', by simp, q1, q2⟩
end Go.Proofs.YtajmdgcnnipdoaaGreatDoor
