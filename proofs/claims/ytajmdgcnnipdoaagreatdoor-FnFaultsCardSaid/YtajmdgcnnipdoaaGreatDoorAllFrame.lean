/- AllFrame: parts laid together: Frame, FrameInts, SliceElems, Cl0, OrderG, AppStep. -/
import Derived.Test.YtajmdgcnnipdoaaGreatDoorRows
import Derived.WalkKit
import Derived.ProofKit
import Derived.OpenShut
import Derived.SizedLaws
import Derived.Carry
import Derived.Test.YtajmdgcnnipdoaaGreatDoorAllBase

/- Frame: what closes every law's row: its result is true, and of what was there nothing has turned. -/
namespace Go.Proofs.YtajmdgcnnipdoaaGreatDoor
open Go.ChangeShapes Go.WideShapes Go.ChangeAt Go.RowKit

theorem Tryz.own : ownKnob Tryz.prog.godebug = none := by kernel_rfl
theorem Tryz.laid : laidOutB Tryz.prog = true := by kernel_rfl

theorem below_trodAll {H : Type} {enc : TypeId × Value → H} {P : Program} (hl : laidOutB P = true) {W W' : World} (hb : Below W.heap.size W W') :
    ∀ (ts : List TypeId) (vs : List Value) (ds : List (DataW H)) (ps : List MemPlace), (∀ t ∈ ts, P.readableRec t = true ∧ t < P.types.size) → DataW.TrodAll enc P W 0 (fun _ => true) true ts vs ds ps →
      (∀ x ∈ ps, x.block < W.heap.size) → DataW.TrodAll enc P W' 0 (fun b => decide (b < W.heap.size)) true ts vs ds ps := by
  intro ts
  induction ts with
  | nil =>
    intro vs ds ps _ h hlt
    cases vs with
    | nil => cases ds with
      | nil => exact h
      | cons d ds => exact h
    | cons v vs => exact h
  | cons t ts ih =>
    intro vs ds ps hr h hlt
    cases vs with
    | nil => exact h
    | cons v vs => cases ds with
      | nil => exact h
      | cons d ds =>
        obtain ⟨p, q, h1, h2, rfl⟩ := h
        have hrt := hr t (by simp)
        refine ⟨p, q, Below.trod hl hrt.1 hrt.2 h1 hb (fun x hx => hlt x (by simp [hx])), ih vs ds q (fun u hu => hr u (by simp [hu])) h2 (fun x hx => hlt x (by simp [hx])), rfl⟩

/-- A law's 'post', out of 'the result is true' and 'nothing that was there has turned'. -/
theorem law_post {H : Type} {enc : TypeId × Value → H} {f : Func} {s : ChangeSpec} {W W' : World} {args : Array Value} {ds : List (DataW H)} {before : List MemPlace}
    (hv : s.vars = []) (hW : DataW.Whole enc Tryz.prog f.params.toList s.vars false W args.toList ds [] before) (hb : Below W.heap.size W W')
    (hp : ∀ t ∈ f.params.toList, Tryz.prog.readableRec t = true ∧ t < Tryz.prog.types.size) (hr : f.resultTypes.toList = [4]) (hn : f.resultTypes.size = 1)
    (hfn : s.fn H (ds ++ []) = { results := [.lit (.bool true)], args := ds }) :
    s.post enc Tryz.prog f false true false false W args (.bool true) W' := by
  have hlt : ∀ x ∈ before, x.block < W.heap.size := fun x hx => by simpa using hW.lt x hx
  obtain ⟨p, q, hA, hV, hpq, hfz, hnd⟩ := hW
  have hq : q = [] := by rw [hv] at hV; exact hV
  subst hq
  have hW2 : DataW.Whole enc Tryz.prog f.params.toList s.vars false W args.toList ds [] before := ⟨p, [], hA, hV, hpq, hfz, hnd⟩
  rw [List.append_nil] at hpq
  subst hpq
  refine ⟨ds, [], before, [], before, [], hW2, ?_, ?_, ?_, hb.frame _, fun h => by cases h⟩
  · rw [hr, hn, hfn]
    exact trodAll_cons_mk (shut_bool Tryz.underlying4 _) trodAll_mk0
  · rw [hfn]
    exact below_trodAll Tryz.laid hb _ _ _ _ hp hA hlt
  · rw [hv, hfn]
    rfl

/-- Every parameter's type is one that reads as data: one closed fact. -/
theorem readable_all {ts : List TypeId} (h : (ts.all fun t => Tryz.prog.readableRec t && decide (t < Tryz.prog.types.size)) = true) : ∀ t ∈ ts, Tryz.prog.readableRec t = true ∧ t < Tryz.prog.types.size := by
  intro t ht
  have := List.all_eq_true.1 h t ht
  rw [Bool.and_eq_true] at this
  exact ⟨this.1, of_decide_eq_true this.2⟩

end Go.Proofs.YtajmdgcnnipdoaaGreatDoor

/- FrameInts: an argument that is a list of integers, opened: its cells. -/
namespace Go.Proofs.YtajmdgcnnipdoaaGreatDoor
open Go.ChangeShapes Go.WideShapes Go.ChangeAt Go.RowKit

theorem Tryz.cellsInt : Tryz.prog.cellsOf 3 = 1 := by kernel_rfl

set_option maxRecDepth 100000 in
theorem openInts {H : Type} {enc : TypeId × Value → H} {W : World} {base : Nat} {v : Value} {d : DataW H} {p : List MemPlace}
    (hv : Value.okWide Tryz.prog W .any base 24 v) (h : DataW.Trod enc Tryz.prog W 0 (fun _ => true) true 24 v d p) :
    ∃ ad cap xs, v = .slice ad xs.length cap ∧ xs.length ≤ maxLen ∧ CellsAt W ad (ints xs) ∧ ∀ x ∈ xs, (Lit.int .i64 x).wf = true := by
  obtain ⟨a0, len, cap, rfl⟩ := okWide_slice Tryz.underlying24 hv
  obtain ⟨fuel, hf⟩ := h
  rcases open_ints Tryz.underlying24 Tryz.underlying3 Tryz.cellsInt hf with ⟨hcs, hx⟩ | ⟨a, len', cap', zs, hcs, _, hl, hm, hz, hx, hcell, hwz⟩
  · simp [Value.cells] at hcs
    obtain ⟨rfl, rfl, rfl⟩ := hcs
    exact ⟨none, 0, [], rfl, by simp, .inl rfl, by simp⟩
  · simp [Value.cells] at hcs
    obtain ⟨rfl, rfl, rfl⟩ := hcs
    simp only [if_true] at hz
    have hlen : (zs.take len).length = len := by rw [List.length_take]; omega
    refine ⟨some a, cap, zs.take len, by rw [hlen], by rw [hlen]; omega, ?_, fun x hx => hwz x (List.mem_of_mem_take hx)⟩
    by_cases h0 : len = 0
    · subst h0; left; rfl
    · obtain ⟨b, off, rfl, hc⟩ := _root_.Go.ints_at hcell (by omega)
      refine .inr ⟨b, off, rfl, fun j u hu => ?_⟩
      have hj : j < len := by
        rcases Nat.lt_or_ge j len with q | q
        · exact q
        · rw [List.getElem?_eq_none (by rw [ints_length]; omega)] at hu; cases hu
      rw [ints, List.getElem?_map, List.getElem?_take, if_pos hj, List.getElem?_eq_getElem (by omega)] at hu
      simp only [Option.map_some, Option.some.injEq] at hu
      rw [hc j (by omega), ← hu]
      simp [List.getD_eq_getElem?_getD, List.getElem?_eq_getElem (show j < zs.length by omega)]

theorem i64_bounds {x : Int} (h : (Lit.int .i64 x).wf = true) : -9223372036854775808 ≤ x ∧ x ≤ 9223372036854775807 := by
  simpa [Lit.wf, IntKind.min, IntKind.max, IntKind.signed, IntKind.bits] using h

end Go.Proofs.YtajmdgcnnipdoaaGreatDoor

/- SliceElems: a slice that reads as data: each element's cells. -/
namespace Go.Proofs.YtajmdgcnnipdoaaGreatDoor
open Go.ChangeShapes Go.WideShapes Go.ChangeAt Go.RowKit

/-- A slice of whatever elements that reads as data: each element's cells. -/
theorem slice_elems {H : Type} {enc : TypeId × Value → H} {P : Program} {W : World} {held : Bool} {t e : TypeId} {sz fuel len cap : Nat} {a0 : Option Addr} {x : DataW H × List MemPlace}
    (ht : P.underlying t = some (.slice e)) (hc : P.cellsOf e = sz) (hsz : 0 < sz) (h : DataW.trod enc P W 0 (fun _ => true) held fuel t [.slice a0 len cap] = some x) :
    len ≤ maxLen ∧ (0 < len → ∃ b off, a0 = some ⟨b, off, none⟩ ∧ ∀ i, i < len → ∃ (ys : List Value) (n : Nat) (y : DataW H × List MemPlace), ys.length = sz ∧ DataW.trod enc P W 0 (fun _ => true) held n e ys = some y ∧
      ∀ j u, ys[j]? = some u → W.cell? ⟨b, off + (i * sz + j), none⟩ = some u) := by
  rcases DataW.trod_slice ht h with ⟨hcs, _⟩ | ⟨a, len', cap', elems, rest, n, _, hcs, _, _, hl, hm, hlen, hel, _⟩
  · simp at hcs
    obtain ⟨rfl, rfl, rfl⟩ := hcs
    exact ⟨by simp [maxLen], fun h => absurd h (by omega)⟩
  · simp at hcs
    obtain ⟨rfl, rfl, rfl⟩ := hcs
    refine ⟨by omega, fun hpos => ?_⟩
    have each : ∀ i, i < len → ∃ (ys : List Value) (y : DataW H × List MemPlace), ys.length = sz ∧ DataW.trod enc P W 0 (fun _ => true) held n e ys = some y ∧ ∀ j u, ys[j]? = some u → W.cell? ((a.add (i * sz)).add j) = some u := by
      intro i hi
      have h1 := hel i hi
      rw [hc, List.getElem?_eq_getElem (by omega)] at h1
      cases hys : W.cells? 0 (a.add (i * sz)) sz with
      | none => rw [hys] at h1; simp at h1
      | some ys =>
        rw [hys] at h1
        simp only [Option.bind_some] at h1
        unfold World.cells? at hys
        rw [if_pos (Nat.zero_le _)] at hys
        have hl1 := mapM_some_length hys
        rw [List.length_range] at hl1
        refine ⟨ys, _, hl1, h1, fun j u hu => ?_⟩
        have hj : j < sz := by
          rcases Nat.lt_or_ge j sz with q | q
          · exact q
          · rw [List.getElem?_eq_none (by omega)] at hu; cases hu
        rw [mapM_some_get hys j j (by simp [hj]), hu]
    obtain ⟨b, off, spot⟩ := a
    have hspot : spot = none := by
      obtain ⟨ys, y, hl1, _, hcell⟩ := each 0 hpos
      have h0 := hcell 0 (ys[0]'(by omega)) (by simp)
      have := World.cell?_spot h0
      simpa [Addr.add] using this
    subst hspot
    refine ⟨b, off, rfl, fun i hi => ?_⟩
    obtain ⟨ys, y, h1, h2, h3⟩ := each i hi
    refine ⟨ys, n, y, h1, h2, fun j u hu => ?_⟩
    have := h3 j u hu
    rw [add_plain, add_plain] at this
    rw [← Nat.add_assoc]
    exact this

end Go.Proofs.YtajmdgcnnipdoaaGreatDoor

/- Cl0: cells of two numbers, as lists and as the values of a slice's cells; plain. -/
namespace Go.Proofs.YtajmdgcnnipdoaaGreatDoor
open Go.RowKit

structure Cl where
  x : Int
  y : Int
  deriving DecidableEq
def Cl.cells (c : Cl) : List Value := [.int .i64 c.x, .int .i64 c.y]
def cls (l : List Cl) : List Value := l.flatMap Cl.cells
theorem cls_length (l : List Cl) : (cls l).length = l.length * 2 := by
  unfold cls
  induction l with
  | nil => rfl
  | cons i l ih => simp only [List.flatMap_cons, List.length_append, ih, List.length_cons, Cl.cells, List.length_nil]; omega
theorem cls_append (xs ys : List Cl) : cls (xs ++ ys) = cls xs ++ cls ys := by simp [cls]
theorem cls_at (l : List Cl) (k : Nat) (h : k < l.length) : (cls l)[k * 2]? = some (.int .i64 l[k].x) ∧ (cls l)[k * 2 + 1]? = some (.int .i64 l[k].y) := by
  induction l generalizing k with
  | nil => simp at h
  | cons c l ih =>
    have e : cls (c :: l) = [.int .i64 c.x, .int .i64 c.y] ++ cls l := rfl
    rw [e]
    match k with
    | 0 => simp
    | k + 1 =>
      have := ih k (by simpa using h)
      rw [show (k + 1) * 2 = k * 2 + 2 from by omega, show k * 2 + 2 + 1 = k * 2 + 1 + 2 from by omega]
      simpa using this
theorem cls_one (l : List Cl) : ∀ u ∈ cls l, u.oneCell' = true := by
  intro u hu
  unfold cls at hu
  rw [List.mem_flatMap] at hu
  obtain ⟨c, _, hc⟩ := hu
  simp only [Cl.cells, List.mem_cons, List.not_mem_nil, or_false] at hc
  rcases hc with rfl | rfl <;> rfl
/-- The address and the cells of a list that is not empty. -/
theorem cl_open {w : World} {ad : Option Addr} {l : List Cl} (h : CellsAt w ad (cls l)) (hn : 0 < l.length) : ∃ g off, ad = some ⟨g, off, none⟩ ∧ g < w.heap.size ∧
    ∀ k (hk : k < l.length), w.cell? ⟨g, off + k * 2, none⟩ = some (.int .i64 l[k].x) ∧ w.cell? ⟨g, off + k * 2 + 1, none⟩ = some (.int .i64 l[k].y) := by
  obtain ⟨g, off, rfl, hg, hc⟩ := h.open (by rw [cls_length]; omega)
  refine ⟨g, off, rfl, hg, fun k hk => ?_⟩
  obtain ⟨i0, i1⟩ := cls_at l k hk
  exact ⟨hc _ _ i0, hc _ _ i1⟩
/-- Whether a cell is among those of a list. -/
def hasC (l : List Cl) (x y : Int) : Bool := decide ((⟨x, y⟩ : Cl) ∈ l)
theorem cl_eq_iff {c : Cl} {x y : Int} : c = ⟨x, y⟩ ↔ c.x = x ∧ c.y = y := by
  obtain ⟨a, b⟩ := c
  simp
theorem not_mem_take_succ {l : List Cl} {k : Nat} {c : Cl} (hk : k < l.length) (h : c ∉ l.take k) (hc : l[k] ≠ c) : c ∉ l.take (k + 1) := by
  rw [List.take_succ_eq_append_getElem hk, List.mem_append, List.mem_singleton]
  rintro (q | q)
  · exact h q
  · exact hc q.symm
theorem cl_box {w : World} {b : Nat} {T : TypeId} {x y : Int} (h : w.heap[b]? = some (.cells #[.int .i64 x, .int .i64 y] T (0, 0))) : w.cell? ⟨b, 0, none⟩ = some (.int .i64 x) ∧ w.cell? ⟨b, 1, none⟩ = some (.int .i64 y) :=
  ⟨by rw [cell_of_row w _ 0 _ _ _ h]; rfl, by rw [cell_of_row w _ 1 _ _ _ h]; rfl⟩
end Go.Proofs.YtajmdgcnnipdoaaGreatDoor

/- OrderG: things put in order, each once: by putting one after the other from the right, and by sorting; for any order; plain. -/
namespace Go.Proofs.YtajmdgcnnipdoaaGreatDoor
open Go.RowKit

/-- A strict order that is whole. -/
structure Whole {α : Type} (lt : α → α → Bool) : Prop where
  irr : ∀ a, lt a a = false
  tr : ∀ a b c, lt a b = true → lt b c = true → lt a c = true
  tot : ∀ a b, a ≠ b → lt a b = true ∨ lt b a = true
section
variable {α : Type} {lt : α → α → Bool}
theorem Whole.asym (O : Whole lt) {a b : α} (h : lt a b = true) : lt b a = false := by
  cases hb : lt b a with
  | false => rfl
  | true => have := O.tr _ _ _ h hb; rw [O.irr] at this; cases this
theorem Whole.ne (O : Whole lt) {a b : α} (h : lt a b = true) : a ≠ b := by
  rintro rfl
  rw [O.irr] at h; cases h
theorem Whole.of_not (O : Whole lt) {a b : α} (h : lt a b = false) : a = b ∨ lt b a = true := by
  by_cases e : a = b
  · exact .inl e
  · rcases O.tot a b e with q | q
    · rw [h] at q; cases q
    · exact .inr q
def AscG (lt : α → α → Bool) (l : List α) : Prop := l.Pairwise (fun a b => lt a b = true)
theorem ascG_ext (O : Whole lt) : ∀ {xs ys : List α}, AscG lt xs → AscG lt ys → (∀ n, n ∈ xs ↔ n ∈ ys) → xs = ys := by
  intro xs
  induction xs with
  | nil =>
    intro ys _ _ h
    cases ys with
    | nil => rfl
    | cons y ys => have := (h y).2 (by simp); simp at this
  | cons x xs ih =>
    intro ys hx hy h
    cases ys with
    | nil => have := (h x).1 (by simp); simp at this
    | cons y ys =>
      have hx' := List.pairwise_cons.1 hx
      have hy' := List.pairwise_cons.1 hy
      have e : x = y := by
        rcases List.mem_cons.1 ((h x).1 (by simp)) with q | q
        · exact q
        · rcases List.mem_cons.1 ((h y).2 (by simp)) with r | r
          · exact r.symm
          · have h1 := hy'.1 x q
            have h2 := hx'.1 y r
            rw [O.asym h1] at h2; cases h2
      subst e
      congr 1
      refine ih hx'.2 hy'.2 fun n => ?_
      have hn := h n
      simp only [List.mem_cons] at hn
      constructor
      · intro q
        rcases hn.1 (.inr q) with r | r
        · subst r
          have := hx'.1 n q
          rw [O.irr] at this; cases this
        · exact r
      · intro q
        rcases hn.2 (.inr q) with r | r
        · subst r
          have := hy'.1 n q
          rw [O.irr] at this; cases this
        · exact r

variable [Inhabited α]
/-- How far the thing goes down. -/
def putKG (lt : α → α → Bool) (l : List α) (n : α) : Nat → Nat
  | 0 => 0
  | k + 1 => if lt n (l.getD k default) = true then putKG lt l n k else k + 1
theorem putKG_le (l : List α) (n : α) : ∀ m, putKG lt l n m ≤ m := by
  intro m
  induction m with
  | zero => exact Nat.le_refl _
  | succ m ih =>
    unfold putKG
    split
    · omega
    · exact Nat.le_refl _
theorem putKG_hi (l : List α) (n : α) : ∀ m j, putKG lt l n m ≤ j → j < m → lt n (l.getD j default) = true := by
  intro m
  induction m with
  | zero => intro j _ h; omega
  | succ m ih =>
    intro j h1 h2
    unfold putKG at h1
    split at h1
    · rename_i h
      by_cases e : j = m
      · rw [e]; exact h
      · exact ih j h1 (by omega)
    · omega
theorem putKG_lo (l : List α) (n : α) : ∀ m, 0 < putKG lt l n m → lt n (l.getD (putKG lt l n m - 1) default) = false := by
  intro m
  induction m with
  | zero => intro h; exact absurd h (by simp [putKG])
  | succ m ih =>
    intro h
    unfold putKG at h ⊢
    split
    · rename_i h1
      rw [if_pos h1] at h
      exact ih h
    · rename_i h1
      rw [Nat.add_sub_cancel]
      simpa using h1
theorem getDG {l : List α} {j : Nat} (h : j < l.length) : l.getD j default = l[j] := by simp [List.getD_eq_getElem?_getD, h]
variable [DecidableEq α]
/-- A thing put into an ascending list, once. -/
def putG (lt : α → α → Bool) (l : List α) (n : α) : List α :=
  if 0 < putKG lt l n l.length ∧ l.getD (putKG lt l n l.length - 1) default = n then l else l.take (putKG lt l n l.length) ++ n :: l.drop (putKG lt l n l.length)
theorem mem_putG (l : List α) (n x : α) : x ∈ putG lt l n ↔ x = n ∨ x ∈ l := by
  unfold putG
  have hle := putKG_le (lt := lt) l n l.length
  split
  · rename_i h
    constructor
    · exact .inr
    · rintro (q | q)
      · rw [q, ← h.2, getDG (by omega)]; exact List.getElem_mem _
      · exact q
  · rw [List.mem_append, List.mem_cons]
    constructor
    · rintro (q | q | q)
      · exact .inr (List.mem_of_mem_take q)
      · exact .inl q
      · exact .inr (List.mem_of_mem_drop q)
    · rintro (q | q)
      · exact .inr (.inl q)
      · rw [← List.take_append_drop (putKG lt l n l.length) l, List.mem_append] at q
        rcases q with q | q
        · exact .inl q
        · exact .inr (.inr q)
theorem putG_length (l : List α) (n : α) : (putG lt l n).length ≤ l.length + 1 := by
  unfold putG
  have hle := putKG_le (lt := lt) l n l.length
  split
  · omega
  · simp; omega
theorem putG_ge (l : List α) (n : α) : l.length ≤ (putG lt l n).length := by
  unfold putG
  have hle := putKG_le (lt := lt) l n l.length
  split
  · omega
  · simp; omega
theorem asc_putG (O : Whole lt) {l : List α} (h : AscG lt l) (n : α) : AscG lt (putG lt l n) := by
  unfold putG
  have hle := putKG_le (lt := lt) l n l.length
  have hhi := putKG_hi (lt := lt) l n l.length
  have hlo := putKG_lo (lt := lt) l n l.length
  generalize putKG lt l n l.length = k at hle hhi hlo
  split
  · exact h
  · rename_i hne
    have hd : ∀ b ∈ l.drop k, lt n b = true := by
      intro b hb
      obtain ⟨i, hi, rfl⟩ := List.mem_iff_getElem.1 hb
      rw [List.length_drop] at hi
      have := hhi (k + i) (by omega) (by omega)
      rw [getDG (by omega)] at this
      simpa using this
    have ht : ∀ a ∈ l.take k, lt a n = true := by
      intro a ha
      obtain ⟨i, hi, rfl⟩ := List.mem_iff_getElem.1 ha
      rw [List.length_take] at hi
      have h1 := hlo (by omega)
      have h2 : ¬ l.getD (k - 1) default = n := fun q => hne ⟨by omega, q⟩
      rw [getDG (by omega)] at h1 h2
      have h3 : lt l[k - 1] n = true := by
        rcases O.of_not h1 with q | q
        · exact absurd q.symm h2
        · exact q
      simp only [List.getElem_take]
      by_cases e : i = k - 1
      · subst e; exact h3
      · have := List.pairwise_iff_getElem.1 h i (k - 1) (by omega) (by omega) (by omega)
        exact O.tr _ _ _ this h3
    unfold AscG at h ⊢
    refine List.pairwise_append.2 ⟨List.Pairwise.sublist (List.take_sublist k l) h, List.pairwise_cons.2 ⟨hd, List.Pairwise.sublist (List.drop_sublist k l) h⟩, ?_⟩
    intro a ha b hb
    rcases List.mem_cons.1 hb with q | q
    · rw [q]; exact ht a ha
    · exact O.tr _ _ _ (ht a ha) (hd b q)
def putAllG (lt : α → α → Bool) (l : List α) : List α := l.foldl (putG lt) []
theorem putAllG_snoc (l : List α) (n : α) : putAllG lt (l ++ [n]) = putG lt (putAllG lt l) n := by simp [putAllG]
theorem putAllG_length (l : List α) : (putAllG lt l).length ≤ l.length := by
  have key : ∀ xs ys : List α, (xs.foldl (putG lt) ys).length ≤ ys.length + xs.length := by
    intro xs
    induction xs with
    | nil => intro ys; simp
    | cons a xs ih =>
      intro ys
      have h1 := ih (putG lt ys a)
      have h2 := putG_length (lt := lt) ys a
      rw [List.foldl_cons, List.length_cons]
      omega
  have := key l []
  simpa [putAllG] using this
theorem foldl_putG (O : Whole lt) (xs : List α) : ∀ l, AscG lt l → AscG lt (xs.foldl (putG lt) l) ∧ ∀ x, x ∈ xs.foldl (putG lt) l ↔ x ∈ l ∨ x ∈ xs := by
  induction xs with
  | nil => intro l h; exact ⟨h, by simp⟩
  | cons a xs ih =>
    intro l h
    obtain ⟨h1, h2⟩ := ih (putG lt l a) (asc_putG O h a)
    refine ⟨h1, fun x => ?_⟩
    rw [List.foldl_cons, h2, mem_putG, List.mem_cons]
    constructor
    · rintro ((q | q) | q)
      · exact .inr (.inl q)
      · exact .inl q
      · exact .inr (.inr q)
    · rintro (q | q | q)
      · exact .inl (.inr q)
      · exact .inl (.inl q)
      · exact .inr q
theorem asc_putAllG (O : Whole lt) (xs : List α) : AscG lt (putAllG lt xs) := (foldl_putG O xs [] List.Pairwise.nil).1
theorem mem_putAllG (O : Whole lt) (xs : List α) (x : α) : x ∈ putAllG lt xs ↔ x ∈ xs := by
  have := (foldl_putG O xs [] List.Pairwise.nil).2 x
  simpa [putAllG] using this
/-- An ascending list with the same members is the list of all that were put. -/
theorem putAllG_eq (O : Whole lt) {xs l : List α} (h : AscG lt l) (hm : ∀ x, x ∈ l ↔ x ∈ xs) : putAllG lt xs = l :=
  ascG_ext O (asc_putAllG O xs) h fun x => by rw [mem_putAllG O, hm]
theorem putAllG_self (O : Whole lt) {l : List α} (h : AscG lt l) : putAllG lt l = l := putAllG_eq O h fun _ => Iff.rfl
theorem putAllG_congr (O : Whole lt) {xs ys : List α} (hm : ∀ x, x ∈ xs ↔ x ∈ ys) : putAllG lt xs = putAllG lt ys :=
  putAllG_eq O (asc_putAllG O ys) fun x => by rw [mem_putAllG O, hm]

/-- The first of each run of equal things, of the first ones. -/
def dedToG (l : List α) : Nat → List α
  | 0 => []
  | i + 1 => if i = 0 ∨ l.getD (i - 1) default ≠ l.getD i default then dedToG l i ++ [l.getD i default] else dedToG l i
theorem dedToG_ok (O : Whole lt) {l : List α} (h : l.Pairwise (fun a b => lt b a = false)) : ∀ i, i ≤ l.length → AscG lt (dedToG l i) ∧ ∀ x, x ∈ dedToG l i ↔ x ∈ l.take i := by
  intro i
  induction i with
  | zero => intro _; exact ⟨List.Pairwise.nil, by simp [dedToG]⟩
  | succ i ih =>
    intro hi
    obtain ⟨h1, h2⟩ := ih (by omega)
    have e : l.take (i + 1) = l.take i ++ [l.getD i default] := by rw [List.take_succ_eq_append_getElem (by omega), getDG (by omega)]
    unfold dedToG
    split
    · rename_i hc
      refine ⟨?_, fun x => by rw [e, List.mem_append, List.mem_append, h2]⟩
      unfold AscG at h1 ⊢
      refine List.pairwise_append.2 ⟨h1, List.pairwise_singleton _ _, fun a ha b hb => ?_⟩
      rw [List.mem_singleton.1 hb]
      have ha' := (h2 a).1 ha
      obtain ⟨j, hj, rfl⟩ := List.mem_iff_getElem.1 ha'
      rw [List.length_take] at hj
      rw [List.getElem_take, getDG (by omega)]
      rcases hc with hc | hc
      · omega
      · rw [getDG (by omega), getDG (by omega)] at hc
        have q2 : lt l[i - 1] l[i] = true := by
          rcases O.of_not (List.pairwise_iff_getElem.1 h (i - 1) i (by omega) (by omega) (by omega)) with q | q
          · exact absurd q.symm hc
          · exact q
        by_cases q : j = i - 1
        · subst q; exact q2
        · rcases O.of_not (List.pairwise_iff_getElem.1 h j (i - 1) (by omega) (by omega) (by omega)) with r | r
          · rw [← r]; exact q2
          · exact O.tr _ _ _ r q2
    · rename_i hc
      refine ⟨h1, fun x => ?_⟩
      rw [h2, e, List.mem_append, List.mem_singleton]
      constructor
      · exact .inl
      · rintro (q | q)
        · exact q
        · have hi0 : ¬ i = 0 := fun q' => hc (.inl q')
          have heq : l.getD (i - 1) default = l.getD i default := by
            by_cases q' : l.getD (i - 1) default = l.getD i default
            · exact q'
            · exact absurd (.inr q') hc
          rw [q, ← heq, getDG (by omega)]
          exact List.mem_iff_getElem.2 ⟨i - 1, by rw [List.length_take]; omega, by simp⟩
theorem dedToG_le (l : List α) : ∀ i, (dedToG l i).length ≤ i := by
  intro i
  induction i with
  | zero => exact Nat.le_refl _
  | succ i ih =>
    unfold dedToG
    split
    · simp; omega
    · omega
/-- Sorting and putting come to the same. -/
theorem ded_eq (O : Whole lt) {xs l : List α} (h : l.Pairwise (fun a b => lt b a = false)) (hm : ∀ x, x ∈ l ↔ x ∈ xs) : dedToG l l.length = putAllG lt xs := by
  obtain ⟨h1, h2⟩ := dedToG_ok O h l.length (Nat.le_refl _)
  refine ascG_ext O h1 (asc_putAllG O xs) fun x => ?_
  rw [h2, mem_putAllG O, List.take_length, hm]
end

/-! ### numbers, cells, lists of cells -/
def ltI (a b : Int) : Bool := decide (a < b)
theorem wholeI : Whole ltI where
  irr a := by simp [ltI]
  tr a b c h1 h2 := by simp [ltI] at *; omega
  tot a b h := by simp [ltI]; omega
instance : Inhabited Cl := ⟨⟨0, 0⟩⟩
def ltC (a b : Cl) : Bool := decide (a.y < b.y) || (decide (a.y = b.y) && decide (a.x < b.x))
theorem ltC_iff {a b : Cl} : ltC a b = true ↔ a.y < b.y ∨ (a.y = b.y ∧ a.x < b.x) := by simp [ltC]
theorem wholeC : Whole ltC where
  irr a := by
    cases h : ltC a a with
    | false => rfl
    | true => rw [ltC_iff] at h; omega
  tr a b c h1 h2 := by rw [ltC_iff] at *; omega
  tot a b h := by
    rw [ltC_iff, ltC_iff]
    have : ¬ (a.x = b.x ∧ a.y = b.y) := fun q => h (by obtain ⟨x, y⟩ := a; obtain ⟨x', y'⟩ := b; simp at q; rw [q.1, q.2])
    omega
/-- Of lists of one length the first cell that differs decides. -/
def ltLex : List Cl → List Cl → Bool
  | [], _ => false
  | _ :: _, [] => false
  | a :: l, b :: m => ltC a b || (decide (a = b) && ltLex l m)
def ltS (a b : List Cl) : Bool := decide (a.length < b.length) || (decide (a.length = b.length) && ltLex a b)
theorem ltLex_irr : ∀ a, ltLex a a = false
  | [] => rfl
  | a :: l => by simp [ltLex, wholeC.irr, ltLex_irr l]
theorem ltLex_tr : ∀ a b c, ltLex a b = true → ltLex b c = true → ltLex a c = true
  | [], _, _, h, _ => by simp [ltLex] at h
  | _ :: _, [], _, h, _ => by simp [ltLex] at h
  | _ :: _, _ :: _, [], _, h => by simp [ltLex] at h
  | a :: l, b :: m, c :: n, h1, h2 => by
    simp only [ltLex, Bool.or_eq_true, Bool.and_eq_true, decide_eq_true_eq] at *
    rcases h1 with h1 | ⟨rfl, h1⟩
    · rcases h2 with h2 | ⟨rfl, h2⟩
      · exact .inl (wholeC.tr _ _ _ h1 h2)
      · exact .inl h1
    · rcases h2 with h2 | ⟨rfl, h2⟩
      · exact .inl h2
      · exact .inr ⟨rfl, ltLex_tr l m n h1 h2⟩
theorem ltLex_tot : ∀ a b : List Cl, a.length = b.length → a ≠ b → ltLex a b = true ∨ ltLex b a = true
  | [], [], _, h => absurd rfl h
  | [], _ :: _, h, _ => by simp at h
  | _ :: _, [], h, _ => by simp at h
  | a :: l, b :: m, h, hne => by
    simp only [ltLex, Bool.or_eq_true, Bool.and_eq_true, decide_eq_true_eq]
    by_cases e : a = b
    · subst e
      rcases ltLex_tot l m (by simpa using h) (fun q => hne (by rw [q])) with q | q
      · exact .inl (.inr ⟨rfl, q⟩)
      · exact .inr (.inr ⟨rfl, q⟩)
    · rcases wholeC.tot a b e with q | q
      · exact .inl (.inl q)
      · exact .inr (.inl q)
theorem ltS_iff {a b : List Cl} : ltS a b = true ↔ a.length < b.length ∨ (a.length = b.length ∧ ltLex a b = true) := by simp [ltS]
theorem wholeS : Whole ltS where
  irr a := by simp [ltS, ltLex_irr]
  tr a b c h1 h2 := by
    rw [ltS_iff] at *
    rcases h1 with h1 | ⟨e1, h1⟩
    · rcases h2 with h2 | ⟨e2, h2⟩
      · left; omega
      · left; omega
    · rcases h2 with h2 | ⟨e2, h2⟩
      · left; omega
      · exact .inr ⟨by omega, ltLex_tr _ _ _ h1 h2⟩
  tot a b h := by
    rw [ltS_iff, ltS_iff]
    rcases Nat.lt_trichotomy a.length b.length with q | q | q
    · exact .inl (.inl q)
    · rcases ltLex_tot a b q h with r | r
      · exact .inl (.inr ⟨q, r⟩)
      · exact .inr (.inr ⟨q.symm, r⟩)
    · exact .inr (.inl q)
def sortIL (l : List Int) : List Int := l.mergeSort fun x y => decide (x ≤ y)
theorem sortIL_length (l : List Int) : (sortIL l).length = l.length := List.length_mergeSort l
theorem sortIL_pairwise (l : List Int) : (sortIL l).Pairwise (fun a b => ltI b a = false) := by
  have h := List.pairwise_mergeSort (le := fun x y : Int => decide (x ≤ y)) (fun a b c h1 h2 => by simp at *; omega) (fun a b => by simp; omega) l
  exact h.imp fun h => by simp [ltI] at h ⊢; omega
theorem orderedI_eq (l : List Int) : dedToG (sortIL l) l.length = putAllG ltI l := by
  rw [← sortIL_length l]
  exact ded_eq wholeI (sortIL_pairwise l) fun x => by unfold sortIL; exact List.mem_mergeSort
end Go.Proofs.YtajmdgcnnipdoaaGreatDoor

/- AppStep: appending a whole slice to one that the call itself owns, in a region that draws its order. -/
namespace Go.Proofs.YtajmdgcnnipdoaaGreatDoor
open Go.RowKit

section
variable {P : Program} {ops : Array Oper} {o : Oper} {a : Act} {w : World} {K : Act → World → Prop} {Q : Exit → Act → World → Prop}

theorem appN_core (s x : Operand) (t : TypeId) (ho : o.op = .call { callee := .builtin .append, args := #[s, x], argTypes := #[t, t] })
    (base e : Nat) (z : Value) (size bytes : Nat) (T : ElemT P t e z size bytes) (v : Value) (n : Nat) (xs : List Value) (hs : a.eval s = v) (hown : w.ownsRow base e size v n xs)
    (ad : Option Addr) (m c : Nat) (news : List Value) (hx : a.eval x = .slice ad m c) (hnil : ad = none → c = 0) (hl : news.length = m * size) (hc : CellsAt w ad news) (h1 : ∀ u ∈ news, u.oneCell' = true)
    (h63 : n + m ≤ maxLen) (hbytes : (n + m) * bytes ≤ 140737488355328) (hbase : base ≤ w.heap.size)
    (h : ∀ ad' cap' w', w'.ownsRow base e size (.slice ad' (n + m) cap') (n + m) (xs ++ news) → Below base w w' → w.grownBy w' v.ownBlock → K (a.put o.dst (.slice ad' (n + m) cap')) w') :
    o.wp P a w K Q := by
  obtain ⟨i, hi, hz, hsize, hby⟩ := T.inf
  have hpos := T.pos
  cases ad with
  | none =>
    have hm : m = 0 := by
      rcases hc with hz0 | ⟨g, off, hv, _⟩
      · rw [hz0, List.length_nil] at hl
        rcases Nat.eq_zero_or_pos m with q | q
        · exact q
        · have := Nat.mul_pos q hpos
          omega
      · cases hv
    obtain rfl : c = 0 := hnil rfl
    subst hm
    obtain rfl : news = [] := List.eq_nil_of_length_eq_zero (by simpa using hl)
    have hrun := run_append_owned_none (P := P) (w := w) base t o.type e i size T.und hi v n xs hown
    obtain ⟨ad', cap', hv, _⟩ := ownsRow_cells hown
    have hk : K (a.put o.dst v) w := by
      rw [hv]
      have := h ad' cap' w (by rw [hv] at hown; simpa using hown) (Below.refl _ _) (grownBy_refl _ _)
      simpa using this
    unfold Oper.wp
    simp [execOp, ho, resolve, invoke, builtin, hs, hx, hrun, Result.andThen]
    exact hk
  | some ad =>
    have hnews : ∀ j u, news[j]? = some u → w.cell? (ad.add j) = some u := by
      intro j u hu
      rcases hc with rfl | ⟨g, off, hv, hcc⟩
      · simp at hu
      · cases hv
        rw [Go.WideShapes.add_plain]
        exact hcc j u hu
    refine wp_append_own w s x t ho base e i z size bytes T.und hi hz hsize hby T.zs T.pos v n xs hs hown ad m c news hx hl hnews h1 h63 hbytes hbase ?_
    intro v' w' q1 q2 _
    obtain ⟨ad', cap', rfl, _⟩ := ownsRow_cells q1
    exact h ad' cap' w' q1 ((Below.refl base w).grown q2 hbase (fun k hk => (hown.lt k hk).1)) q2
/-- The same as a step of a region that draws its order. -/
theorem step_appN {E : Prop} (hgd : o.guard = none) (s x : Operand) (t : TypeId) (ho : o.op = .call { callee := .builtin .append, args := #[s, x], argTypes := #[t, t] })
    (base e : Nat) (z : Value) (size bytes : Nat) (T : ElemT P t e z size bytes) (v : Value) (n : Nat) (xs : List Value) (hs : a.eval s = v) (hown : w.ownsRow base e size v n xs)
    (ad : Option Addr) (m c : Nat) (news : List Value) (hx : a.eval x = .slice ad m c) (hnil : ad = none → c = 0) (hl : news.length = m * size) (hc : CellsAt w ad news) (h1 : ∀ u ∈ news, u.oneCell' = true)
    (h63 : n + m ≤ maxLen) (hbytes : (n + m) * bytes ≤ 140737488355328) (hbase : base ≤ w.heap.size)
    (h : ∀ ad' cap' w', w'.ownsRow base e size (.slice ad' (n + m) cap') (n + m) (xs ++ news) → Below base w w' → w.grownBy w' v.ownBlock → K (a.put o.dst (.slice ad' (n + m) cap')) w') :
    if Region.wanted o (yielded ops a.tmps) = true then Oper.wp P o a w K Q else E := by
  have hw : Region.wanted o (yielded ops a.tmps) = true := by simp [Region.wanted, hgd]
  rw [if_pos hw]
  exact appN_core s x t ho base e z size bytes T v n xs hs hown ad m c news hx hnil hl hc h1 h63 hbytes hbase h
end
section
variable {P : Program} {ops : Array Oper} {o : Oper} {a : Act} {wr w2 : World} {K : Act → World → Prop} {Q : Exit → Act → World → Prop}
/-- append(v, x): a step of a region that draws its order, x's slice built in whatever world. -/
theorem step_app1w {E : Prop} (hgd : o.guard = none) (s x : Operand) (t : TypeId) (ho : o.op = .call { callee := .builtin .append, args := #[s, x], argTypes := #[t, t] })
    (base e : Nat) (z : Value) (size bytes : Nat) (T : ElemT P t e z size bytes) (v : Value) (n : Nat) (xs : List Value) (cs : Array Value) (B : Nat) (f : Nat × Nat) (hB : wr.heap.size = B)
    (hs : a.eval s = v) (hx : a.eval x = .slice (some ⟨B, 0, none⟩) 1 1) (hg2 : wr.grownBy w2 none) (hb2 : w2.heap[B]? = some (.cells cs e f)) (hown : wr.ownsRow base e size v n xs) (hcs : cs.size = size)
    (h1 : ∀ u ∈ cs.toList, u.oneCell' = true) (h63 : n + 1 ≤ maxLen) (hbytes : (n + 1) * bytes ≤ 140737488355328) (hbase : base ≤ B)
    (h : ∀ g cap w', w'.ownsRow base e size (.slice (some ⟨g, 0, none⟩) (n + 1) cap) (n + 1) (xs ++ cs.toList) → Below base wr w' → wr.grownBy w' v.ownBlock → base ≤ g → g < w'.heap.size → (v.ownBlock = some g ∨ B ≤ g) →
      K (a.put o.dst (.slice (some ⟨g, 0, none⟩) (n + 1) cap)) w') :
    if Region.wanted o (yielded ops a.tmps) = true then Oper.wp P o a w2 K Q else E := by
  have hw : Region.wanted o (yielded ops a.tmps) = true := by simp [Region.wanted, hgd]
  rw [if_pos hw]
  exact app1_core s x t ho base e z size bytes T v n xs cs B f hB hs hx hg2 hb2 hown hcs h1 h63 hbytes hbase h
end
end Go.Proofs.YtajmdgcnnipdoaaGreatDoor
