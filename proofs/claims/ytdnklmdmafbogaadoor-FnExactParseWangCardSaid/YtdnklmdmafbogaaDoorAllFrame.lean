/- AllFrame: parts laid together: Frame, FrameInts, SliceElems, Cl0, OrderG, AppStep. -/
import Derived.Test.YtdnklmdmafbogaaDoorRows
import Derived.WalkKit
import Derived.ProofKit
import Derived.OpenShut
import Derived.SizedLaws
import Derived.Carry
import Derived.Test.YtdnklmdmafbogaaDoorAllBase

/- Frame: what closes every law's row: its result is true, and of what was there nothing has turned. -/
namespace Go.Proofs.YtdnklmdmafbogaaDoor
open Go.ChangeShapes Go.WideShapes Go.ChangeAt Go.RowKit

theorem Tryd.own : ownKnob Tryd.prog.godebug = none := by kernel_rfl
theorem Tryd.laid : laidOutB Tryd.prog = true := by kernel_rfl

theorem below_trodAll {H : Type} {enc : TypeId × Value → H} {P : Program} (hl : laidOutB P = true) {W W' : World} (hb : Below W.heap.size W W') :
    ∀ (ts : List TypeId) (vs : List Value) (ds : List (DataW H)) (ps : List MemPlace), (∀ t ∈ ts, P.readableRec t = true ∧ t < P.types.size) → DataW.TrodAll enc P W 0 (fun _ => true) true ts vs ds ps →
      (∀ x ∈ ps, x.block < W.heap.size) → DataW.TrodAll enc P W' 0 (fun b => decide (b < W.heap.size)) true ts vs ds ps := by
  intro ts
  induction ts with
  | nil =>
    intro vs ds ps _ h hlt
    cases vs with
    | nil => cases ds with
      | nil => exact h
      | cons d ds => exact h
    | cons v vs => exact h
  | cons t ts ih =>
    intro vs ds ps hr h hlt
    cases vs with
    | nil => exact h
    | cons v vs => cases ds with
      | nil => exact h
      | cons d ds =>
        obtain ⟨p, q, h1, h2, rfl⟩ := h
        have hrt := hr t (by simp)
        refine ⟨p, q, Below.trod hl hrt.1 hrt.2 h1 hb (fun x hx => hlt x (by simp [hx])), ih vs ds q (fun u hu => hr u (by simp [hu])) h2 (fun x hx => hlt x (by simp [hx])), rfl⟩

/-- A law's 'post', out of 'the result is true' and 'nothing that was there has turned'. -/
theorem law_post {H : Type} {enc : TypeId × Value → H} {f : Func} {s : ChangeSpec} {W W' : World} {args : Array Value} {ds : List (DataW H)} {before : List MemPlace}
    (hv : s.vars = []) (hW : DataW.Whole enc Tryd.prog f.params.toList s.vars false W args.toList ds [] before) (hb : Below W.heap.size W W')
    (hp : ∀ t ∈ f.params.toList, Tryd.prog.readableRec t = true ∧ t < Tryd.prog.types.size) (hr : f.resultTypes.toList = [4]) (hn : f.resultTypes.size = 1)
    (hfn : s.fn H (ds ++ []) = { results := [.lit (.bool true)], args := ds }) :
    s.post enc Tryd.prog f false true false false W args (.bool true) W' := by
  have hlt : ∀ x ∈ before, x.block < W.heap.size := fun x hx => by simpa using hW.lt x hx
  obtain ⟨p, q, hA, hV, hpq, hfz, hnd⟩ := hW
  have hq : q = [] := by rw [hv] at hV; exact hV
  subst hq
  have hW2 : DataW.Whole enc Tryd.prog f.params.toList s.vars false W args.toList ds [] before := ⟨p, [], hA, hV, hpq, hfz, hnd⟩
  rw [List.append_nil] at hpq
  subst hpq
  refine ⟨ds, [], before, [], before, [], hW2, ?_, ?_, ?_, hb.frame _, fun h => by cases h⟩
  · rw [hr, hn, hfn]
    exact trodAll_cons_mk (shut_bool Tryd.underlying4 _) trodAll_mk0
  · rw [hfn]
    exact below_trodAll Tryd.laid hb _ _ _ _ hp hA hlt
  · rw [hv, hfn]
    rfl

/-- Every parameter's type is one that reads as data: one closed fact. -/
theorem readable_all {ts : List TypeId} (h : (ts.all fun t => Tryd.prog.readableRec t && decide (t < Tryd.prog.types.size)) = true) : ∀ t ∈ ts, Tryd.prog.readableRec t = true ∧ t < Tryd.prog.types.size := by
  intro t ht
  have := List.all_eq_true.1 h t ht
  rw [Bool.and_eq_true] at this
  exact ⟨this.1, of_decide_eq_true this.2⟩

end Go.Proofs.YtdnklmdmafbogaaDoor

/- FrameInts: an argument that is a list of integers, opened: its cells. -/
namespace Go.Proofs.YtdnklmdmafbogaaDoor
open Go.ChangeShapes Go.WideShapes Go.ChangeAt Go.RowKit

theorem Tryd.cellsInt : Tryd.prog.cellsOf 3 = 1 := by kernel_rfl

set_option maxRecDepth 100000 in
theorem openInts {H : Type} {enc : TypeId × Value → H} {W : World} {base : Nat} {v : Value} {d : DataW H} {p : List MemPlace}
    (hv : Value.okWide Tryd.prog W .any base 37 v) (h : DataW.Trod enc Tryd.prog W 0 (fun _ => true) true 37 v d p) :
    ∃ ad cap xs, v = .slice ad xs.length cap ∧ xs.length ≤ maxLen ∧ CellsAt W ad (ints xs) ∧ ∀ x ∈ xs, (Lit.int .i64 x).wf = true := by
  obtain ⟨a0, len, cap, rfl⟩ := okWide_slice Tryd.underlying37 hv
  obtain ⟨fuel, hf⟩ := h
  rcases open_ints Tryd.underlying37 Tryd.underlying3 Tryd.cellsInt hf with ⟨hcs, hx⟩ | ⟨a, len', cap', zs, hcs, _, hl, hm, hz, hx, hcell, hwz⟩
  · simp [Value.cells] at hcs
    obtain ⟨rfl, rfl, rfl⟩ := hcs
    exact ⟨none, 0, [], rfl, by simp, .inl rfl, by simp⟩
  · simp [Value.cells] at hcs
    obtain ⟨rfl, rfl, rfl⟩ := hcs
    simp only [if_true] at hz
    have hlen : (zs.take len).length = len := by rw [List.length_take]; omega
    refine ⟨some a, cap, zs.take len, by rw [hlen], by rw [hlen]; omega, ?_, fun x hx => hwz x (List.mem_of_mem_take hx)⟩
    by_cases h0 : len = 0
    · subst h0; left; rfl
    · obtain ⟨b, off, rfl, hc⟩ := _root_.Go.ints_at hcell (by omega)
      refine .inr ⟨b, off, rfl, fun j u hu => ?_⟩
      have hj : j < len := by
        rcases Nat.lt_or_ge j len with q | q
        · exact q
        · rw [List.getElem?_eq_none (by rw [ints_length]; omega)] at hu; cases hu
      rw [ints, List.getElem?_map, List.getElem?_take, if_pos hj, List.getElem?_eq_getElem (by omega)] at hu
      simp only [Option.map_some, Option.some.injEq] at hu
      rw [hc j (by omega), ← hu]
      simp [List.getD_eq_getElem?_getD, List.getElem?_eq_getElem (show j < zs.length by omega)]

theorem i64_bounds {x : Int} (h : (Lit.int .i64 x).wf = true) : -9223372036854775808 ≤ x ∧ x ≤ 9223372036854775807 := by
  simpa [Lit.wf, IntKind.min, IntKind.max, IntKind.signed, IntKind.bits] using h

end Go.Proofs.YtdnklmdmafbogaaDoor

/- SliceElems: a slice that reads as data: each element's cells. -/
namespace Go.Proofs.YtdnklmdmafbogaaDoor
open Go.ChangeShapes Go.WideShapes Go.ChangeAt Go.RowKit

/-- A slice of whatever elements that reads as data: each element's cells. -/
theorem slice_elems {H : Type} {enc : TypeId × Value → H} {P : Program} {W : World} {held : Bool} {t e : TypeId} {sz fuel len cap : Nat} {a0 : Option Addr} {x : DataW H × List MemPlace}
    (ht : P.underlying t = some (.slice e)) (hc : P.cellsOf e = sz) (hsz : 0 < sz) (h : DataW.trod enc P W 0 (fun _ => true) held fuel t [.slice a0 len cap] = some x) :
    len ≤ maxLen ∧ (0 < len → ∃ b off, a0 = some ⟨b, off, none⟩ ∧ ∀ i, i < len → ∃ (ys : List Value) (n : Nat) (y : DataW H × List MemPlace), ys.length = sz ∧ DataW.trod enc P W 0 (fun _ => true) held n e ys = some y ∧
      ∀ j u, ys[j]? = some u → W.cell? ⟨b, off + (i * sz + j), none⟩ = some u) := by
  rcases DataW.trod_slice ht h with ⟨hcs, _⟩ | ⟨a, len', cap', elems, rest, n, _, hcs, _, _, hl, hm, hlen, hel, _⟩
  · simp at hcs
    obtain ⟨rfl, rfl, rfl⟩ := hcs
    exact ⟨by simp [maxLen], fun h => absurd h (by omega)⟩
  · simp at hcs
    obtain ⟨rfl, rfl, rfl⟩ := hcs
    refine ⟨by omega, fun hpos => ?_⟩
    have each : ∀ i, i < len → ∃ (ys : List Value) (y : DataW H × List MemPlace), ys.length = sz ∧ DataW.trod enc P W 0 (fun _ => true) held n e ys = some y ∧ ∀ j u, ys[j]? = some u → W.cell? ((a.add (i * sz)).add j) = some u := by
      intro i hi
      have h1 := hel i hi
      rw [hc, List.getElem?_eq_getElem (by omega)] at h1
      cases hys : W.cells? 0 (a.add (i * sz)) sz with
      | none => rw [hys] at h1; simp at h1
      | some ys =>
        rw [hys] at h1
        simp only [Option.bind_some] at h1
        unfold World.cells? at hys
        rw [if_pos (Nat.zero_le _)] at hys
        have hl1 := mapM_some_length hys
        rw [List.length_range] at hl1
        refine ⟨ys, _, hl1, h1, fun j u hu => ?_⟩
        have hj : j < sz := by
          rcases Nat.lt_or_ge j sz with q | q
          · exact q
          · rw [List.getElem?_eq_none (by omega)] at hu; cases hu
        rw [mapM_some_get hys j j (by simp [hj]), hu]
    obtain ⟨b, off, spot⟩ := a
    have hspot : spot = none := by
      obtain ⟨ys, y, hl1, _, hcell⟩ := each 0 hpos
      have h0 := hcell 0 (ys[0]'(by omega)) (by simp)
      have := World.cell?_spot h0
      simpa [Addr.add] using this
    subst hspot
    refine ⟨b, off, rfl, fun i hi => ?_⟩
    obtain ⟨ys, y, h1, h2, h3⟩ := each i hi
    refine ⟨ys, n, y, h1, h2, fun j u hu => ?_⟩
    have := h3 j u hu
    rw [add_plain, add_plain] at this
    rw [← Nat.add_assoc]
    exact this

end Go.Proofs.YtdnklmdmafbogaaDoor

/- AppStep: appending a whole slice to one that the call itself owns, in a region that draws its order. -/
namespace Go.Proofs.YtdnklmdmafbogaaDoor
open Go.RowKit

section
variable {P : Program} {ops : Array Oper} {o : Oper} {a : Act} {w : World} {K : Act → World → Prop} {Q : Exit → Act → World → Prop}

theorem appN_core (s x : Operand) (t : TypeId) (ho : o.op = .call { callee := .builtin .append, args := #[s, x], argTypes := #[t, t] })
    (base e : Nat) (z : Value) (size bytes : Nat) (T : ElemT P t e z size bytes) (v : Value) (n : Nat) (xs : List Value) (hs : a.eval s = v) (hown : w.ownsRow base e size v n xs)
    (ad : Option Addr) (m c : Nat) (news : List Value) (hx : a.eval x = .slice ad m c) (hnil : ad = none → c = 0) (hl : news.length = m * size) (hc : CellsAt w ad news) (h1 : ∀ u ∈ news, u.oneCell' = true)
    (h63 : n + m ≤ maxLen) (hbytes : (n + m) * bytes ≤ 140737488355328) (hbase : base ≤ w.heap.size)
    (h : ∀ ad' cap' w', w'.ownsRow base e size (.slice ad' (n + m) cap') (n + m) (xs ++ news) → Below base w w' → w.grownBy w' v.ownBlock → K (a.put o.dst (.slice ad' (n + m) cap')) w') :
    o.wp P a w K Q := by
  obtain ⟨i, hi, hz, hsize, hby⟩ := T.inf
  have hpos := T.pos
  cases ad with
  | none =>
    have hm : m = 0 := by
      rcases hc with hz0 | ⟨g, off, hv, _⟩
      · rw [hz0, List.length_nil] at hl
        rcases Nat.eq_zero_or_pos m with q | q
        · exact q
        · have := Nat.mul_pos q hpos
          omega
      · cases hv
    obtain rfl : c = 0 := hnil rfl
    subst hm
    obtain rfl : news = [] := List.eq_nil_of_length_eq_zero (by simpa using hl)
    have hrun := run_append_owned_none (P := P) (w := w) base t o.type e i size T.und hi v n xs hown
    obtain ⟨ad', cap', hv, _⟩ := ownsRow_cells hown
    have hk : K (a.put o.dst v) w := by
      rw [hv]
      have := h ad' cap' w (by rw [hv] at hown; simpa using hown) (Below.refl _ _) (grownBy_refl _ _)
      simpa using this
    unfold Oper.wp
    simp [execOp, ho, resolve, invoke, builtin, hs, hx, hrun, Result.andThen]
    exact hk
  | some ad =>
    have hnews : ∀ j u, news[j]? = some u → w.cell? (ad.add j) = some u := by
      intro j u hu
      rcases hc with rfl | ⟨g, off, hv, hcc⟩
      · simp at hu
      · cases hv
        rw [Go.WideShapes.add_plain]
        exact hcc j u hu
    refine wp_append_own w s x t ho base e i z size bytes T.und hi hz hsize hby T.zs T.pos v n xs hs hown ad m c news hx hl hnews h1 h63 hbytes hbase ?_
    intro v' w' q1 q2 _
    obtain ⟨ad', cap', rfl, _⟩ := ownsRow_cells q1
    exact h ad' cap' w' q1 ((Below.refl base w).grown q2 hbase (fun k hk => (hown.lt k hk).1)) q2
/-- The same as a step of a region that draws its order. -/
theorem step_appN {E : Prop} (hgd : o.guard = none) (s x : Operand) (t : TypeId) (ho : o.op = .call { callee := .builtin .append, args := #[s, x], argTypes := #[t, t] })
    (base e : Nat) (z : Value) (size bytes : Nat) (T : ElemT P t e z size bytes) (v : Value) (n : Nat) (xs : List Value) (hs : a.eval s = v) (hown : w.ownsRow base e size v n xs)
    (ad : Option Addr) (m c : Nat) (news : List Value) (hx : a.eval x = .slice ad m c) (hnil : ad = none → c = 0) (hl : news.length = m * size) (hc : CellsAt w ad news) (h1 : ∀ u ∈ news, u.oneCell' = true)
    (h63 : n + m ≤ maxLen) (hbytes : (n + m) * bytes ≤ 140737488355328) (hbase : base ≤ w.heap.size)
    (h : ∀ ad' cap' w', w'.ownsRow base e size (.slice ad' (n + m) cap') (n + m) (xs ++ news) → Below base w w' → w.grownBy w' v.ownBlock → K (a.put o.dst (.slice ad' (n + m) cap')) w') :
    if Region.wanted o (yielded ops a.tmps) = true then Oper.wp P o a w K Q else E := by
  have hw : Region.wanted o (yielded ops a.tmps) = true := by simp [Region.wanted, hgd]
  rw [if_pos hw]
  exact appN_core s x t ho base e z size bytes T v n xs hs hown ad m c news hx hnil hl hc h1 h63 hbytes hbase h
end
section
variable {P : Program} {ops : Array Oper} {o : Oper} {a : Act} {wr w2 : World} {K : Act → World → Prop} {Q : Exit → Act → World → Prop}
/-- append(v, x): a step of a region that draws its order, x's slice built in whatever world. -/
theorem step_app1w {E : Prop} (hgd : o.guard = none) (s x : Operand) (t : TypeId) (ho : o.op = .call { callee := .builtin .append, args := #[s, x], argTypes := #[t, t] })
    (base e : Nat) (z : Value) (size bytes : Nat) (T : ElemT P t e z size bytes) (v : Value) (n : Nat) (xs : List Value) (cs : Array Value) (B : Nat) (f : Nat × Nat) (hB : wr.heap.size = B)
    (hs : a.eval s = v) (hx : a.eval x = .slice (some ⟨B, 0, none⟩) 1 1) (hg2 : wr.grownBy w2 none) (hb2 : w2.heap[B]? = some (.cells cs e f)) (hown : wr.ownsRow base e size v n xs) (hcs : cs.size = size)
    (h1 : ∀ u ∈ cs.toList, u.oneCell' = true) (h63 : n + 1 ≤ maxLen) (hbytes : (n + 1) * bytes ≤ 140737488355328) (hbase : base ≤ B)
    (h : ∀ g cap w', w'.ownsRow base e size (.slice (some ⟨g, 0, none⟩) (n + 1) cap) (n + 1) (xs ++ cs.toList) → Below base wr w' → wr.grownBy w' v.ownBlock → base ≤ g → g < w'.heap.size → (v.ownBlock = some g ∨ B ≤ g) →
      K (a.put o.dst (.slice (some ⟨g, 0, none⟩) (n + 1) cap)) w') :
    if Region.wanted o (yielded ops a.tmps) = true then Oper.wp P o a w2 K Q else E := by
  have hw : Region.wanted o (yielded ops a.tmps) = true := by simp [Region.wanted, hgd]
  rw [if_pos hw]
  exact app1_core s x t ho base e z size bytes T v n xs cs B f hB hs hx hg2 hb2 hown hcs h1 h63 hbytes hbase h
end
end Go.Proofs.YtdnklmdmafbogaaDoor
