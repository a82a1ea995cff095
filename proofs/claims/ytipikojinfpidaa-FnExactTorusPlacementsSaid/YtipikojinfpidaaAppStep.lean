/- AppStep: appending a whole slice to one that the call itself owns, in a region that draws its order. -/
import Derived.Test.YtipikojinfpidaaApp
namespace Go.Proofs.Ytipikojinfpidaa
open Go.RowKit

section
variable {P : Program} {ops : Array Oper} {o : Oper} {a : Act} {w : World} {K : Act → World → Prop} {Q : Exit → Act → World → Prop}

theorem appN_core (s x : Operand) (t : TypeId) (ho : o.op = .call { callee := .builtin .append, args := #[s, x], argTypes := #[t, t] })
    (base e : Nat) (z : Value) (size bytes : Nat) (T : ElemT P t e z size bytes) (v : Value) (n : Nat) (xs : List Value) (hs : a.eval s = v) (hown : w.ownsRow base e size v n xs)
    (ad : Option Addr) (m c : Nat) (news : List Value) (hx : a.eval x = .slice ad m c) (hnil : ad = none → c = 0) (hl : news.length = m * size) (hc : CellsAt w ad news) (h1 : ∀ u ∈ news, u.oneCell' = true)
    (h63 : n + m ≤ maxLen) (hbytes : (n + m) * bytes ≤ 140737488355328) (hbase : base ≤ w.heap.size)
    (h : ∀ ad' cap' w', w'.ownsRow base e size (.slice ad' (n + m) cap') (n + m) (xs ++ news) → Below base w w' → w.grownBy w' v.ownBlock → K (a.put o.dst (.slice ad' (n + m) cap')) w') :
    o.wp P a w K Q := by
  obtain ⟨i, hi, hz, hsize, hby⟩ := T.inf
  have hpos := T.pos
  cases ad with
  | none =>
    have hm : m = 0 := by
      rcases hc with hz0 | ⟨g, off, hv, _⟩
      · rw [hz0, List.length_nil] at hl
        rcases Nat.eq_zero_or_pos m with q | q
        · exact q
        · have := Nat.mul_pos q hpos
          omega
      · cases hv
    obtain rfl : c = 0 := hnil rfl
    subst hm
    obtain rfl : news = [] := List.eq_nil_of_length_eq_zero (by simpa using hl)
    have hrun := run_append_owned_none (P := P) (w := w) base t o.type e i size T.und hi v n xs hown
    obtain ⟨ad', cap', hv, _⟩ := ownsRow_cells hown
    have hk : K (a.put o.dst v) w := by
      rw [hv]
      have := h ad' cap' w (by rw [hv] at hown; simpa using hown) (Below.refl _ _) (grownBy_refl _ _)
      simpa using this
    unfold Oper.wp
    simp [execOp, ho, resolve, invoke, builtin, hs, hx, hrun, Result.andThen]
    exact hk
  | some ad =>
    have hnews : ∀ j u, news[j]? = some u → w.cell? (ad.add j) = some u := by
      intro j u hu
      rcases hc with rfl | ⟨g, off, hv, hcc⟩
      · simp at hu
      · cases hv
        rw [Go.WideShapes.add_plain]
        exact hcc j u hu
    refine wp_append_own w s x t ho base e i z size bytes T.und hi hz hsize hby T.zs T.pos v n xs hs hown ad m c news hx hl hnews h1 h63 hbytes hbase ?_
    intro v' w' q1 q2 _
    obtain ⟨ad', cap', rfl, _⟩ := ownsRow_cells q1
    exact h ad' cap' w' q1 ((Below.refl base w).grown q2 hbase (fun k hk => (hown.lt k hk).1)) q2
/-- The same as a step of a region that draws its order. -/
theorem step_appN {E : Prop} (hgd : o.guard = none) (s x : Operand) (t : TypeId) (ho : o.op = .call { callee := .builtin .append, args := #[s, x], argTypes := #[t, t] })
    (base e : Nat) (z : Value) (size bytes : Nat) (T : ElemT P t e z size bytes) (v : Value) (n : Nat) (xs : List Value) (hs : a.eval s = v) (hown : w.ownsRow base e size v n xs)
    (ad : Option Addr) (m c : Nat) (news : List Value) (hx : a.eval x = .slice ad m c) (hnil : ad = none → c = 0) (hl : news.length = m * size) (hc : CellsAt w ad news) (h1 : ∀ u ∈ news, u.oneCell' = true)
    (h63 : n + m ≤ maxLen) (hbytes : (n + m) * bytes ≤ 140737488355328) (hbase : base ≤ w.heap.size)
    (h : ∀ ad' cap' w', w'.ownsRow base e size (.slice ad' (n + m) cap') (n + m) (xs ++ news) → Below base w w' → w.grownBy w' v.ownBlock → K (a.put o.dst (.slice ad' (n + m) cap')) w') :
    if Region.wanted o (yielded ops a.tmps) = true then Oper.wp P o a w K Q else E := by
  have hw : Region.wanted o (yielded ops a.tmps) = true := by simp [Region.wanted, hgd]
  rw [if_pos hw]
  exact appN_core s x t ho base e z size bytes T v n xs hs hown ad m c news hx hnil hl hc h1 h63 hbytes hbase h
end
end Go.Proofs.Ytipikojinfpidaa
