/- App: appending a whole slice to one that the call itself owns; the walk of the program's copyInts. -/
import Derived.Test.YtipikojinfpidaaInts
import Derived.Test.YtipikojinfpidaaRange
import Derived.Laws.AppendOwnNone
namespace Go.Proofs.Ytipikojinfpidaa
open Go.RowKit

section
variable {P : Program} {ops : Array Oper} {o : Oper} {a : Act} {w : World} {Q : Exit → Act → World → Prop}

/-- append(v, xs...): v owned, xs any slice whose cells are known. -/
theorem wpList_appN {rest : List Oper} (hgd : o.guard = none) (s x : Operand) (t : TypeId) (ho : o.op = .call { callee := .builtin .append, args := #[s, x], argTypes := #[t, t] })
    (base e : Nat) (z : Value) (size bytes : Nat) (T : ElemT P t e z size bytes) (v : Value) (n : Nat) (xs : List Value) (hs : a.eval s = v) (hown : w.ownsRow base e size v n xs)
    (ad : Option Addr) (m c : Nat) (news : List Value) (hx : a.eval x = .slice ad m c) (hnil : ad = none → c = 0) (hl : news.length = m * size) (hc : CellsAt w ad news) (h1 : ∀ u ∈ news, u.oneCell' = true)
    (h63 : n + m ≤ maxLen) (hbytes : (n + m) * bytes ≤ 140737488355328) (hbase : base ≤ w.heap.size)
    (h : ∀ ad' cap' w', w'.ownsRow base e size (.slice ad' (n + m) cap') (n + m) (xs ++ news) → Below base w w' → w.grownBy w' v.ownBlock → wpList P ops Q rest (a.put o.dst (.slice ad' (n + m) cap')) w') :
    wpList P ops Q (o :: rest) a w := by
  obtain ⟨i, hi, hz, hsize, hby⟩ := T.inf
  have hpos := T.pos
  cases ad with
  | none =>
    have hm : m = 0 := by
      rcases hc with hz0 | ⟨g, off, hv, _⟩
      · rw [hz0, List.length_nil] at hl
        rcases Nat.eq_zero_or_pos m with q | q
        · exact q
        · have := Nat.mul_pos q hpos
          omega
      · cases hv
    obtain rfl : c = 0 := hnil rfl
    subst hm
    obtain rfl : news = [] := List.eq_nil_of_length_eq_zero (by simpa using hl)
    refine wpList_append_own_none hgd s x t ho base e i size T.und hi v n xs hs hown hx ?_
    obtain ⟨ad', cap', rfl, _⟩ := ownsRow_cells hown
    have := h ad' cap' w (by simpa using hown) (Below.refl _ _) (grownBy_refl _ _)
    simpa using this
  | some ad =>
    have hnews : ∀ j u, news[j]? = some u → w.cell? (ad.add j) = some u := by
      intro j u hu
      rcases hc with rfl | ⟨g, off, hv, hcc⟩
      · simp at hu
      · cases hv
        rw [Go.WideShapes.add_plain]
        exact hcc j u hu
    refine wpList_append_own w hgd s x t ho base e i z size bytes T.und hi hz hsize hby T.zs T.pos v n xs hs hown ad m c news hx hl hnews h1 h63 hbytes hbase ?_
    intro v' w' q1 q2 _
    obtain ⟨ad', cap', rfl, _⟩ := ownsRow_cells q1
    exact h ad' cap' w' q1 ((Below.refl base w).grown q2 hbase (fun k hk => (hown.lt k hk).1)) q2
end

theorem ints_one (xs : List Int) : ∀ u ∈ ints xs, u.oneCell' = true := by
  intro u hu
  unfold ints at hu
  rw [List.mem_map] at hu
  obtain ⟨x, _, rfl⟩ := hu
  rfl

set_option maxHeartbeats 400000 in
theorem copyInts_any (ad : Option Addr) (cap : Nat) (xs : List Int) (w : World) (hn : xs.length ≤ 1048576) (hnil : ad = none → cap = 0) (hc : CellsAt w ad (ints xs)) :
    Calls Try.prog 53 #[.slice ad xs.length cap] w fun e w' => ∃ ad' cap', e = .returned (.slice ad' xs.length cap') ∧ w'.ownsRow w.heap.size 3 1 (.slice ad' xs.length cap') xs.length (ints xs) ∧ Below w.heap.size w w' := by
  have hlen := ints_length xs
  have HC := Lib.hid hc
  have HN := Lib.hid hnil
  clear hc hnil
  go_enter Try.func53, Try.ntmps53
  go_wp2_with (at_builtin; refine wpList_appN rfl (.const (.slice none 0 0)) (.tmp 3) 24 rfl w.heap.size 3 _ 1 8 Try.elemInt _ 0 [] rfl (World.ownsRow_nil _ _ _ _) ad xs.length cap (ints xs) rfl HN.out (by omega) HC.out (ints_one xs) (by unfold maxLen; omega) (by omega) (Nat.le_refl _) ?_; intro ad' cap' w' q1 q2 q3)
  go_ret
  rw [Nat.zero_add, List.nil_append] at q1
  exact ⟨ad', cap', by simp, q1, q2⟩
end Go.Proofs.Ytipikojinfpidaa
