/- AppKept: appending one element to a slice of the call's own: where the slice lay before, its elements still lie. -/
import Derived.Test.YtcoggnoeafpgbaaAllFrame
import Derived.ArgAppend
namespace Go.Proofs.Ytcoggnoeafpgbaa
open Go.RowKit

theorem run_app1_kept {P : Program} (w : World) (t ty : TypeId) (base e : Nat) (i : TypeInfo) (z : Value) (bytes : Nat) (ht : P.underlying t = some (.slice e)) (hi : P.info? e = some i) (hz : i.zero = some z)
    (hsize : i.size = 1) (hby : i.bytes = bytes) (hzs : z.cells.size = 1) (v : Value) (n : Nat) (xs : List Value) (hown : w.ownsRow base e 1 v n xs)
    (ad : Addr) (c : Nat) (news : List Value) (hl : news.length = 1 * 1) (hnews : ∀ j u, news[j]? = some u → w.cell? (ad.add j) = some u) (h1 : ∀ u ∈ news, u.oneCell' = true)
    (h63 : n + 1 ≤ maxLen) (hbytes : (n + 1) * bytes ≤ 140737488355328) (hbase : base ≤ w.heap.size) :
    ∃ g cap w', (Builtin.append_ #[t, t] ty #[v, .slice (some ad) 1 c]).run P w = .ok (.slice (some ⟨g, 0, none⟩) (n + 1) cap) w' ∧
      w'.ownsRow base e 1 (.slice (some ⟨g, 0, none⟩) (n + 1) cap) (n + 1) (xs ++ news) ∧ w.grownBy w' v.ownBlock ∧ (v.ownBlock = some g ∨ g = w.heap.size) ∧ g < w'.heap.size ∧
      ∀ g0 j u, v.ownBlock = some g0 → xs[j]? = some u → w'.cell? ⟨g0, j, none⟩ = some u := by
  obtain ⟨g, cap, w', hr, h2, h3, h4, h5⟩ := run_append_lies (P := P) w t ty base e i z 1 bytes ht hi hz hsize hby hzs (Nat.lt_succ_self 0) v n xs hown ad 1 c news hl hnews h1 (Nat.lt_succ_self 0) h63 hbytes hbase _ rfl
  refine ⟨g, cap, w', hr, h2, h3, h4, h5, fun g0 j u hg0 hu => ?_⟩
  have hj : j < xs.length := by
    rcases Nat.lt_or_ge j xs.length with q | q
    · exact q
    · rw [List.getElem?_eq_none q] at hu; cases hu
  by_cases hgg : g = g0
  · subst hgg
    have q := h2.cellAt j (by have := hown.1; omega)
    rw [List.getElem?_append_left hj] at q
    exact q.trans hu
  · have hlt := hown.lt g0 hg0
    rcases h4 with q | q
    · rw [hg0] at q
      exact absurd (Option.some.inj q).symm hgg
    · obtain ⟨g1, c1, hv, _, _⟩ := hown.form (show 0 < n by have := hown.1; omega)
      subst hv
      have hgg1 : g1 = g0 := by simpa [Value.ownBlock] using hg0
      subst hgg1
      have hcell : w.cell? ⟨g1, j, none⟩ = some u := by
        have q := hown.cellAt j (by have := hown.1; omega)
        exact q.trans hu
      have holds : ∀ j u, xs[j]? = some u → w.cell? ((⟨g1, 0, none⟩ : Addr).add j) = some u := hown.cells (g := g1) rfl
      by_cases hroom : n + 1 ≤ c1
      · exfalso
        have hfree : ∀ j, j < news.length → (w.cell? ⟨g1, 0 + n * i.size + j, none⟩).isSome = true ∧ w.frozen? ⟨g1, 0 + n * i.size + j, none⟩ = false := by
          intro j hj
          rcases hown.2 with ⟨hv, _⟩ | ⟨g2, c2, cur, hv, _, hblk, hnc, _, hcs, _⟩
          · cases hv
          · cases hv
            have hjj : j = 0 := by omega
            subst hjj
            refine ⟨?_, ?_⟩
            · rw [cell_of_row w g1 _ cur _ _ hblk, hsize, Array.getElem?_eq_getElem (by rw [hcs]; omega)]
              rfl
            · simp [World.frozen?, hblk]
        have hr2 := run_append_room_cells (P := P) w t ty e i ht hi g1 0 n c1 ad 1 c news (by rw [hl, hsize]) hnews h1 hroom (fun j hj => (hfree j hj).1) (fun j hj => (hfree j hj).2)
        rw [hr] at hr2
        have e1 := (Result.ok.inj hr2).1
        have : g = g1 := by
          have := congrArg Value.ownBlock e1
          simpa [Value.ownBlock] using this
        exact hgg this
      · obtain ⟨v2, w2, hr2, _, hgb⟩ := run_append_arg_grows (P := P) w t ty e i z 1 bytes ht hi hz hsize hby hzs (Nat.lt_succ_self 0) ⟨g1, 0, none⟩ n c1 xs hown.1 holds ad 1 c news hl hnews (by omega) h63 hbytes
        rw [hr] at hr2
        have e2 := (Result.ok.inj hr2).2
        subst e2
        rw [World.cell?_of_block (hgb.block g1 hlt.2 (by simp))]
        exact hcell

section
variable {P : Program} {ops : Array Oper} {o : Oper} {a : Act} {wr : World} {Q : Exit → Act → World → Prop}
/-- In a plain region: the element lies in the newest block; one cell an element. -/
theorem wpList_app1k {rest : List Oper} (hgd : o.guard = none) (s x : Operand) (t : TypeId) (ho : o.op = .call { callee := .builtin .append, args := #[s, x], argTypes := #[t, t] })
    (base e : Nat) (z : Value) (bytes : Nat) (T : ElemT P t e z 1 bytes) (v : Value) (n : Nat) (xs : List Value) (c0 : Value) (B : Nat) (f : Nat × Nat)
    (hs : a.eval s = v) (hx : a.eval x = .slice (some ⟨B, 0, none⟩) 1 1) (hB : wr.heap.size = B) (hown : wr.ownsRow base e 1 v n xs)
    (h1 : c0.oneCell' = true) (h63 : n + 1 ≤ maxLen) (hbytes : (n + 1) * bytes ≤ 140737488355328) (hbase : base ≤ B)
    (h : ∀ g cap w', w'.ownsRow base e 1 (.slice (some ⟨g, 0, none⟩) (n + 1) cap) (n + 1) (xs ++ [c0]) → Below base wr w' → wr.grownBy w' v.ownBlock → (v.ownBlock = some g ∨ B ≤ g) →
      (∀ g0 j u, v.ownBlock = some g0 → xs[j]? = some u → w'.cell? ⟨g0, j, none⟩ = some u) →
      wpList P ops Q rest (a.put o.dst (.slice (some ⟨g, 0, none⟩) (n + 1) cap)) w') : wpList P ops Q (o :: rest) a (wr.alloc (.cells #[c0] e f)) := by
  refine wpList_plain hgd fun _ hK => ?_
  subst hB
  obtain ⟨i, hi, hz, hsize, hby⟩ := T.inf
  have hg2 : wr.grownBy (wr.alloc (.cells #[c0] e f)) none := World.grownBy_alloc wr _ none
  have hb2 : (wr.alloc (.cells #[c0] e f)).heap[wr.heap.size]? = some (.cells #[c0] e f) := heap_alloc_top wr _
  have hown2 : (wr.alloc (.cells #[c0] e f)).ownsRow base e 1 v n xs := hown.kept hg2 (by cases hv : v.ownBlock <;> simp)
  obtain ⟨g, cap, w', hr, q1, q2, q3, q4, q5⟩ := run_app1_kept (P := P) (wr.alloc (.cells #[c0] e f)) t o.type base e i z bytes T.und hi hz hsize hby T.zs v n xs hown2 ⟨wr.heap.size, 0, none⟩ 1 [c0] (by simp) (World.news_of_block hb2) (by simpa using h1) h63 hbytes (by simp; omega)
  have hall : wr.grownBy w' v.ownBlock := grownBy_trans ⟨hg2.os, hg2.tape, hg2.output, hg2.size, fun k hk _ => hg2.block k hk (by simp)⟩ q2
  unfold Oper.wp execOp
  simp only [ho, resolve, invoke, builtin, Sem.run_bind, Sem.run_pure, Result.andThen_ok, List.map_toArray, List.map_cons, List.map_nil, hs, hx, hr]
  refine hK _ _ (h g cap w' q1 ((Below.refl base wr).grown hall hbase (fun k hk => (hown.lt k hk).1)) hall ?_ q5)
  rcases q3 with q3 | q3
  · exact .inl q3
  · right
    rw [q3]
    simp
end
end Go.Proofs.Ytcoggnoeafpgbaa
