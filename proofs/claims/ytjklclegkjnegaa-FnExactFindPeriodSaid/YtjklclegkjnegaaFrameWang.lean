/- FrameWang: an argument that is a list of tiles, opened: its cells. -/
import Derived.Test.YtjklclegkjnegaaAllFrame
import Derived.Test.YtjklclegkjnegaaWangH
namespace Go.Proofs.Ytjklclegkjnegaa
open Go.ChangeShapes Go.WideShapes Go.ChangeAt Go.RowKit

set_option maxRecDepth 100000 in
theorem trod_tile {H : Type} {enc : TypeId × Value → H} {W : World} {held : Bool} {n : Nat} {ys : List Value} {y : DataW H × List MemPlace} (hl : ys.length = 4)
    (h : DataW.trod enc Try.prog W 0 (fun _ => true) held n 45 ys = some y) : ∃ x : Tile, ys = x.cells ∧ (Lit.int .i64 x.t).wf = true ∧ (Lit.int .i64 x.r).wf = true ∧ (Lit.int .i64 x.b).wf = true ∧ (Lit.int .i64 x.l).wf = true := by
  obtain ⟨xs, m, _, _, _, hlen, hf⟩ := DataW.trod_struct Try.underlying45 h
  match ys, hl with
  | [c0, c1, c2, c3], _ =>
    have hlen4 : xs.length = 4 := hlen
    match xs, hlen4 with
    | [y0, y1, y2, y3], _ =>
      have g0 : DataW.trod enc Try.prog W 0 (fun _ => true) held m 3 [c0] = some y0 := by simpa [Try.cellsInt] using hf 0 _ rfl
      have g1 : DataW.trod enc Try.prog W 0 (fun _ => true) held m 3 [c1] = some y1 := by simpa [Try.cellsInt] using hf 1 _ rfl
      have g2 : DataW.trod enc Try.prog W 0 (fun _ => true) held m 3 [c2] = some y2 := by simpa [Try.cellsInt] using hf 2 _ rfl
      have g3 : DataW.trod enc Try.prog W 0 (fun _ => true) held m 3 [c3] = some y3 := by simpa [Try.cellsInt] using hf 3 _ rfl
      obtain ⟨a, e0, _, wa⟩ := DataW.trod_int Try.underlying3 g0
      obtain ⟨b, e1, _, wb⟩ := DataW.trod_int Try.underlying3 g1
      obtain ⟨c, e2, _, wc⟩ := DataW.trod_int Try.underlying3 g2
      obtain ⟨d, e3, _, wd⟩ := DataW.trod_int Try.underlying3 g3
      simp at e0 e1 e2 e3
      subst e0 e1 e2 e3
      exact ⟨⟨a, b, c, d⟩, rfl, wa, wb, wc, wd⟩

theorem Try.cellsLWang : Try.prog.cellsOf 45 = 4 := by kernel_rfl

set_option maxRecDepth 100000 in
theorem openWangs {H : Type} {enc : TypeId × Value → H} {W : World} {base : Nat} {v : Value} {d : DataW H} {p : List MemPlace}
    (hv : Value.okWide Try.prog W .any base 22 v) (h : DataW.Trod enc Try.prog W 0 (fun _ => true) true 22 v d p) :
    ∃ ad cap ts, v = .slice ad ts.length cap ∧ ts.length ≤ maxLen ∧ CellsAt W ad (wangs ts) ∧
      ∀ x ∈ ts, (Lit.int .i64 x.t).wf = true ∧ (Lit.int .i64 x.r).wf = true ∧ (Lit.int .i64 x.b).wf = true ∧ (Lit.int .i64 x.l).wf = true := by
  obtain ⟨a0, len, cap, rfl⟩ := okWide_slice Try.underlying22 hv
  obtain ⟨fuel, hf⟩ := h
  obtain ⟨hm, hcells⟩ := slice_elems Try.underlying22 Try.cellsLWang (by decide) hf
  by_cases h0 : len = 0
  · subst h0
    exact ⟨a0, cap, [], rfl, hm, .inl rfl, by simp⟩
  · obtain ⟨b, off, rfl, hc⟩ := hcells (by omega)
    have hex : ∀ i, ∃ x : Tile, i < len → (∀ j u, x.cells[j]? = some u → W.cell? ⟨b, off + (i * 4 + j), none⟩ = some u) ∧
        (Lit.int .i64 x.t).wf = true ∧ (Lit.int .i64 x.r).wf = true ∧ (Lit.int .i64 x.b).wf = true ∧ (Lit.int .i64 x.l).wf = true := by
      intro i
      by_cases hi : i < len
      · obtain ⟨ys, n, y, h1, h2, h3⟩ := hc i hi
        obtain ⟨x, rfl, hw⟩ := trod_tile h1 h2
        exact ⟨x, fun _ => ⟨h3, hw⟩⟩
      · exact ⟨⟨0, 0, 0, 0⟩, fun h => absurd h hi⟩
    obtain ⟨T, hT⟩ := Classical.axiomOfChoice hex
    have hlen : ((List.range len).map T).length = len := by simp
    refine ⟨some ⟨b, off, none⟩, cap, (List.range len).map T, by rw [hlen], by rw [hlen]; exact hm, ?_, ?_⟩
    · refine .inr ⟨b, off, rfl, fun j u hu => ?_⟩
      have hj : j < len * 4 := by
        rcases Nat.lt_or_ge j (len * 4) with q | q
        · exact q
        · rw [List.getElem?_eq_none (by rw [wangs_length, hlen]; exact q)] at hu; cases hu
      have hk : j / 4 < ((List.range len).map T).length := by rw [hlen]; omega
      obtain ⟨i0, i1, i2, i3⟩ := wangs_at ((List.range len).map T) (j / 4) hk
      have hTk : ((List.range len).map T)[j / 4] = T (j / 4) := by simp
      rw [hTk] at i0 i1 i2 i3
      have hcell := (hT (j / 4) (by omega)).1
      have hr : j % 4 = 0 ∨ j % 4 = 1 ∨ j % 4 = 2 ∨ j % 4 = 3 := by omega
      rcases hr with r | r | r | r
      · rw [show j = j / 4 * 4 from by omega, i0] at hu
        have := hcell 0 u (by rw [← hu]; rfl)
        rw [show off + j = off + (j / 4 * 4 + 0) from by omega]
        exact this
      · rw [show j = j / 4 * 4 + 1 from by omega, i1] at hu
        have := hcell 1 u (by rw [← hu]; rfl)
        rw [show off + j = off + (j / 4 * 4 + 1) from by omega]
        exact this
      · rw [show j = j / 4 * 4 + 2 from by omega, i2] at hu
        have := hcell 2 u (by rw [← hu]; rfl)
        rw [show off + j = off + (j / 4 * 4 + 2) from by omega]
        exact this
      · rw [show j = j / 4 * 4 + 3 from by omega, i3] at hu
        have := hcell 3 u (by rw [← hu]; rfl)
        rw [show off + j = off + (j / 4 * 4 + 3) from by omega]
        exact this
    · intro x hx
      rw [List.mem_map] at hx
      obtain ⟨i, hi, rfl⟩ := hx
      exact (hT i (by simpa using hi)).2

end Go.Proofs.Ytjklclegkjnegaa
