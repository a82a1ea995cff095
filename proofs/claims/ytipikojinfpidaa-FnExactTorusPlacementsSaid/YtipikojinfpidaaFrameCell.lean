/- FrameCell: an argument that is a list of cells, opened. -/
import Derived.Test.YtipikojinfpidaaFrameInts
import Derived.Test.YtipikojinfpidaaCellH
import Derived.Test.YtipikojinfpidaaSliceElems
namespace Go.Proofs.Ytipikojinfpidaa
open Go.ChangeShapes Go.WideShapes Go.ChangeAt Go.RowKit

set_option maxRecDepth 100000 in
theorem trod_cl {H : Type} {enc : TypeId × Value → H} {W : World} {held : Bool} {n : Nat} {ys : List Value} {y : DataW H × List MemPlace} (hl : ys.length = 2)
    (h : DataW.trod enc Try.prog W 0 (fun _ => true) held n 50 ys = some y) : ∃ x : Cl, ys = x.cells ∧ (Lit.int .i64 x.x).wf = true ∧ (Lit.int .i64 x.y).wf = true := by
  obtain ⟨xs, m, _, _, _, hlen, hf⟩ := DataW.trod_struct Try.underlying50 h
  match ys, hl with
  | [c0, c1], _ =>
    have hlen2 : xs.length = 2 := hlen
    match xs, hlen2 with
    | [y0, y1], _ =>
      have g0 : DataW.trod enc Try.prog W 0 (fun _ => true) held m 3 [c0] = some y0 := by simpa [Try.cellsInt] using hf 0 _ rfl
      have g1 : DataW.trod enc Try.prog W 0 (fun _ => true) held m 3 [c1] = some y1 := by simpa [Try.cellsInt] using hf 1 _ rfl
      obtain ⟨a, e0, _, wa⟩ := DataW.trod_int Try.underlying3 g0
      obtain ⟨b, e1, _, wb⟩ := DataW.trod_int Try.underlying3 g1
      simp at e0 e1
      subst e0 e1
      exact ⟨⟨a, b⟩, rfl, wa, wb⟩

theorem Try.cellsLCell : Try.prog.cellsOf 50 = 2 := by kernel_rfl

set_option maxRecDepth 100000 in
theorem openCells {H : Type} {enc : TypeId × Value → H} {W : World} {base : Nat} {v : Value} {d : DataW H} {p : List MemPlace}
    (hv : Value.okWide Try.prog W .any base 22 v) (h : DataW.Trod enc Try.prog W 0 (fun _ => true) true 22 v d p) :
    ∃ ad cap ts, v = .slice ad ts.length cap ∧ ts.length ≤ maxLen ∧ CellsAt W ad (cls ts) ∧ ∀ x ∈ ts, (Lit.int .i64 x.x).wf = true ∧ (Lit.int .i64 x.y).wf = true := by
  obtain ⟨a0, len, cap, rfl⟩ := okWide_slice Try.underlying22 hv
  obtain ⟨fuel, hf⟩ := h
  obtain ⟨hm, hcells⟩ := slice_elems Try.underlying22 Try.cellsLCell (by decide) hf
  by_cases h0 : len = 0
  · subst h0
    exact ⟨a0, cap, [], rfl, hm, .inl rfl, by simp⟩
  · obtain ⟨b, off, rfl, hc⟩ := hcells (by omega)
    have hex : ∀ i, ∃ x : Cl, i < len → (∀ j u, x.cells[j]? = some u → W.cell? ⟨b, off + (i * 2 + j), none⟩ = some u) ∧ (Lit.int .i64 x.x).wf = true ∧ (Lit.int .i64 x.y).wf = true := by
      intro i
      by_cases hi : i < len
      · obtain ⟨ys, n, y, h1, h2, h3⟩ := hc i hi
        obtain ⟨x, rfl, hw⟩ := trod_cl h1 h2
        exact ⟨x, fun _ => ⟨h3, hw⟩⟩
      · exact ⟨⟨0, 0⟩, fun h => absurd h hi⟩
    obtain ⟨T, hT⟩ := Classical.axiomOfChoice hex
    have hlen : ((List.range len).map T).length = len := by simp
    refine ⟨some ⟨b, off, none⟩, cap, (List.range len).map T, by rw [hlen], by rw [hlen]; exact hm, ?_, ?_⟩
    · refine .inr ⟨b, off, rfl, fun j u hu => ?_⟩
      have hj : j < len * 2 := by
        rcases Nat.lt_or_ge j (len * 2) with q | q
        · exact q
        · rw [List.getElem?_eq_none (by rw [cls_length, hlen]; exact q)] at hu; cases hu
      have hk : j / 2 < ((List.range len).map T).length := by rw [hlen]; omega
      obtain ⟨i0, i1⟩ := cls_at ((List.range len).map T) (j / 2) hk
      have hTk : ((List.range len).map T)[j / 2] = T (j / 2) := by simp
      rw [hTk] at i0 i1
      have hcell := (hT (j / 2) (by omega)).1
      have hr : j % 2 = 0 ∨ j % 2 = 1 := by omega
      rcases hr with r | r
      · rw [show j = j / 2 * 2 from by omega, i0] at hu
        have := hcell 0 u (by rw [← hu]; rfl)
        rw [show off + j = off + (j / 2 * 2 + 0) from by omega]
        exact this
      · rw [show j = j / 2 * 2 + 1 from by omega, i1] at hu
        have := hcell 1 u (by rw [← hu]; rfl)
        rw [show off + j = off + (j / 2 * 2 + 1) from by omega]
        exact this
    · intro x hx
      rw [List.mem_map] at hx
      obtain ⟨i, hi, rfl⟩ := hx
      exact (hT i (by simpa using hi)).2
end Go.Proofs.Ytipikojinfpidaa
