/- FrameShp: an argument that is a list of lists of cells, opened. -/
import Derived.Test.YtcoggnoeafpgbaaGreatAllHead
import Derived.Test.YtcoggnoeafpgbaaGreatShapes
namespace Go.Proofs.YtcoggnoeafpgbaaGreat
open Go.ChangeShapes Go.WideShapes Go.ChangeAt Go.RowKit

set_option maxRecDepth 100000 in
theorem cells_core {H : Type} {enc : TypeId × Value → H} {W : World} {held : Bool} {fuel len cap : Nat} {a0 : Option Addr} {x : DataW H × List MemPlace}
    (hf : DataW.trod enc Tryz.prog W 0 (fun _ => true) held fuel 59 [.slice a0 len cap] = some x) : ∃ ts : List Cl, ts.length = len ∧ len ≤ maxLen ∧ CellsAt W a0 (cls ts) := by
  obtain ⟨hm, hcells⟩ := slice_elems Tryz.underlying59 Tryz.cellsLCell (by decide) hf
  by_cases h0 : len = 0
  · subst h0
    exact ⟨[], rfl, hm, .inl rfl⟩
  · obtain ⟨b, off, rfl, hc⟩ := hcells (by omega)
    have hex : ∀ i, ∃ x : Cl, i < len → (∀ j u, x.cells[j]? = some u → W.cell? ⟨b, off + (i * 2 + j), none⟩ = some u) := by
      intro i
      by_cases hi : i < len
      · obtain ⟨ys, n, y, h1, h2, h3⟩ := hc i hi
        obtain ⟨x, rfl, hw⟩ := trod_cl h1 h2
        exact ⟨x, fun _ => h3⟩
      · exact ⟨⟨0, 0⟩, fun h => absurd h hi⟩
    obtain ⟨T, hT⟩ := Classical.axiomOfChoice hex
    have hlen : ((List.range len).map T).length = len := by simp
    refine ⟨(List.range len).map T, hlen, hm, .inr ⟨b, off, rfl, fun j u hu => ?_⟩⟩
    have hj : j < len * 2 := by
      rcases Nat.lt_or_ge j (len * 2) with q | q
      · exact q
      · rw [List.getElem?_eq_none (by rw [cls_length, hlen]; exact q)] at hu; cases hu
    have hk : j / 2 < ((List.range len).map T).length := by rw [hlen]; omega
    obtain ⟨i0, i1⟩ := cls_at ((List.range len).map T) (j / 2) hk
    have hTk : ((List.range len).map T)[j / 2] = T (j / 2) := by simp
    rw [hTk] at i0 i1
    have hcell := hT (j / 2) (by omega)
    have hr : j % 2 = 0 ∨ j % 2 = 1 := by omega
    rcases hr with r | r
    · rw [show j = j / 2 * 2 from by omega, i0] at hu
      have := hcell 0 u (by rw [← hu]; rfl)
      rw [show off + j = off + (j / 2 * 2 + 0) from by omega]
      exact this
    · rw [show j = j / 2 * 2 + 1 from by omega, i1] at hu
      have := hcell 1 u (by rw [← hu]; rfl)
      rw [show off + j = off + (j / 2 * 2 + 1) from by omega]
      exact this
theorem trod_cells {H : Type} {enc : TypeId × Value → H} {W : World} {held : Bool} {n : Nat} {ys : List Value} {y : DataW H × List MemPlace}
    (h : DataW.trod enc Tryz.prog W 0 (fun _ => true) held n 59 ys = some y) : ∃ (ts : List Cl) (ad : Option Addr) (cap : Nat), ys = [.slice ad ts.length cap] ∧ ts.length ≤ maxLen ∧ CellsAt W ad (cls ts) := by
  rcases DataW.trod_slice Tryz.underlying59 h with ⟨hcs, _⟩ | ⟨a, len', cap', elems, rest, m, _, hcs, _⟩
  · subst hcs
    obtain ⟨ts, h1, h2, h3⟩ := cells_core h
    exact ⟨ts, none, 0, by rw [h1], by rw [h1]; exact h2, h3⟩
  · subst hcs
    obtain ⟨ts, h1, h2, h3⟩ := cells_core h
    exact ⟨ts, some a, cap', by rw [h1], by rw [h1]; exact h2, h3⟩
theorem Tryz.cellsLShp : Tryz.prog.cellsOf 59 = 1 := by kernel_rfl
theorem all2_of {R : Value → List Cl → Prop} : ∀ (vs : List Value) (xs : List (List Cl)), vs.length = xs.length → (∀ (i : Nat) (h1 : i < vs.length) (h2 : i < xs.length), R vs[i] xs[i]) → All2 R vs xs
  | [], [], _, _ => trivial
  | v :: vs, x :: xs, hl, h => ⟨h 0 (by simp) (by simp), all2_of vs xs (by simpa using hl) fun i h1 h2 => h (i + 1) (by simpa using h1) (by simpa using h2)⟩
  | [], _ :: _, hl, _ => by simp at hl
  | _ :: _, [], hl, _ => by simp at hl

set_option maxRecDepth 100000 in
theorem openShps {H : Type} {enc : TypeId × Value → H} {W : World} {base : Nat} {v : Value} {d : DataW H} {p : List MemPlace}
    (hv : Value.okWide Tryz.prog W .any base 25 v) (h : DataW.Trod enc Tryz.prog W 0 (fun _ => true) true 25 v d p) :
    ∃ ad cap ps, v = .slice ad ps.length cap ∧ ps.length ≤ maxLen ∧ ShpsAt W ad ps ∧ ∀ q ∈ ps, q.length ≤ maxLen := by
  obtain ⟨a0, len, cap, rfl⟩ := okWide_slice Tryz.underlying25 hv
  obtain ⟨fuel, hf⟩ := h
  obtain ⟨hm, hcells⟩ := slice_elems Tryz.underlying25 Tryz.cellsLShp (by decide) hf
  by_cases h0 : len = 0
  · subst h0
    exact ⟨a0, cap, [], rfl, hm, ⟨[], CellsAt.nil _ _, trivial⟩, by simp⟩
  · obtain ⟨b, off, rfl, hc⟩ := hcells (by omega)
    have hex : ∀ i, ∃ t : List Cl × Option Addr × Nat, i < len → W.cell? ⟨b, off + i, none⟩ = some (.slice t.2.1 t.1.length t.2.2) ∧ t.1.length ≤ maxLen ∧ CellsAt W t.2.1 (cls t.1) := by
      intro i
      by_cases hi : i < len
      · obtain ⟨ys, n, y, h1, h2, h3⟩ := hc i hi
        obtain ⟨ts, ad, cp, rfl, h4, h5⟩ := trod_cells h2
        refine ⟨(ts, ad, cp), fun _ => ⟨?_, h4, h5⟩⟩
        have := h3 0 _ rfl
        rw [Nat.mul_one, Nat.add_zero] at this
        exact this
      · exact ⟨([], none, 0), fun h => absurd h hi⟩
    obtain ⟨T, hT⟩ := Classical.axiomOfChoice hex
    have hlen : ((List.range len).map fun i => (T i).1).length = len := by simp
    refine ⟨some ⟨b, off, none⟩, cap, (List.range len).map fun i => (T i).1, by rw [hlen], by rw [hlen]; exact hm, ⟨(List.range len).map fun i => Value.slice (T i).2.1 (T i).1.length (T i).2.2, ?_, ?_⟩, ?_⟩
    · refine .inr ⟨b, off, rfl, fun j u hu => ?_⟩
      have hj : j < len := by
        rcases Nat.lt_or_ge j len with q | q
        · exact q
        · rw [List.getElem?_eq_none (by simpa using q)] at hu; cases hu
      rw [List.getElem?_map, List.getElem?_range hj] at hu
      simp only [Option.map_some, Option.some.injEq] at hu
      rw [← hu]
      exact (hT j hj).1
    · refine all2_of _ _ (by simp) fun i h1 h2 => ?_
      have hi : i < len := by simpa using h2
      simp only [List.getElem_map, List.getElem_range]
      exact ⟨_, _, rfl, (hT i hi).2.2⟩
    · intro q hq
      rw [List.mem_map] at hq
      obtain ⟨i, hi, rfl⟩ := hq
      exact (hT i (by simpa using hi)).2.1
end Go.Proofs.YtcoggnoeafpgbaaGreat
