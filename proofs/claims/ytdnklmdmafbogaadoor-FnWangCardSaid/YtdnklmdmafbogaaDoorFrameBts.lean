/- FrameBts: an argument that is a list of bytes, opened: its cells. -/
import Derived.Test.YtdnklmdmafbogaaDoorAllFrame
import Derived.Test.YtdnklmdmafbogaaDoorDraw0
namespace Go.Proofs.YtdnklmdmafbogaaDoor
open Go.ChangeShapes Go.WideShapes Go.ChangeAt Go.RowKit

theorem Tryd.cellsByte : Tryd.prog.cellsOf 5 = 1 := by kernel_rfl

set_option maxRecDepth 100000 in
theorem openBts {H : Type} {enc : TypeId × Value → H} {W : World} {base : Nat} {v : Value} {d : DataW H} {p : List MemPlace}
    (hv : Value.okWide Tryd.prog W .any base 33 v) (h : DataW.Trod enc Tryd.prog W 0 (fun _ => true) true 33 v d p) :
    ∃ ad cap, ∃ bs : List Nat, v = .slice ad bs.length cap ∧ bs.length ≤ maxLen ∧ CellsAt W ad (bts bs) ∧ ∀ b ∈ bs, b < 256 := by
  obtain ⟨a0, len, cap, rfl⟩ := okWide_slice Tryd.underlying33 hv
  obtain ⟨fuel, hf⟩ := h
  rcases open_ints Tryd.underlying33 Tryd.underlying5 Tryd.cellsByte hf with ⟨hcs, hx⟩ | ⟨a, len', cap', zs, hcs, _, hl, hm, hz, hx, hcell, hwz⟩
  · simp [Value.cells] at hcs
    obtain ⟨rfl, rfl, rfl⟩ := hcs
    exact ⟨none, 0, [], rfl, by simp, .inl rfl, by simp⟩
  · simp [Value.cells] at hcs
    obtain ⟨rfl, rfl, rfl⟩ := hcs
    simp only [if_true] at hz
    have hw8 : ∀ x ∈ zs, 0 ≤ x ∧ x < 256 := fun x hx => by
      have q := hwz x hx
      simp [Lit.wf, IntKind.min, IntKind.max, IntKind.signed, IntKind.bits] at q
      omega
    have hlen : ((zs.take len).map Int.toNat).length = len := by rw [List.length_map, List.length_take]; omega
    refine ⟨some a, cap, (zs.take len).map Int.toNat, by rw [hlen], by rw [hlen]; omega, ?_, ?_⟩
    · by_cases h0 : len = 0
      · subst h0; left; rfl
      · obtain ⟨b, off, rfl, hc⟩ := _root_.Go.ints_at hcell (by omega)
        refine .inr ⟨b, off, rfl, fun j u hu => ?_⟩
        have hj : j < len := by
          rcases Nat.lt_or_ge j len with q | q
          · exact q
          · rw [List.getElem?_eq_none (by rw [bts_length, hlen]; omega)] at hu; cases hu
        have hjz : j < zs.length := by omega
        rw [bts, List.getElem?_map, List.getElem?_map, List.getElem?_take, if_pos hj, List.getElem?_eq_getElem hjz] at hu
        simp only [Option.map_some, Option.some.injEq] at hu
        rw [hc j (by omega), ← hu]
        have h8 := hw8 _ (List.getElem_mem hjz)
        rw [List.getD_eq_getElem?_getD, List.getElem?_eq_getElem hjz, Option.getD_some, Int.toNat_of_nonneg h8.1]
    · intro b hb
      rw [List.mem_map] at hb
      obtain ⟨x, hx, rfl⟩ := hb
      have := hw8 x (List.mem_of_mem_take hx)
      omega
end Go.Proofs.YtdnklmdmafbogaaDoor
