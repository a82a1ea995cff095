/- SortS: sort.Slice over at most twelve cells that ascend: they stay as they lie. -/
import Derived.Test.YtipikojinfpidaaSortP
import Derived.Test.YtipikojinfpidaaShelf
import Derived.Shelf.GgSortFunc.Slice
namespace Go.Proofs.Ytipikojinfpidaa
open Go.RowKit Go.Lib

theorem swapperK_cell (n : Nat) (ie : TypeInfo) (h1 : ie.hasPointers = false) (h2 : ie.bytes = 16) : swapperK n ie 25 = if n = 0 then 1 else if n = 1 then 2 else 9 := by
  unfold swapperK
  by_cases a : n = 0
  · simp [a]
  · by_cases b : n = 1
    · simp [b]
    · simp [a, b, h1, h2]
theorem swapper_there (k : Nat) (h : k = 1 ∨ k = 2 ∨ k = 9) : ∃ f, Try.prog.funcs.findIdx? (·.name == "internal/reflectlite" ++ ".Swapper$" ++ toString k) = some f := by
  rcases h with rfl | rfl | rfl
  · exact ⟨107, by kernel_rfl⟩
  · exact ⟨108, by kernel_rfl⟩
  · exact ⟨115, by kernel_rfl⟩

set_option maxRecDepth 100000 in
set_option maxHeartbeats 1600000 in
theorem sliceAsc (p g off c : Nat) (l : List Cl) (w : World) (hn : l.length ≤ 12) (hasc : AscG ltC l) (hpw : p < w.heap.size)
    (hp : w.cell? ⟨p, 0, none⟩ = some (.slice (some ⟨g, off, none⟩) l.length c)) (hc : CellsAt w (some ⟨g, off, none⟩) (cls l)) :
    Calls Try.prog 84 #[.iface 26 (.slice (some ⟨g, off, none⟩) l.length c), .func (.func 85) #[] #[.pointer (some ⟨p, 0, none⟩)]] w fun e w' => e = .returned (.tuple #[]) ∧ Below w.heap.size w w' := by
  obtain ⟨ie, hie, hpt, hby⟩ : ∃ ie, Try.prog.info? 47 = some ie ∧ ie.hasPointers = false ∧ ie.bytes = 16 := by
    have h : (Try.prog.info? 47).map (fun i => (i.hasPointers, i.bytes)) = some (false, 16) := by kernel_rfl
    cases q : Try.prog.info? 47 with
    | none => rw [q] at h; cases h
    | some i => rw [q] at h; simp at h; exact ⟨i, rfl, h.1, h.2⟩
  obtain ⟨i, hi, hd⟩ : ∃ i, Try.prog.info? 26 = some i ∧ i.desc = .slice 47 := by
    have h : (Try.prog.info? 26).map (fun i => i.desc) = some (.slice 47) := by kernel_rfl
    cases q : Try.prog.info? 26 with
    | none => rw [q] at h; cases h
    | some i => rw [q] at h; simp at h; exact ⟨i, rfl, h⟩
  obtain ⟨f, hf⟩ := swapper_there (swapperK l.length ie 25) (by rw [swapperK_cell _ _ hpt hby]; split; exact .inl rfl; split; exact .inr (.inl rfl); exact .inr (.inr rfl))
  have hbW : Below w.heap.size w (sliceWorld Try.prog Try.laysGg6_ren 26 (some ⟨g, off, none⟩) l.length c w) := ((Below.refl _ _).alloc (Nat.le_refl _) _).alloc (by simp) _
  have h1 := pdqAsc p g off c l (.func f) #[] (sliceBound Try.prog 47 ie 25 (some ⟨g, off, none⟩) l.length c) (Lib.bitLen l.length) (sliceWorld Try.prog Try.laysGg6_ren 26 (some ⟨g, off, none⟩) l.length c w)
    hn hasc (Nat.lt_of_lt_of_le hpw hbW.size) ((hbW.cell (p := ⟨p, 0, none⟩) hpw).trans hp) (hc.below hbW)
  exact Any.sort_Slice_of_pdq Try.laysGg6 26 47 i ie hi hd (by kernel_rfl) hie 25 (fun _ => by kernel_rfl) (some ⟨g, off, none⟩) l.length c (by omega) f hf (.func 85) #[] #[.pointer (some ⟨p, 0, none⟩)] w
    (fun w' => Below w.heap.size w w') (h1.mono fun e w' ⟨h2, h3⟩ => ⟨h2, hbW.trans (h3.mono hbW.size)⟩)
end Go.Proofs.Ytipikojinfpidaa
