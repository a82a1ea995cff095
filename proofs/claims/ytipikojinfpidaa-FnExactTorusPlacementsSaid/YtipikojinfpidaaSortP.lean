/- SortP: pdqsort_func over at most twelve cells that ascend. -/
import Derived.Test.YtipikojinfpidaaSortC
namespace Go.Proofs.Ytipikojinfpidaa
open Go.RowKit

set_option maxRecDepth 100000 in
set_option maxHeartbeats 3200000 in
theorem pdqAsc (p g off c : Nat) (l : List Cl) (sl : Fn) (sa sb : Array Value) (lim : Int) (w : World) (hn : l.length ≤ 12) (hasc : AscG ltC l) (hpw : p < w.heap.size)
    (hp : w.cell? ⟨p, 0, none⟩ = some (.slice (some ⟨g, off, none⟩) l.length c)) (hc : CellsAt w (some ⟨g, off, none⟩) (cls l)) :
    Calls Try.prog 100 #[.agg #[.func (.func 85) #[] #[.pointer (some ⟨p, 0, none⟩)], .func sl sa sb], .int .i64 0, .int .i64 l.length, .int .i64 lim] w fun e w' => e = .returned (.tuple #[]) ∧ Below w.heap.size w w' := by
  obtain ⟨w0, hw0⟩ : ∃ w0, w0 = w.alloc (.cells #[.func (.func 85) #[] #[.pointer (some ⟨p, 0, none⟩)], .func sl sa sb] 100) := ⟨_, rfl⟩
  have hb0 : Below w.heap.size w w0 := by rw [hw0]; exact (Below.refl _ _).alloc (Nat.le_refl _) _
  have hz0 : w0.heap.size = w.heap.size + 1 := by rw [hw0]; simp
  have b0 : w0.cell? ⟨w.heap.size, 0, none⟩ = some (.func (.func 85) #[] #[.pointer (some ⟨p, 0, none⟩)]) := by rw [hw0, cell_of_row _ _ 0 _ _ _ (heap_alloc_new w _)]; rfl
  have b1 : w0.cell? ⟨w.heap.size, 1, none⟩ = some (.func sl sa sb) := by rw [hw0, cell_of_row _ _ 1 _ _ _ (heap_alloc_new w _)]; rfl
  have HI := Lib.hid (insAsc p g off c l sl sa sb w0 (by omega) hasc (by omega) ((hb0.cell (p := ⟨p, 0, none⟩) hpw).trans hp) (hc.below hb0))
  have HB0 := Lib.hid hb0
  have HW0 := Lib.hid hw0
  have i1 : (l.length : Int) ≤ 12 := by omega
  have s1 : IntKind.i64.wrap (l.length : Int) = (l.length : Int) := IntWalk.i64_in _ (by omega)
  clear hc hp hasc hb0 hw0
  go_enter Try.func100, Try.ntmps100
  go_wp2
  rw [← HW0.out]
  refine wp_loop_rounds 1 ?_
  rw [rounds_succ]
  go_wp2_with (go_at_call 116; refine HI.out.mono ?_; rintro e w' ⟨rfl, hb2⟩)
  (try simp only [Exit.inBlock, Exit.then])
  refine bodyPost_ret (results_none rfl _ _ _) rfl ?_
  exact ⟨rfl, HB0.out.trans (hb2.mono HB0.out.size)⟩
end Go.Proofs.Ytipikojinfpidaa
