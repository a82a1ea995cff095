/- AllMk: parts laid together: MakeInt, EmptyG. -/
import Derived.Test.YtmpcmeeoiapbdaaGreatDoorAllBase
import Derived.Test.YtmpcmeeoiapbdaaGreatDoorAllReg

/- MakeInt: make([]int, n) in a region that draws its order. -/
namespace Go.Proofs.YtmpcmeeoiapbdaaGreatDoor
open Go.RowKit

def intZeros (n : Nat) : Array Value := madeCells #[.int .i64 0] n
theorem intZeros_list (n : Nat) : (intZeros n).toList = ints (List.replicate n 0) := by
  unfold intZeros
  rw [madeCells_one]
  simp [ints]
/-- make([]int, n) as an equation, for a region that draws its order. -/
theorem run_make_ints (n : Nat) (hn : n ≤ 1048576) (w : World) : (Instr.makeSlice 37 (.int .i64 (n : Int)) (.int .i64 (n : Int))).run Tryz.prog w = .ok (.slice (some ⟨w.heap.size, 0, none⟩) n n) (w.alloc (.cells (intZeros n) 3)) := by
  obtain ⟨i, hi, hz, hsize, hby⟩ := Tryz.elemInt.inf
  have h := run_make (P := Tryz.prog) w 37 3 i _ Tryz.elemInt.und hi hz .i64 .i64 n n (by omega) (Int.le_refl _) (by rw [hby]; omega) (by omega)
  rw [hsize] at h
  simpa [intZeros, Value.cells] using h
theorem ownsRow_zeros (w : World) (n : Nat) (hn : n ≤ 1048576) : (w.alloc (.cells (intZeros n) 3)).ownsRow w.heap.size 3 1 (.slice (some ⟨w.heap.size, 0, none⟩) n n) n (ints (List.replicate n 0)) := by
  rw [← intZeros_list]
  exact World.ownsRow_lit w _ n (Nat.le_refl _) (by unfold maxLen; omega) (by simp [intZeros, madeCells])
theorem ints_set (xs : List Int) (k : Nat) (x : Int) : (ints xs).set k (.int .i64 x) = ints (xs.set k x) := by simp [ints, List.map_set]
end Go.Proofs.YtmpcmeeoiapbdaaGreatDoor

/- EmptyG: the walk of the program's emptyGrid. -/
namespace Go.Proofs.YtmpcmeeoiapbdaaGreatDoor
open Go.RowKit

set_option maxRecDepth 100000 in
set_option maxHeartbeats 800000 in
theorem emptyGrid_any (a : Int) (n : Nat) (w : World) (hn : n ≤ 1048576) :
    Calls Tryz.prog 87 #[.int .i64 a, .int .i64 n] w fun e w' => ∃ g, e = .returned (.agg #[.int .i64 a, .slice (some ⟨g, 0, none⟩) n n]) ∧ w'.ownsRow w.heap.size 3 1 (.slice (some ⟨g, 0, none⟩) n n) n (ints (List.replicate n 0)) ∧ Below w.heap.size w w' := by
  have hmk := fun w => run_make_ints n hn w
  go_enter Tryz.func87, Tryz.ntmps87
  go_wp2
  have hsz : (w.alloc (.cells #[.int .i64 a, .slice (some ⟨w.heap.size + 1, 0, none⟩) n n] 65)).heap.size = w.heap.size + 1 := by simp
  have hblk : ((w.alloc (.cells #[.int .i64 a, .slice (some ⟨w.heap.size + 1, 0, none⟩) n n] 65)).alloc (.cells (intZeros n) 3)).heap[w.heap.size]? = some (.cells #[.int .i64 a, .slice (some ⟨w.heap.size + 1, 0, none⟩) n n] 65 (0, 0)) := by
    rw [Below.heap_alloc _ _ _ (by simp)]
    exact heap_alloc_new w _
  have ho := ownsRow_zeros (w.alloc (.cells #[.int .i64 a, .slice (some ⟨w.heap.size + 1, 0, none⟩) n n] 65)) n hn
  rw [hsz] at ho
  have hb : Below w.heap.size w ((w.alloc (.cells #[.int .i64 a, .slice (some ⟨w.heap.size + 1, 0, none⟩) n n] 65)).alloc (.cells (intZeros n) 3)) := ((Below.refl _ _).alloc (Nat.le_refl _) _).alloc (by simp) _
  generalize (w.alloc (.cells #[.int .i64 a, .slice (some ⟨w.heap.size + 1, 0, none⟩) n n] 65)).alloc (.cells (intZeros n) 3) = W at hblk ho hb ⊢
  have c0 : W.cell? ⟨w.heap.size, 0, none⟩ = some (.int .i64 a) := by rw [cell_of_row W _ 0 _ _ _ hblk]; rfl
  have c1 : W.cell? ⟨w.heap.size, 1, none⟩ = some (.slice (some ⟨w.heap.size + 1, 0, none⟩) n n) := by rw [cell_of_row W _ 1 _ _ _ hblk]; rfl
  refine bodyPost_ret (v := .agg #[.int .i64 a, .slice (some ⟨w.heap.size + 1, 0, none⟩) n n]) (by simp [results, Tryz.results87, go_sem, c0, c1]) rfl ⟨_, rfl, ?_, ?_⟩
  · exact ownsRow_rebase ho (Nat.le_succ _)
  · exact hb
end Go.Proofs.YtmpcmeeoiapbdaaGreatDoor
