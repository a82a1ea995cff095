/- AllMk: parts laid together: MakeInt, EmptyG. -/
import Derived.Test.YtajmdgcnnipdoaaGreatDoorAllBase

/- MakeInt: make([]int, n) in a region that draws its order. -/
namespace Go.Proofs.YtajmdgcnnipdoaaGreatDoor
open Go.RowKit

def intZeros (n : Nat) : Array Value := madeCells #[.int .i64 0] n
theorem intZeros_list (n : Nat) : (intZeros n).toList = ints (List.replicate n 0) := by
  unfold intZeros
  rw [madeCells_one]
  simp [ints]
/-- make([]int, n) as an equation, for a region that draws its order. -/
theorem run_make_ints (n : Nat) (hn : n ≤ 1048576) (w : World) : (Instr.makeSlice 24 (.int .i64 (n : Int)) (.int .i64 (n : Int))).run Tryz.prog w = .ok (.slice (some ⟨w.heap.size, 0, none⟩) n n) (w.alloc (.cells (intZeros n) 3)) := by
  obtain ⟨i, hi, hz, hsize, hby⟩ := Tryz.elemInt.inf
  have h := run_make (P := Tryz.prog) w 24 3 i _ Tryz.elemInt.und hi hz .i64 .i64 n n (by omega) (Int.le_refl _) (by rw [hby]; omega) (by omega)
  rw [hsize] at h
  simpa [intZeros, Value.cells] using h
theorem ownsRow_zeros (w : World) (n : Nat) (hn : n ≤ 1048576) : (w.alloc (.cells (intZeros n) 3)).ownsRow w.heap.size 3 1 (.slice (some ⟨w.heap.size, 0, none⟩) n n) n (ints (List.replicate n 0)) := by
  rw [← intZeros_list]
  exact World.ownsRow_lit w _ n (Nat.le_refl _) (by unfold maxLen; omega) (by simp [intZeros, madeCells])
theorem ints_set (xs : List Int) (k : Nat) (x : Int) : (ints xs).set k (.int .i64 x) = ints (xs.set k x) := by simp [ints, List.map_set]
end Go.Proofs.YtajmdgcnnipdoaaGreatDoor
