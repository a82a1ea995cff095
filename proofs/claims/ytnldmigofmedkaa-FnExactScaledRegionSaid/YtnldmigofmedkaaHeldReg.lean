/- HeldReg: the walk of the helper that looks whether a region still holds its marks; the program's emptyGrid and isSide. -/
import Derived.Test.YtnldmigofmedkaaRegH
import Derived.Test.YtnldmigofmedkaaMarkInts
import Derived.Test.YtnldmigofmedkaaMakeStep
import Derived.Test.YtnldmigofmedkaaNum
namespace Go.Proofs.Ytnldmigofmedkaa
open Go.RowKit

set_option maxHeartbeats 400000 in
theorem heldRegion_b {k : Nat} (b : Int) (ad : Option Addr) (cap n : Nat) (w : World) (hn : n ≤ 1048576) (hk : k ≤ 1048576) (hc : CellsAt w ad (marks k n)) :
    Calls Try.prog 40 #[.agg #[.int .i64 b, .slice ad n cap], .int .i64 k] w fun e w' => e = .returned (.int .i64 ((k + n : Nat) : Int)) ∧ Below w.heap.size w w' := by
  have hbW : Below w.heap.size w (w.alloc (.cells #[.int .i64 b, .slice ad n cap] 44)) := (Below.refl _ _).alloc (Nat.le_refl _) _
  have HM := Lib.hid (heldIntS_b (k := k) ad cap n _ hn hk (hc.below hbW))
  have HBW := Lib.hid hbW
  have hlt : ¬ ((k + n : Nat) : Int) < 0 := by omega
  clear hc hbW
  obtain ⟨m, hm⟩ : ∃ m, m = k + n := ⟨_, rfl⟩
  rw [← hm] at HM hlt ⊢
  clear hm
  have hd : decide ((m : Int) < 0) = false := decide_eq_false hlt
  go_enter Try.func40, Try.ntmps40
  go_wp2_with fail
  refine HM.out.mono ?_
  rintro e w1 ⟨rfl, hw1⟩
  have HW1 := Lib.hid hw1
  clear hw1
  go_wp2
  go_ret
  exact ⟨rfl, HBW.out.trans (HW1.out.mono HBW.out.size)⟩

theorem isSide_any (k : Int) (w : World) : Calls Try.prog 64 #[.int .i64 k] w fun e w' => e = .returned (.bool (decide (1 ≤ k) && decide (k ≤ 6))) ∧ w = w' := by
  go_enter Try.func64, Try.ntmps64
  go_wp2_with fail
  refine (between_any _ _ _ _).mono ?_
  rintro e w' ⟨rfl, rfl⟩
  go_wp2
  go_ret
  exact ⟨rfl, rfl⟩

set_option maxRecDepth 100000 in
set_option maxHeartbeats 800000 in
theorem emptyGrid_any (a : Int) (n : Nat) (w : World) (hn : n ≤ 1048576) :
    Calls Try.prog 65 #[.int .i64 a, .int .i64 n] w fun e w' => ∃ g, e = .returned (.agg #[.int .i64 a, .slice (some ⟨g, 0, none⟩) n n]) ∧ w'.ownsRow w.heap.size 3 1 (.slice (some ⟨g, 0, none⟩) n n) n (ints (List.replicate n 0)) ∧ Below w.heap.size w w' := by
  have hmk := fun w => run_make_ints n hn w
  go_enter Try.func65, Try.ntmps65
  go_wp2
  have hsz : (w.alloc (.cells #[.int .i64 a, .slice (some ⟨w.heap.size + 1, 0, none⟩) n n] 44)).heap.size = w.heap.size + 1 := by simp
  have hblk : ((w.alloc (.cells #[.int .i64 a, .slice (some ⟨w.heap.size + 1, 0, none⟩) n n] 44)).alloc (.cells (intZeros n) 3)).heap[w.heap.size]? = some (.cells #[.int .i64 a, .slice (some ⟨w.heap.size + 1, 0, none⟩) n n] 44 (0, 0)) := by
    rw [Below.heap_alloc _ _ _ (by simp)]
    exact heap_alloc_new w _
  have ho := ownsRow_zeros (w.alloc (.cells #[.int .i64 a, .slice (some ⟨w.heap.size + 1, 0, none⟩) n n] 44)) n hn
  rw [hsz] at ho
  have hb : Below w.heap.size w ((w.alloc (.cells #[.int .i64 a, .slice (some ⟨w.heap.size + 1, 0, none⟩) n n] 44)).alloc (.cells (intZeros n) 3)) := ((Below.refl _ _).alloc (Nat.le_refl _) _).alloc (by simp) _
  generalize (w.alloc (.cells #[.int .i64 a, .slice (some ⟨w.heap.size + 1, 0, none⟩) n n] 44)).alloc (.cells (intZeros n) 3) = W at hblk ho hb ⊢
  have c0 : W.cell? ⟨w.heap.size, 0, none⟩ = some (.int .i64 a) := by rw [cell_of_row W _ 0 _ _ _ hblk]; rfl
  have c1 : W.cell? ⟨w.heap.size, 1, none⟩ = some (.slice (some ⟨w.heap.size + 1, 0, none⟩) n n) := by rw [cell_of_row W _ 1 _ _ _ hblk]; rfl
  refine bodyPost_ret (v := .agg #[.int .i64 a, .slice (some ⟨w.heap.size + 1, 0, none⟩) n n]) (by simp [results, Try.results65, go_sem, c0, c1]) rfl ⟨_, rfl, ?_, ?_⟩
  · exact ownsRow_rebase ho (Nat.le_succ _)
  · exact hb
end Go.Proofs.Ytnldmigofmedkaa
