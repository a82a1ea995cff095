/- MarkWang: the walks of the helpers that write marks into a list of tiles and look for them. -/
import Derived.Test.YtdnklmdmafbogaaDoorMarkWang0
namespace Go.Proofs.YtdnklmdmafbogaaDoor
open Go.RowKit

set_option maxRecDepth 100000 in
set_option maxHeartbeats 800000 in
theorem heldWangS_any (ad : Option Addr) (cap n k : Nat) (w : World) (hn : n ≤ 1048576) (hk : k ≤ 1048576) (hc : CellsAt w ad (marks k (n * 4))) :
    Calls Tryd.prog 16 #[.slice ad n cap, .int .i64 k] w fun e w' => e = .returned (.int .i64 ((k + n * 4 : Nat) : Int)) ∧ ∃ m, w' = w.drewN m := by
  have HC := Lib.hid hc
  clear hc
  go_enter Tryd.func16, Tryd.ntmps16
  go_wp2
  go_loopw [1, 5] (fun x i wr => ∃ j : Nat, j ≤ n ∧ i = .int .i64 j ∧ x = .int .i64 ((k + j * 4 : Nat) : Int) ∧ ∃ m, wr = w.drewN m) (fun _ i _ => n - (intOf i).toNat)
  case atStart => exact ⟨0, by omega, rfl, rfl, 0, rfl⟩
  case round =>
    obtain ⟨j, hj, rfl, rfl, m, rfl⟩ := hrel
    by_cases hlt : j < n
    · obtain ⟨g, off, rfl, hg, hcc⟩ := HC.out.open (by rw [marks_length]; omega)
      have x0 : w.cell? ⟨g, off + j * 4, none⟩ = some (.int .i64 ((k : Int) + (j : Int) * 4)) := by
        have := hcc (j * 4) _ (marks_at (by omega)); rw [show ((k + j * 4 : Nat) : Int) = (k : Int) + (j : Int) * 4 from by omega] at this; exact this
      have x1 : w.cell? ⟨g, off + j * 4 + 1, none⟩ = some (.int .i64 ((k : Int) + (j : Int) * 4 + 1)) := by
        have := hcc (j * 4 + 1) _ (marks_at (by omega)); rw [show ((k + (j * 4 + 1) : Nat) : Int) = (k : Int) + (j : Int) * 4 + 1 from by omega] at this; exact this
      have x2 : w.cell? ⟨g, off + j * 4 + 2, none⟩ = some (.int .i64 ((k : Int) + (j : Int) * 4 + 1 + 1)) := by
        have := hcc (j * 4 + 2) _ (marks_at (by omega)); rw [show ((k + (j * 4 + 2) : Nat) : Int) = (k : Int) + (j : Int) * 4 + 1 + 1 from by omega] at this; exact this
      have x3 : w.cell? ⟨g, off + j * 4 + 3, none⟩ = some (.int .i64 ((k : Int) + (j : Int) * 4 + 1 + 1 + 1)) := by
        have := hcc (j * 4 + 3) _ (marks_at (by omega)); rw [show ((k + (j * 4 + 3) : Nat) : Int) = (k : Int) + (j : Int) * 4 + 1 + 1 + 1 from by omega] at this; exact this
      clear hcc
      go_wp2
      go_roundw
      case rel => exact ⟨j + 1, by omega, by go_num, by go_num, m, rfl⟩
      case measure => simp [intOf]; omega
    · obtain rfl : j = n := by omega
      go_wp2
      go_ret
      first | exact ⟨rfl, m, rfl⟩ | exact ⟨by simp, m, rfl⟩
theorem heldWangS_b {k : Nat} (ad : Option Addr) (cap n : Nat) (w : World) (hn : n ≤ 1048576) (hk : k ≤ 1048576) (hc : CellsAt w ad (marks k (n * 4))) :
    Calls Tryd.prog 16 #[.slice ad n cap, .int .i64 k] w fun e w' => e = .returned (.int .i64 ((k + n * 4 : Nat) : Int)) ∧ Below w.heap.size w w' := by
  refine (heldWangS_any ad cap n k w hn hk hc).mono ?_
  rintro e w' ⟨rfl, m, rfl⟩
  exact ⟨rfl, ⟨rfl, rfl, rfl, Nat.le_refl _, fun _ _ => rfl⟩⟩
end Go.Proofs.YtdnklmdmafbogaaDoor
