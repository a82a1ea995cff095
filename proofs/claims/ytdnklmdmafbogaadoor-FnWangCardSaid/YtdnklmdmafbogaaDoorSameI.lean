/- SameI: the laws' comparing of two equal lists of numbers, and their test of a code's length. -/
import Derived.Test.YtdnklmdmafbogaaDoorAllBase
import Derived.Test.YtdnklmdmafbogaaDoorDraw0
namespace Go.Proofs.YtdnklmdmafbogaaDoor
open Go.RowKit

set_option maxRecDepth 100000 in
set_option maxHeartbeats 400000 in
theorem sameInts_same (a1 a2 : Option Addr) (c1 c2 : Nat) (xs : List Int) (w : World) (hn : xs.length ≤ 1048576) (hc1 : CellsAt w a1 (ints xs)) (hc2 : CellsAt w a2 (ints xs)) :
    Calls Tryd.prog 24 #[.slice a1 xs.length c1, .slice a2 xs.length c2] w fun e w' => e = .returned (.bool true) ∧ Below w.heap.size w w' := by
  have hl1 := ints_length xs
  have H1 := Lib.hid hc1
  have H2 := Lib.hid hc2
  have hd : decide ((xs.length : Int) = (xs.length : Int)) = true := by simp
  have hne : ((xs.length : Int) != (xs.length : Int)) = false := by simp
  clear hc1 hc2
  go_enter Tryd.func24, Tryd.ntmps24
  go_wp2
  go_loopw [5] (fun i wr => ∃ k : Nat, k ≤ xs.length ∧ i = .int .i64 k ∧ ∃ n, wr = w.drewN n) (fun i _ => xs.length - (intOf i).toNat)
  case atStart => exact ⟨0, by omega, rfl, 0, rfl⟩
  case round =>
    obtain ⟨k, hk, rfl, n, rfl⟩ := hrel
    by_cases hlt : k < xs.length
    · obtain ⟨g, off, rfl, hg, hcc⟩ := H1.out.open (by omega)
      obtain ⟨g', off', rfl, hg', hcc'⟩ := H2.out.open (by omega)
      have hx := hcc k _ (ints_at xs k hlt)
      have hy := hcc' k _ (ints_at xs k hlt)
      clear hcc hcc'
      have he' : (xs[k] != xs[k]) = false := by simp
      go_wp2
      go_big_quiet (fail)
      go_wp2
      go_roundw
      case rel => exact ⟨k + 1, by omega, by go_num, _, rfl⟩
      case measure => simp [intOf]; omega
    · obtain rfl : k = xs.length := by omega
      go_wp2
      go_ret
      exact ⟨rfl, ⟨rfl, rfl, rfl, Nat.le_refl _, fun _ _ => rfl⟩⟩

theorem big_any (ad : Option Addr) (cap : Nat) (bs : List Nat) (w : World) (hm : bs.length ≤ 9223372036854775807) :
    Calls Tryd.prog 19 #[.slice ad bs.length cap] w fun e w' => e = .returned (.bool (decide (1048576 < bs.length))) ∧ w = w' := by
  go_enter Tryd.func19, Tryd.ntmps19
  go_wp2
  go_ret
  refine ⟨?_, rfl⟩
  congr 2
  simp
  try omega
end Go.Proofs.YtdnklmdmafbogaaDoor
