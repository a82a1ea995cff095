/- Prob: the walk of isProblem. -/
import Derived.Test.YtcoggnoeafpgbaaGreatAllPl
import Derived.Test.YtcoggnoeafpgbaaGreatAllP
import Derived.Test.YtcoggnoeafpgbaaGreatAllFrame
namespace Go.Proofs.YtcoggnoeafpgbaaGreat
open Go.RowKit

attribute [local go_sem ↓] Go.wp_at_zero Go.wp_at_succ

set_option maxRecDepth 100000 in
set_option maxHeartbeats 1600000 in
theorem implProb (b : Int) (ad : Option Addr) (c : Nat) (xs : List Int) (sa : Option Addr) (cs : Nat) (ps : List (List Cl)) (w : World) (hn : xs.length ≤ 1048576) (hnp : ps.length ≤ 1048576) (hl : ∀ p ∈ ps, p.length ≤ 1048576) (hc : CellsAt w ad (ints xs)) (hcp : ShpsAt w sa ps) :
    Calls Tryz.prog 56 #[.agg #[.int .i64 b, .slice ad xs.length c], .slice sa ps.length cs] w fun e w' => e = .returned (.bool (decide (Reg b xs) && decide (Pcs ps))) ∧ Below w.heap.size w w' := by
  have HREG := Lib.hid (fun w' h => implReg b ad c xs w' hn h)
  have HPC := Lib.hid (fun w' h => implPieces sa cs ps w' hnp hl h)
  have HC := Lib.hid hc
  have HCP := Lib.hid hcp
  clear hc hcp hl
  generalize decide (Pcs ps) = bp at HPC ⊢
  generalize decide (Reg b xs) = br at HREG ⊢
  obtain ⟨wA, hwA⟩ : ∃ wA, wA = w.alloc (.cells #[.int .i64 b, .slice ad xs.length c] 29) := ⟨_, rfl⟩
  have hbA : Below w.heap.size w wA := by rw [hwA]; exact (Below.refl _ _).alloc (Nat.le_refl _) _
  have hzA : wA.heap.size = w.heap.size + 1 := by rw [hwA]; simp
  have hblkA : wA.heap[w.heap.size]? = some (.cells #[.int .i64 b, .slice ad xs.length c] 29 (0, 0)) := by rw [hwA]; exact heap_alloc_new w _
  have HBA := Lib.hid hbA
  have HBLKA := Lib.hid hblkA
  have HWA := Lib.hid hwA
  have hszA := hbA.size
  clear hbA hblkA hwA
  go_enter Tryz.func56, Tryz.ntmps56
  go_wp2_with fail
  rw [← HWA.out]
  refine (HREG.out wA (HC.out.below HBA.out)).mono ?_
  rintro e w1 ⟨rfl, hb1⟩
  have HB1 := Lib.hid (HBA.out.trans (hb1.mono hszA))
  have hsz1 := HB1.out.size
  clear hb1
  cases br with
  | true =>
    go_wp2_with fail
    refine (HPC.out w1 (HCP.out.below HB1.out)).mono ?_
    rintro e w2 ⟨rfl, hb2⟩
    have HB2 := Lib.hid (HB1.out.trans (hb2.mono hsz1))
    clear hb2
    go_wp2
    go_ret
    exact ⟨by rw [Bool.true_and]; rfl, HB2.out⟩
  | false =>
    go_wp2
    go_ret
    exact ⟨rfl, HB1.out⟩
end Go.Proofs.YtcoggnoeafpgbaaGreat
