/- PackJ: the program's LargestPacking and CountPacked, for all regions. -/
import Derived.Test.YtcoggnoeafpgbaaGreatPackI
import Derived.Test.YtcoggnoeafpgbaaGreatPackSW
namespace Go.Proofs.YtcoggnoeafpgbaaGreat
open Go.RowKit

set_option maxRecDepth 100000 in
set_option maxHeartbeats 1600000 in
theorem implLP (b : Int) (ad : Option Addr) (c : Nat) (xs : List Int) (sa : Option Addr) (cs : Nat) (ps : List (List Cl)) (w : World) (hn : xs.length ≤ 1048576) (hnp : ps.length ≤ 1048576) (hl : ∀ p ∈ ps, p.length ≤ 1048576) (hc : CellsAt w ad (ints xs)) (hcp : ShpsAt w sa ps) :
    Calls Tryz.prog 15 #[.agg #[.int .i64 b, .slice ad xs.length c], .slice sa ps.length cs] w fun e w' => ∃ ad' cap', e = .returned (.tuple #[.slice ad' (lpR b xs ps).length cap', .bool (decide (SmallP b xs ps))]) ∧
      w'.ownsRow w.heap.size 3 1 (.slice ad' (lpR b xs ps).length cap') (lpR b xs ps).length (ints (lpR b xs ps)) ∧ Below w.heap.size w w' := by
  by_cases hs : SmallP b xs ps
  · obtain ⟨B, rfl⟩ := Int.eq_ofNat_of_zero_le (by have := hs.1.1.1.1; omega : 0 ≤ b)
    rw [decide_eq_true hs, show lpR B xs ps = packL (allL B xs ps) 0 from if_pos hs]
    exact implLP_yes B ad c xs sa cs ps w hn hnp hl hc hcp hs
  · rw [decide_eq_false hs, show lpR b xs ps = [] from if_neg hs]
    have hsm := fun w' h1 h2 => implSm b ad c xs sa cs ps w' hn hnp hl h1 h2
    rw [decide_eq_false hs] at hsm
    have HC := Lib.hid hc
    have HCP := Lib.hid hcp
    have HISM := Lib.hid hsm
    clear hc hcp hl hsm hs
    obtain ⟨wA, hwA⟩ : ∃ wA, wA = w.alloc (.cells #[.int .i64 b, .slice ad xs.length c] 29) := ⟨_, rfl⟩
    have hbA : Below w.heap.size w wA := by rw [hwA]; exact (Below.refl _ _).alloc (Nat.le_refl _) _
    have HBA := Lib.hid hbA
    have HWA := Lib.hid hwA
    have hszA := hbA.size
    clear hbA hwA
    go_enter Tryz.func15, Tryz.ntmps15
    go_wp2_with fail
    rw [← HWA.out]
    refine (HISM.out wA (HC.out.below HBA.out) (HCP.out.below HBA.out)).mono ?_
    rintro e w1 ⟨rfl, hb1⟩
    have HB1 := Lib.hid (HBA.out.trans (hb1.mono hszA))
    clear hb1
    go_wp2
    go_ret2
    exact ⟨none, 0, rfl, World.ownsRow_nil _ _ _ _, HB1.out⟩

set_option maxRecDepth 100000 in
set_option maxHeartbeats 1600000 in
theorem implCP (b : Int) (ad : Option Addr) (c : Nat) (xs : List Int) (sa : Option Addr) (cs : Nat) (ps : List (List Cl)) (w : World) (hn : xs.length ≤ 1048576) (hnp : ps.length ≤ 1048576) (hl : ∀ p ∈ ps, p.length ≤ 1048576) (hc : CellsAt w ad (ints xs)) (hcp : ShpsAt w sa ps) :
    Calls Tryz.prog 11 #[.agg #[.int .i64 b, .slice ad xs.length c], .slice sa ps.length cs] w fun e w' => e = .returned (.int .i64 (if SmallP b xs ps then ((lpR b xs ps).length : Int) else -1)) ∧ Below w.heap.size w w' := by
  have hlp := fun w' h1 h2 => implLP b ad c xs sa cs ps w' hn hnp hl h1 h2
  have HC := Lib.hid hc
  have HCP := Lib.hid hcp
  obtain ⟨wA, hwA⟩ : ∃ wA, wA = w.alloc (.cells #[.int .i64 b, .slice ad xs.length c] 29) := ⟨_, rfl⟩
  have hbA : Below w.heap.size w wA := by rw [hwA]; exact (Below.refl _ _).alloc (Nat.le_refl _) _
  have HBA := Lib.hid hbA
  have HWA := Lib.hid hwA
  have hszA := hbA.size
  clear hc hcp hbA hwA
  generalize lpR b xs ps = L at hlp ⊢
  by_cases hs : SmallP b xs ps
  · rw [decide_eq_true hs] at hlp
    rw [if_pos hs]
    have HLP := Lib.hid hlp
    clear hlp hs hl
    go_enter Tryz.func11, Tryz.ntmps11
    go_wp2_with fail
    rw [← HWA.out]
    refine (HLP.out wA (HC.out.below HBA.out) (HCP.out.below HBA.out)).mono ?_
    rintro e w1 ⟨a1, c1, rfl, _, hb1⟩
    have HB1 := Lib.hid (HBA.out.trans (hb1.mono hszA))
    clear hb1
    go_wp2
    go_ret
    exact ⟨rfl, HB1.out⟩
  · rw [decide_eq_false hs] at hlp
    rw [if_neg hs]
    have HLP := Lib.hid hlp
    clear hlp hs hl
    go_enter Tryz.func11, Tryz.ntmps11
    go_wp2_with fail
    rw [← HWA.out]
    refine (HLP.out wA (HC.out.below HBA.out) (HCP.out.below HBA.out)).mono ?_
    rintro e w1 ⟨a1, c1, rfl, _, hb1⟩
    have HB1 := Lib.hid (HBA.out.trans (hb1.mono hszA))
    clear hb1
    go_wp2
    go_ret
    exact ⟨rfl, HB1.out⟩

theorem lpR_wf (b : Int) (xs : List Int) (ps : List (List Cl)) : (lpR b xs ps).length ≤ 1500 ∧ ∀ v ∈ lpR b xs ps, Small v := by
  unfold lpR
  by_cases hs : SmallP b xs ps
  · rw [if_pos hs]
    obtain ⟨B, rfl⟩ := Int.eq_ofNat_of_zero_le (by have := hs.1.1.1.1; omega : 0 ≤ b)
    rw [Int.toNat_natCast]
    exact ⟨Nat.le_trans (packL_le _ _) (allL_length hs.1.1 hs.1.2), fun v hv => allL_small hs.1.1 ps v (packL_mem _ _ v hv)⟩
  · rw [if_neg hs]
    exact ⟨Nat.zero_le _, fun v hv => by cases hv⟩
end Go.Proofs.YtcoggnoeafpgbaaGreat
