/- ScaleB: ScaledRegion, whatever the arguments: the region that both return; its tilings by the shape. -/
import Derived.Test.YtmpcmeeoiapbdaaGreatDoorScaleI
import Derived.Test.YtmpcmeeoiapbdaaGreatDoorScaleS
import Derived.Test.YtmpcmeeoiapbdaaGreatDoorScaleNo
import Derived.Test.YtmpcmeeoiapbdaaGreatDoorAllPl
namespace Go.Proofs.YtmpcmeeoiapbdaaGreatDoor
open Go.RowKit

def scB (l : List Cl) (k : Int) : Int := if scOk l k = true then sizeX l * k else 0
def scR (l : List Cl) (k : Int) : List Int := if scOk l k = true then tab ((sizeY l).toNat * k.toNat) (scF k.toNat (cornL l)) else []
/-- The tilings of a scaled shape by the shape. -/
def repF (l : List Cl) (k : Int) : List (List Int) := if scOk l k = true then regF (scB l k) (scR l k) [l] else []
theorem repF_len (l : List Cl) (k : Int) : ∀ t ∈ repF l k, t.length ≤ 36 := by
  intro t ht
  unfold repF at ht
  split at ht
  · exact regF_len _ _ _ t ht
  · simp at ht
theorem repF_shape {l : List Cl} (h : ¬ Shape l) (k : Int) : repF l k = [] := by
  unfold repF
  rw [if_neg]
  intro q
  exact h (scOk_iff.1 q).1
/-- A result of ScaledRegion. -/
def ScAt (w : World) (l : List Cl) (k : Int) (e : Ending) (w' : World) : Prop :=
  ∃ b0 d0, e = .returned (.tuple #[.agg #[.int .i64 (scB l k), .slice b0 (scR l k).length d0], .bool (scOk l k)]) ∧ w'.ownsRow w.heap.size 3 1 (.slice b0 (scR l k).length d0) (scR l k).length (ints (scR l k)) ∧ Below w.heap.size w w'
theorem scR_length (l : List Cl) (k : Int) : (scR l k).length ≤ 6 := by
  unfold scR
  split
  · rename_i hok
    obtain ⟨_, ⟨hk1, _⟩, _, hY⟩ := scOk_iff.1 hok
    obtain ⟨K, rfl⟩ := Int.eq_ofNat_of_zero_le (by omega : 0 ≤ k)
    rw [tab_length]
    have h0 := (size_bd l).2.1
    have : (((sizeY l).toNat * K : Nat) : Int) ≤ 6 := by rw [Int.natCast_mul, Int.toNat_of_nonneg h0]; exact hY
    rw [Int.toNat_natCast]
    omega
  · exact Nat.zero_le _
theorem specScaled (ad : Option Addr) (c : Nat) (l : List Cl) (k : Int) (w : World) (hn : l.length ≤ 1048576) (hc : CellsAt w ad (cls l)) :
    Calls Tryz.prog 58 #[.slice ad l.length c, .int .i64 k] w (ScAt w l k) := by
  unfold ScAt scB scR
  by_cases hok : scOk l k = true
  · obtain ⟨_, ⟨hk1, _⟩, _, _⟩ := scOk_iff.1 hok
    obtain ⟨K, rfl⟩ := Int.eq_ofNat_of_zero_le (by omega : 0 ≤ k)
    have h1 := specScaled_yes ad c l K w hn hok hc
    rw [if_pos hok, if_pos hok, hok, tab_length, Int.toNat_natCast]
    exact h1
  · have hok' : scOk l k = false := by simpa using hok
    rw [if_neg hok, if_neg hok, hok']
    exact (specScaled_no ad c l k w hn hok' hc).mono fun e w' q => ⟨none, 0, q.1, World.ownsRow_nil _ _ _ _, q.2⟩
theorem implScaled (ad : Option Addr) (c : Nat) (l : List Cl) (k : Int) (w : World) (hn : l.length ≤ 1048576) (hc : CellsAt w ad (cls l)) :
    Calls Tryz.prog 60 #[.slice ad l.length c, .int .i64 k] w (ScAt w l k) := by
  unfold ScAt scB scR
  by_cases hok : scOk l k = true
  · obtain ⟨_, ⟨hk1, _⟩, _, _⟩ := scOk_iff.1 hok
    obtain ⟨K, rfl⟩ := Int.eq_ofNat_of_zero_le (by omega : 0 ≤ k)
    have h1 := implScaled_yes ad c l K w hn hok hc
    rw [if_pos hok, if_pos hok, hok, tab_length, Int.toNat_natCast]
    exact h1
  · have hok' : scOk l k = false := by simpa using hok
    rw [if_neg hok, if_neg hok, hok']
    exact (implScaled_no ad c l k w hn hok' hc).mono fun e w' q => ⟨none, 0, q.1, World.ownsRow_nil _ _ _ _, q.2⟩
end Go.Proofs.YtmpcmeeoiapbdaaGreatDoor
