/- AllLow: parts laid together: Low, LowB. -/
import Derived.Test.YtajmdgcnnipdoaaGreatDoorAllPl
import Derived.Test.YtajmdgcnnipdoaaGreatDoorAllBase
import Derived.Shelf.Spec.TrailingZeros
import Derived.Deep.DrawnRows

/- Low: the walks of l8Low and of math/bits.TrailingZeros: the place of the least bit. -/
namespace Go.Proofs.YtajmdgcnnipdoaaGreatDoor
open Go.RowKit

attribute [local go_sem ↓] Go.wp_at_zero Go.wp_at_succ

/-- The library's table lies in its variable. -/
def Tab (w : World) : Prop := 1 < w.heap.size ∧ ∀ j, j < Lib.deBruijn64tab.length → w.cell? ⟨1, j, none⟩ = some (.int .u8 (Lib.deBruijn64tab.getD j 0))
theorem Tab.below {w w' : World} (h : Tab w) (hb : Below w.heap.size w w') : Tab w' :=
  ⟨Nat.lt_of_lt_of_le h.1 hb.size, fun j hj => (hb.cell (p := ⟨1, j, none⟩) h.1).trans (h.2 j hj)⟩

set_option maxRecDepth 100000 in
theorem specLow (m : Nat) (w : World) (h0 : 0 < m) (hm : m < 68719476736) :
    Calls Tryz.prog 69 #[.int .i64 m] w fun e w' => e = .returned (.int .i64 (lowB m)) ∧ Below w.heap.size w w' := by
  have hbit := low_bit h0 (Nat.lt_trans hm (by decide))
  have hlow := fun i => low_below (i := i) h0 (Nat.lt_trans hm (by decide))
  have hl64 := low_lt h0 (Nat.lt_trans hm (by decide))
  have HBIT := Lib.hid hbit
  have HLOW := Lib.hid hlow
  clear hbit hlow
  generalize lowB m = n at HBIT HLOW hl64 ⊢
  have d0 : decide ((0 : Int) < (m : Int)) = true := decide_eq_true (by omega)
  have d1 : decide (0 < m) = true := decide_eq_true h0
  go_enter Tryz.func69, Tryz.ntmps69
  go_wp2
  go_loopw [3] (fun i wr => ∃ k : Nat, k ≤ n ∧ i = .int .i64 k ∧ Below w.heap.size w wr) (fun i _ => n - (intOf i).toNat)
  case atStart => exact ⟨0, Nat.zero_le _, rfl, Below.refl _ _⟩
  case round =>
    obtain ⟨k, hk, rfl, hb⟩ := hrel
    have HB := Lib.hid hb
    clear hb
    have hsh := and_shr_one m k (Nat.lt_trans hm (by decide))
    by_cases hlt : k < n
    · rw [HLOW.out k hlt, if_neg (by simp)] at hsh
      go_wp2
      go_roundw
      case rel => exact ⟨k + 1, by omega, by go_num, HB.out⟩
      case measure => simp [intOf]; omega
    · obtain rfl : k = n := by omega
      rw [HBIT.out, if_pos rfl] at hsh
      go_wp2
      go_ret
      exact ⟨rfl, HB.out⟩

set_option maxHeartbeats 1000000 in
theorem tz64_walk (x k idx : Nat) (w : World) (hx0 : ((x : Int) == 0) = false)
    (key : IntKind.u64.wrap (bits BinOp.and IntKind.u64 (x : Int) (IntKind.u64.wrap (-(x : Int))) * 285870213051353865) / 288230376151711744 = (idx : Int))
    (hi : idx < 64) (hk : k < 64) (hcell : w.cell? ⟨1, idx, none⟩ = some (.int .u8 k)) :
    Calls Tryz.prog 168 #[.int .u64 x] w fun e w' => e = .returned (.int .i64 k) ∧ w' = w := by
  go_enter Tryz.func168, Tryz.ntmps168
  go_wp2_with (simp only [key])
  go_ret
  exact ⟨rfl, rfl⟩

theorem tz64 (x : Nat) (h0 : 0 < x) (hx : x < 18446744073709551616) (w : World) (hT : Tab w) :
    Calls Tryz.prog 168 #[.int .u64 x] w fun e w' => e = .returned (.int .i64 (lowB x)) ∧ w' = w := by
  obtain ⟨hlow, hk⟩ := Lib.lowest_bit 64 x (by omega) hx
  obtain ⟨hi, htab⟩ := Lib.deBruijn64_at _ hk
  have hcell := hT.2 _ hi
  rw [htab] at hcell
  exact tz64_walk x _ _ w (by simp; omega) (tz64_key x _ hx (by omega) hlow) hi hk hcell

set_option maxRecDepth 100000 in
theorem implTz (x : Nat) (h0 : 0 < x) (hx : x < 18446744073709551616) (w : World) (hT : Tab w) :
    Calls Tryz.prog 149 #[.int .u64 x] w fun e w' => e = .returned (.int .i64 (lowB x)) ∧ w' = w := by
  have HZ := Lib.hid (tz64 x h0 hx w hT)
  clear hT
  generalize lowB x = n at HZ ⊢
  go_enter Tryz.func149, Tryz.ntmps149
  go_wp2_with fail
  refine HZ.out.mono ?_
  rintro e w1 ⟨rfl, rfl⟩
  go_wp2
  go_ret
  exact ⟨rfl, rfl⟩
end Go.Proofs.YtajmdgcnnipdoaaGreatDoor

/- LowB: the walk of leastBit. -/
namespace Go.Proofs.YtajmdgcnnipdoaaGreatDoor
open Go.RowKit

attribute [local go_sem ↓] Go.wp_at_zero Go.wp_at_succ

set_option maxRecDepth 100000 in
theorem implLow (m : Nat) (w : World) (h0 : 0 < m) (hm : m < 68719476736) (hT : Tab w) :
    Calls Tryz.prog 137 #[.int .i64 m] w fun e w' => e = .returned (.int .i64 (lowB m)) ∧ Below w.heap.size w w' := by
  have HZ := Lib.hid (implTz m h0 (Nat.lt_trans hm (by decide)) w hT)
  clear hT
  generalize lowB m = n at HZ ⊢
  have hz : ((m : Int) == 0) = false := by simp; omega
  go_enter Tryz.func137, Tryz.ntmps137
  go_wp2_with fail
  refine HZ.out.mono ?_
  rintro e w1 ⟨rfl, rfl⟩
  go_wp2
  go_ret
  exact ⟨rfl, Below.refl _ _⟩
end Go.Proofs.YtajmdgcnnipdoaaGreatDoor
