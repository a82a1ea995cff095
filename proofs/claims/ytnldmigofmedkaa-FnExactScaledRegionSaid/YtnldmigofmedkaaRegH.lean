/- RegH: the walks of the laws' helpers on regions: copy, size, compare; when a region is valid. -/
import Derived.Test.YtnldmigofmedkaaNum
import Derived.Test.YtnldmigofmedkaaInts
import Derived.Test.YtnldmigofmedkaaRange
namespace Go.Proofs.Ytnldmigofmedkaa
open Go.RowKit

def regV (b : Int) (ad : Option Addr) (n c : Nat) : Value := .agg #[.int .i64 b, .slice ad n c]

theorem szIntS_any (ad : Option Addr) (cap n : Nat) (left : Int) (w : World) (hn : n ≤ 9223372036854775807) (h0 : 0 ≤ left) (h1 : left ≤ 1048576) :
    Calls Try.prog 52 #[.slice ad n cap, .int .i64 left] w fun e w' => e = .returned (.int .i64 (if left < (n : Int) then -1 else left - n)) ∧ w = w' := by
  by_cases h : left < (n : Int)
  · rw [if_pos h]
    go_enter Try.func52, Try.ntmps52
    go_wp2
    go_ret
    exact ⟨rfl, rfl⟩
  · rw [if_neg h]
    go_enter Try.func52, Try.ntmps52
    go_wp2
    go_ret
    exact ⟨rfl, rfl⟩

set_option maxHeartbeats 400000 in
theorem szRegion_any (b : Int) (ad : Option Addr) (cap n : Nat) (left : Int) (w : World) (hn : n ≤ 9223372036854775807) (h0 : 0 ≤ left) (h1 : left ≤ 1048576) :
    Calls Try.prog 23 #[.agg #[.int .i64 b, .slice ad n cap], .int .i64 left] w fun e w' => e = .returned (.int .i64 (if left < (n : Int) then -1 else left - n)) ∧ Below w.heap.size w w' := by
  have hs := fun w => szIntS_any ad cap n left w hn h0 h1
  by_cases h : left < (n : Int)
  · rw [if_pos h] at hs ⊢
    have HS := Lib.hid hs
    clear hs
    go_enter Try.func23, Try.ntmps23
    go_wp2_with fail
    refine (HS.out _).mono ?_
    rintro e w' ⟨rfl, rfl⟩
    go_wp2
    go_ret
    exact ⟨rfl, by go_grown⟩
  · rw [if_neg h] at hs ⊢
    have HS := Lib.hid hs
    clear hs
    go_enter Try.func23, Try.ntmps23
    go_wp2_with fail
    refine (HS.out _).mono ?_
    rintro e w' ⟨rfl, rfl⟩
    go_wp2
    go_ret
    exact ⟨rfl, by go_grown⟩

set_option maxHeartbeats 400000 in
theorem toRegion_any (b : Int) (ad : Option Addr) (cap : Nat) (xs : List Int) (w : World) (hn : xs.length ≤ 1048576) (hc : CellsAt w ad (ints xs)) :
    Calls Try.prog 25 #[.agg #[.int .i64 b, .slice ad xs.length cap]] w fun e w' => ∃ ad' cap', e = .returned (.agg #[.int .i64 b, .slice ad' xs.length cap']) ∧ w'.ownsRow w.heap.size 3 1 (.slice ad' xs.length cap') xs.length (ints xs) ∧ Below w.heap.size w w' := by
  have HC := Lib.hid hc
  clear hc
  go_enter Try.func25, Try.ntmps25
  go_wp2_with fail
  obtain ⟨w0, hw0⟩ : ∃ w0, w0 = ((w.alloc (.cells #[.int .i64 b, .slice ad xs.length cap] 40)).alloc (.cells #[.int .i64 0, .slice none 0 0] 44)).alloc (.cells #[.int .i64 b, .slice none 0 0] 44) := ⟨_, rfl⟩
  have hb0 : Below w.heap.size w w0 := by rw [hw0]; exact (((Below.refl _ _).alloc (Nat.le_refl _) _).alloc (by simp) _).alloc (by simp; omega) _
  have hz0 : w0.heap.size = w.heap.size + 3 := by rw [hw0]; simp
  have hblk : w0.heap[w.heap.size + 2]? = some (.cells #[.int .i64 b, .slice none 0 0] 44 (0, 0)) := by
    rw [hw0]
    have := heap_alloc_new ((w.alloc (.cells #[.int .i64 b, .slice ad xs.length cap] 40)).alloc (.cells #[.int .i64 0, .slice none 0 0] 44)) (.cells #[.int .i64 b, .slice none 0 0] 44)
    simpa using this
  have hblk' : w0.heap[w.heap.size + 1]? = some (.cells #[.int .i64 0, .slice none 0 0] 44 (0, 0)) := by
    rw [hw0, Below.heap_alloc _ _ _ (by simp)]
    have := heap_alloc_new (w.alloc (.cells #[.int .i64 b, .slice ad xs.length cap] 40)) (.cells #[.int .i64 0, .slice none 0 0] 44)
    simpa using this
  rw [← hw0]
  clear hw0
  refine (toIntS_any ad cap xs w0 hn (HC.out.below hb0)).mono ?_
  rintro e w2 ⟨ad', cap', rfl, ho, hb⟩
  have hblk2 := (hb.block (w.heap.size + 2) (by omega)).trans hblk
  have x0 : w2.cell? ⟨w.heap.size + 2, 0, none⟩ = some (.int .i64 b) := by rw [cell_of_row w2 _ 0 _ _ _ hblk2]; rfl
  have x1 : w2.cell? ⟨w.heap.size + 2, 1, none⟩ = some (.slice none 0 0) := by rw [cell_of_row w2 _ 1 _ _ _ hblk2]; rfl
  have y1 : w2.frozen? ⟨w.heap.size + 2, 1, none⟩ = false := frozen_of_row w2 _ 1 _ _ hblk2
  have hblk3 := (hb.block (w.heap.size + 1) (by omega)).trans hblk'
  have z0 : w2.cell? ⟨w.heap.size + 1, 0, none⟩ = some (.int .i64 0) := by rw [cell_of_row w2 _ 0 _ _ _ hblk3]; rfl
  have z1 : w2.cell? ⟨w.heap.size + 1, 1, none⟩ = some (.slice none 0 0) := by rw [cell_of_row w2 _ 1 _ _ _ hblk3]; rfl
  have u0 : w2.frozen? ⟨w.heap.size + 1, 0, none⟩ = false := frozen_of_row w2 _ 0 _ _ hblk3
  have u1 : w2.frozen? ⟨w.heap.size + 1, 1, none⟩ = false := frozen_of_row w2 _ 1 _ _ hblk3
  have HZ := Lib.hid hz0
  have HO := Lib.hid ho
  clear hz0 ho hblk hblk2 hblk' hblk3
  go_wp2
  refine bodyPost_ret (v := .agg #[.int .i64 b, .slice ad' xs.length cap']) (by simp [results, Try.results25, go_sem, z0, z1]) rfl ⟨ad', cap', rfl, ?_, ?_⟩
  · refine ownsRow_rebase (ownsRow_setCell_below (ownsRow_setCell_below (ownsRow_setCell_below HO.out ?_ _) ?_ _) ?_ _) (by have := HZ.out; omega)
    all_goals (have := HZ.out; simp; omega)
  · exact ((((hb0.trans (hb.mono hb0.size)).setCell (by show w.heap.size ≤ w.heap.size + 2; omega) _).setCell (by show w.heap.size ≤ w.heap.size + 1; omega) _).setCell (by show w.heap.size ≤ w.heap.size + 1; omega) _)

set_option maxHeartbeats 400000 in
theorem eqRegion_any (b1 b2 : Int) (a1 a2 : Option Addr) (c1 c2 : Nat) (xs ys : List Int) (w : World) (hn : xs.length ≤ 1048576) (hc1 : CellsAt w a1 (ints xs)) (hc2 : CellsAt w a2 (ints ys)) :
    Calls Try.prog 28 #[.agg #[.int .i64 b1, .slice a1 xs.length c1], .agg #[.int .i64 b2, .slice a2 ys.length c2]] w fun e w' => e = .returned (.bool (decide (b1 = b2 ∧ xs = ys))) ∧ Below w.heap.size w w' := by
  by_cases hb : b1 = b2
  · subst hb
    have n1 : (b1 != b1) = false := by simp
    have hb0 : Below w.heap.size w ((w.alloc (.cells #[.int .i64 b1, .slice a1 xs.length c1] 44)).alloc (.cells #[.int .i64 b1, .slice a2 ys.length c2] 44)) :=
      ((Below.refl _ _).alloc (Nat.le_refl _) _).alloc (by simp) _
    have he := eqIntS_any a1 a2 c1 c2 xs ys _ hn (hc1.below hb0) (hc2.below hb0)
    by_cases hx : xs = ys
    · rw [decide_eq_true hx] at he
      rw [decide_eq_true (⟨rfl, hx⟩ : b1 = b1 ∧ xs = ys)]
      have HE := Lib.hid he
      have HB := Lib.hid hb0
      clear he hb0 hc1 hc2 hx
      go_enter Try.func28, Try.ntmps28
      go_wp2_with fail
      refine HE.out.mono ?_
      rintro e w' ⟨rfl, m, rfl⟩
      go_wp2
      go_ret
      exact ⟨rfl, below_drewN HB.out m⟩
    · rw [decide_eq_false hx] at he
      rw [decide_eq_false (fun h => hx h.2 : ¬ (b1 = b1 ∧ xs = ys))]
      have HE := Lib.hid he
      have HB := Lib.hid hb0
      clear he hb0 hc1 hc2 hx
      go_enter Try.func28, Try.ntmps28
      go_wp2_with fail
      refine HE.out.mono ?_
      rintro e w' ⟨rfl, m, rfl⟩
      go_wp2
      go_ret
      exact ⟨rfl, below_drewN HB.out m⟩
  · rw [decide_eq_false (fun h => hb h.1 : ¬ (b1 = b2 ∧ xs = ys))]
    have n1 : (b1 != b2) = true := by simp [hb]
    clear hb
    go_enter Try.func28, Try.ntmps28
    go_wp2_with fail
    go_ret
    exact ⟨rfl, by go_grown⟩

theorem eqRegion_same (b : Int) (a1 a2 : Option Addr) (c1 c2 : Nat) (xs : List Int) (w : World) (hn : xs.length ≤ 1048576) (hc1 : CellsAt w a1 (ints xs)) (hc2 : CellsAt w a2 (ints xs)) :
    Calls Try.prog 28 #[.agg #[.int .i64 b, .slice a1 xs.length c1], .agg #[.int .i64 b, .slice a2 xs.length c2]] w fun e w' => e = .returned (.bool true) ∧ Below w.heap.size w w' := by
  have h := eqRegion_any b b a1 a2 c1 c2 xs xs w hn hc1 hc2
  rw [decide_eq_true (⟨rfl, rfl⟩ : b = b ∧ xs = xs)] at h
  exact h
theorem lt_of_blk {w : World} {b : Nat} {o : Obj} (h : w.heap[b]? = some o) : b < w.heap.size := (Array.getElem?_eq_some_iff.1 h).1
/-- When a region is valid. -/
def Reg (b : Int) (xs : List Int) : Prop := (1 ≤ b ∧ b ≤ 6) ∧ (1 ≤ xs.length ∧ xs.length ≤ 6) ∧ ∀ x ∈ xs, 0 ≤ x ∧ x < 2 ^ b.toNat
instance (b : Int) (xs : List Int) : Decidable (Reg b xs) := by unfold Reg; infer_instance
end Go.Proofs.Ytnldmigofmedkaa
