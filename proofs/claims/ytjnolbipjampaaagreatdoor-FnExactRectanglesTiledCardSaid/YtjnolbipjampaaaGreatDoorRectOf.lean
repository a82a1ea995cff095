/- RectOf: the walks of RectangleOf, the reference's and the program's. -/
import Derived.Test.YtjnolbipjampaaaGreatDoorAllReg
import Derived.Test.YtjnolbipjampaaaGreatDoorPut0
import Derived.Test.YtjnolbipjampaaaGreatDoorAllPl
import Derived.BigRegion
import Derived.StillTailTactics
import Derived.IntWalk
namespace Go.Proofs.YtjnolbipjampaaaGreatDoor
open Go.RowKit

attribute [local go_sem ↓] Go.wp_at_zero Go.wp_at_succ

/-- Sides of a rectangle on the grid. -/
def RcOk (x y : Int) : Prop := (1 ≤ x ∧ x ≤ 6) ∧ 1 ≤ y ∧ y ≤ 6
instance (x y : Int) : Decidable (RcOk x y) := by unfold RcOk; infer_instance
def rcB (x y : Int) : Int := if RcOk x y then x else 0
def rcR (x y : Int) : List Int := if RcOk x y then List.replicate y.toNat ((2 ^ x.toNat - 1 : Nat) : Int) else []
theorem rcR_length (x y : Int) : (rcR x y).length ≤ 6 := by
  unfold rcR
  split
  · rename_i h
    rw [List.length_replicate]
    have := h.2.2
    omega
  · exact Nat.zero_le _
/-- A result of RectangleOf. -/
def RcAt (w : World) (x y : Int) (e : Ending) (w' : World) : Prop :=
  ∃ b0 d0, e = .returned (.tuple #[.agg #[.int .i64 (rcB x y), .slice b0 (rcR x y).length d0], .bool (decide (RcOk x y))]) ∧ w'.ownsRow w.heap.size 3 1 (.slice b0 (rcR x y).length d0) (rcR x y).length (ints (rcR x y)) ∧ Below w.heap.size w w'
theorem rc_facts {W : Nat} (hW : W ≤ 6) : ∃ pw v : Nat, v = 2 ^ W - 1 ∧ v ≤ 63 ∧ IntKind.i64.wrap (2 ^ W) = (pw : Int) ∧ wrap64 (2 ^ W) = (pw : Int) ∧ (pw : Int) - 1 = (v : Int) ∧ IntKind.i64.wrap (v : Int) = (v : Int) ∧ (W : Int) < 64 := by
  have hp : 2 ^ W ≤ 2 ^ 6 := Nat.pow_le_pow_right (by decide) hW
  have hp0 : 0 < 2 ^ W := Nat.two_pow_pos _
  have h1 : ((2 : Int) ^ W) = ((2 ^ W : Nat) : Int) := by norm_cast
  have h2 : wrap64 ((2 : Int) ^ W) = ((2 ^ W : Nat) : Int) := by rw [h1]; exact wrap_nat (by omega)
  exact ⟨2 ^ W, 2 ^ W - 1, rfl, by omega, by rw [IntWalk.i64_left]; exact h2, h2, by omega, IntWalk.i64_in _ (by omega), by omega⟩

set_option maxRecDepth 100000 in
set_option maxHeartbeats 3200000 in
theorem specRc_no (x y : Int) (w : World) (h : ¬ RcOk x y) :
    Calls Tryz.prog 24 #[.int .i64 x, .int .i64 y] w (RcAt w x y) := by
  unfold RcAt
  rw [show rcB x y = 0 from if_neg h, show rcR x y = [] from if_neg h, decide_eq_false h]
  obtain ⟨w0, hw0⟩ : ∃ w0, w0 = w.alloc (.cells #[.int .i64 0, .slice none 0 0] 45) := ⟨_, rfl⟩
  have hb0 : Below w.heap.size w w0 := by rw [hw0]; exact (Below.refl _ _).alloc (Nat.le_refl _) _
  have hz0 : w0.heap.size = w.heap.size + 1 := by rw [hw0]; simp
  have hk0 : w0.heap[w.heap.size]? = some (.cells #[.int .i64 0, .slice none 0 0] 45 (0, 0)) := by rw [hw0]; exact heap_alloc_new w _
  have HK0 := Lib.hid hk0
  have HB0 := Lib.hid hb0
  have HW0 := Lib.hid hw0
  clear hb0 hw0 hk0
  by_cases hx : 1 ≤ x ∧ x ≤ 6
  · have hy : ¬ (1 ≤ y ∧ y ≤ 6) := fun q => h ⟨hx, q⟩
    clear h
    go_enter Tryz.func24, Tryz.ntmps24
    go_wp2_with fail
    rw [← HW0.out]
    refine (l1In_yes (x) 1 6 _ (by omega) (by omega)).mono ?_
    rintro e w' ⟨rfl, rfl⟩
    go_wp2_with fail
    refine (l1In_no (y) 1 6 _ (by omega)).mono ?_
    rintro e w' ⟨rfl, rfl⟩
    have y0 : w0.cell? ⟨w.heap.size, 0, none⟩ = some (.int .i64 0) := by rw [cell_of_row w0 _ 0 _ _ _ HK0.out]; rfl
    have y1 : w0.cell? ⟨w.heap.size, 1, none⟩ = some (.slice none 0 0) := by rw [cell_of_row w0 _ 1 _ _ _ HK0.out]; rfl
    have f0 := frozen_of_row w0 w.heap.size 0 _ _ HK0.out
    have f1 := frozen_of_row w0 w.heap.size 1 _ _ HK0.out
    go_wp2_with fail
    (try simp only [Exit.inBlock, Exit.then])
    have c0 : ((w0.setCell ⟨w.heap.size, 0, none⟩ (.int .i64 0)).setCell ⟨w.heap.size, 1, none⟩ (.slice none 0 0)).cell? ⟨w.heap.size, 0, none⟩ = some (.int .i64 0) := by
      rw [World.cell?_setCell_other _ _ _ _ (by simp)]
      exact World.cell?_setCell_same _ _ _ y0
    have c1 : ((w0.setCell ⟨w.heap.size, 0, none⟩ (.int .i64 0)).setCell ⟨w.heap.size, 1, none⟩ (.slice none 0 0)).cell? ⟨w.heap.size, 1, none⟩ = some (.slice none 0 0) :=
      World.cell?_setCell_same _ _ _ ((World.cell?_setCell_other _ _ _ _ (by simp)).trans y1)
    refine bodyPost_ret (v := .tuple #[.agg #[.int .i64 0, .slice none 0 0], .bool false]) (by simp [results, Tryz.results24, go_sem, c0, c1]) rfl ⟨none, 0, rfl, World.ownsRow_nil _ _ _ _, ?_⟩
    exact (HB0.out.setCell (Nat.le_refl _) _).setCell (Nat.le_refl _) _
  · clear h
    go_enter Tryz.func24, Tryz.ntmps24
    go_wp2_with fail
    rw [← HW0.out]
    refine (l1In_no (x) 1 6 _ (by omega)).mono ?_
    rintro e w' ⟨rfl, rfl⟩
    have y0 : w0.cell? ⟨w.heap.size, 0, none⟩ = some (.int .i64 0) := by rw [cell_of_row w0 _ 0 _ _ _ HK0.out]; rfl
    have y1 : w0.cell? ⟨w.heap.size, 1, none⟩ = some (.slice none 0 0) := by rw [cell_of_row w0 _ 1 _ _ _ HK0.out]; rfl
    have f0 := frozen_of_row w0 w.heap.size 0 _ _ HK0.out
    have f1 := frozen_of_row w0 w.heap.size 1 _ _ HK0.out
    go_wp2_with fail
    (try simp only [Exit.inBlock, Exit.then])
    have c0 : ((w0.setCell ⟨w.heap.size, 0, none⟩ (.int .i64 0)).setCell ⟨w.heap.size, 1, none⟩ (.slice none 0 0)).cell? ⟨w.heap.size, 0, none⟩ = some (.int .i64 0) := by
      rw [World.cell?_setCell_other _ _ _ _ (by simp)]
      exact World.cell?_setCell_same _ _ _ y0
    have c1 : ((w0.setCell ⟨w.heap.size, 0, none⟩ (.int .i64 0)).setCell ⟨w.heap.size, 1, none⟩ (.slice none 0 0)).cell? ⟨w.heap.size, 1, none⟩ = some (.slice none 0 0) :=
      World.cell?_setCell_same _ _ _ ((World.cell?_setCell_other _ _ _ _ (by simp)).trans y1)
    refine bodyPost_ret (v := .tuple #[.agg #[.int .i64 0, .slice none 0 0], .bool false]) (by simp [results, Tryz.results24, go_sem, c0, c1]) rfl ⟨none, 0, rfl, World.ownsRow_nil _ _ _ _, ?_⟩
    exact (HB0.out.setCell (Nat.le_refl _) _).setCell (Nat.le_refl _) _

set_option maxRecDepth 100000 in
set_option maxHeartbeats 3200000 in
theorem specRc_yes (W H : Nat) (w : World) (hW : 1 ≤ W ∧ W ≤ 6) (hH : 1 ≤ H ∧ H ≤ 6) :
    Calls Tryz.prog 24 #[.int .i64 W, .int .i64 H] w (RcAt w W H) := by
  have hok : RcOk W H := ⟨⟨by omega, by omega⟩, by omega, by omega⟩
  unfold RcAt
  rw [show rcB W H = (W : Int) from if_pos hok, show rcR W H = List.replicate H ((2 ^ W - 1 : Nat) : Int) by unfold rcR; rw [if_pos hok, Int.toNat_natCast, Int.toNat_natCast], decide_eq_true hok]
  obtain ⟨pw, v, hv, hv63, t1, t2, t3, t4, t5⟩ := rc_facts hW.2
  rw [← hv, List.length_replicate]
  clear hv hok
  obtain ⟨w0, hw0⟩ : ∃ w0, w0 = w.alloc (.cells #[.int .i64 0, .slice none 0 0] 45) := ⟨_, rfl⟩
  have hb0 : Below w.heap.size w w0 := by rw [hw0]; exact (Below.refl _ _).alloc (Nat.le_refl _) _
  have hz0 : w0.heap.size = w.heap.size + 1 := by rw [hw0]; simp
  have hk0 : w0.heap[w.heap.size]? = some (.cells #[.int .i64 0, .slice none 0 0] 45 (0, 0)) := by rw [hw0]; exact heap_alloc_new w _
  have HK0 := Lib.hid hk0
  have HB0 := Lib.hid hb0
  have HW0 := Lib.hid hw0
  clear hb0 hw0 hk0
  go_enter Tryz.func24, Tryz.ntmps24
  go_wp2_with fail
  rw [← HW0.out]
  refine (l1In_yes ((W : Int)) 1 6 _ (by omega) (by omega)).mono ?_
  rintro e w' ⟨rfl, rfl⟩
  go_wp2_with fail
  refine (l1In_yes ((H : Int)) 1 6 _ (by omega) (by omega)).mono ?_
  rintro e w' ⟨rfl, rfl⟩
  obtain ⟨wR, hwR⟩ : ∃ wR, wR = w0.alloc (.cells #[.int .i64 W, .slice none 0 0] 45) := ⟨_, rfl⟩
  have hbR : Below w.heap.size w wR := by rw [hwR]; exact HB0.out.alloc (by omega) _
  have hkR : wR.heap[w.heap.size + 1]? = some (.cells #[.int .i64 W, .slice none 0 0] 45 (0, 0)) := by
    have q := heap_alloc_new w0 (.cells #[.int .i64 W, .slice none 0 0] 45)
    rw [hwR, ← hz0]; exact q
  have hkB : wR.heap[w.heap.size]? = some (.cells #[.int .i64 0, .slice none 0 0] 45 (0, 0)) := by rw [hwR, Below.heap_alloc _ _ _ (by omega)]; exact HK0.out
  have HKR := Lib.hid hkR
  have HKB := Lib.hid hkB
  have HBR := Lib.hid hbR
  have HWR := Lib.hid hwR
  have hzw : w0.heap.size = w.heap.size + 1 := hz0
  clear hbR hkR hkB hwR hz0
  go_wp2_with fail
  rw [← HWR.out]
  clear HWR
  go_loopw [7] (fun i wr => ∃ k : Nat, k ≤ H ∧ i = .int .i64 k ∧ (∃ ad c, wr.heap[w.heap.size + 1]? = some (.cells #[.int .i64 W, .slice ad k c] 45 (0, 0)) ∧ wr.ownsRow (w.heap.size + 2) 3 1 (.slice ad k c) k (ints (List.replicate k (v : Int)))) ∧ wr.heap[w.heap.size]? = some (.cells #[.int .i64 0, .slice none 0 0] 45 (0, 0)) ∧ Below w.heap.size w wr) (fun i _ => H - (intOf i).toNat)
  case atStart => exact ⟨0, Nat.zero_le _, rfl, ⟨none, 0, HKR.out, World.ownsRow_nil _ _ _ _⟩, HKB.out, HBR.out⟩
  case round =>
    obtain ⟨k, hk, rfl, ⟨ad, c, hblk, hown⟩, hbox, hb⟩ := hrel
    have HBLK := Lib.hid hblk
    have HOWN := Lib.hid hown
    have HBOX := Lib.hid hbox
    have HB := Lib.hid hb
    have hszr := hb.size
    have hRlt := lt_of_block hblk
    clear hblk hown hbox hb
    by_cases hlt : k < H
    · have i1 : (k : Int) < (H : Int) := by omega
      have x1 : wr.cell? ⟨w.heap.size + 1, 1, none⟩ = some (.slice ad k c) := by rw [cell_of_row wr _ 1 _ _ _ HBLK.out]; rfl
      have z1 := frozen_of_row wr (w.heap.size + 1) 1 _ _ HBLK.out
      have hbal : Below wr.heap.size wr (wr.alloc (.cells #[.int .i64 v] 3)).drew := ((Below.refl wr.heap.size wr).alloc (Nat.le_refl _) _).drew
      have ka1 := (hbal.cell (p := ⟨w.heap.size + 1, 1, none⟩) hRlt).trans x1
      have ka2 := (hbal.frozen (p := ⟨w.heap.size + 1, 1, none⟩) hRlt).trans z1
      have ka3 := (show (wr.alloc (.cells #[.int .i64 v] 3)).cell? ⟨w.heap.size + 1, 1, none⟩ = some (.slice ad k c) from ka1)
      have ka4 := (show (wr.alloc (.cells #[.int .i64 v] 3)).frozen? ⟨w.heap.size + 1, 1, none⟩ = false from ka2)
      have X1 := Lib.hid x1
      have Z1 := Lib.hid z1
      clear hbal
      have hpush : ∀ (g' cap : Nat) (w2 : World), w2.ownsRow (w.heap.size + 2) 3 1 (.slice (some ⟨g', 0, none⟩) (k + 1) cap) (k + 1) (ints (List.replicate k (v : Int)) ++ (#[Value.int .i64 (v : Int)]).toList) → Below (w.heap.size + 2) wr w2 →
          (∃ ad c, (w2.setCell ⟨w.heap.size + 1, 1, none⟩ (.slice (some ⟨g', 0, none⟩) (k + 1) cap)).heap[w.heap.size + 1]? = some (.cells #[.int .i64 W, .slice ad (k + 1) c] 45 (0, 0)) ∧ (w2.setCell ⟨w.heap.size + 1, 1, none⟩ (.slice (some ⟨g', 0, none⟩) (k + 1) cap)).ownsRow (w.heap.size + 2) 3 1 (.slice ad (k + 1) c) (k + 1) (ints (List.replicate (k + 1) (v : Int)))) ∧
            (w2.setCell ⟨w.heap.size + 1, 1, none⟩ (.slice (some ⟨g', 0, none⟩) (k + 1) cap)).heap[w.heap.size]? = some (.cells #[.int .i64 0, .slice none 0 0] 45 (0, 0)) ∧ Below w.heap.size w (w2.setCell ⟨w.heap.size + 1, 1, none⟩ (.slice (some ⟨g', 0, none⟩) (k + 1) cap)) := by
        intro g' cap w2 q1 q2
        have hR2 := (q2.block (w.heap.size + 1) (by omega)).trans HBLK.out
        have hB2 := (q2.block w.heap.size (by omega)).trans HBOX.out
        refine ⟨⟨_, _, heap_setCell_same w2 (w.heap.size + 1) 1 _ _ _ hR2, ?_⟩, ?_, (HB.out.trans (q2.mono (by omega))).setCell (by show w.heap.size ≤ w.heap.size + 1; omega) _⟩
        · refine ownsRow_setCell_below ?_ (by show w.heap.size + 1 < w.heap.size + 2; omega) _
          rw [List.replicate_succ', ints_append]
          exact q1
        · rw [Below.heap_setCell _ _ _ _ (by show w.heap.size ≠ w.heap.size + 1; omega)]
          exact hB2
      have HPUSH := Lib.hid hpush
      clear hpush
      go_wp2
      go_region_law (refine step_app1 (by rfl) (.tmp 25) (.tmp 29) 35 (by rfl) (w.heap.size + 2) 3 _ 1 8 Tryz.elemInt _ k _ _ _ _ (by rfl) (by rfl) rfl HOWN.out (by rfl) (by simp [Value.oneCell']) (by unfold maxLen; omega) (by omega) (by omega) ?_; intro g' cap w2 q1 q2 q3 q4 q5 q6; have kc2 := (q2.cell (p := ⟨w.heap.size + 1, 1, none⟩) (by first | omega | (simp; done) | (simp; omega))).trans X1.out; have kf2 := (q2.frozen (p := ⟨w.heap.size + 1, 1, none⟩) (by first | omega | (simp; done) | (simp; omega))).trans Z1.out)
      all_goals go_wp2
      all_goals go_roundw
      all_goals (first
        | (show _ < _; simp [intOf]; omega)
        | exact ⟨k + 1, hlt, by go_num, HPUSH.out _ _ _ q1 q2⟩)
    · obtain rfl : k = H := by omega
      have z0 : wr.cell? ⟨w.heap.size + 1, 0, none⟩ = some (.int .i64 W) := by rw [cell_of_row wr _ 0 _ _ _ HBLK.out]; rfl
      have z1 : wr.cell? ⟨w.heap.size + 1, 1, none⟩ = some (.slice ad k c) := by rw [cell_of_row wr _ 1 _ _ _ HBLK.out]; rfl
      have y0 : wr.cell? ⟨w.heap.size, 0, none⟩ = some (.int .i64 0) := by rw [cell_of_row wr _ 0 _ _ _ HBOX.out]; rfl
      have y1 : wr.cell? ⟨w.heap.size, 1, none⟩ = some (.slice none 0 0) := by rw [cell_of_row wr _ 1 _ _ _ HBOX.out]; rfl
      have f0 := frozen_of_row wr w.heap.size 0 _ _ HBOX.out
      have f1 := frozen_of_row wr w.heap.size 1 _ _ HBOX.out
      go_wp2
      have c0 : ((wr.setCell ⟨w.heap.size, 0, none⟩ (.int .i64 W)).setCell ⟨w.heap.size, 1, none⟩ (.slice ad k c)).cell? ⟨w.heap.size, 0, none⟩ = some (.int .i64 W) := by
        rw [World.cell?_setCell_other _ _ _ _ (by simp)]
        exact World.cell?_setCell_same _ _ _ y0
      have c1 : ((wr.setCell ⟨w.heap.size, 0, none⟩ (.int .i64 W)).setCell ⟨w.heap.size, 1, none⟩ (.slice ad k c)).cell? ⟨w.heap.size, 1, none⟩ = some (.slice ad k c) :=
        World.cell?_setCell_same _ _ _ ((World.cell?_setCell_other _ _ _ _ (by simp)).trans y1)
      have ho2 := ownsRow_setCell_below (ownsRow_setCell_below HOWN.out (a := ⟨w.heap.size, 0, none⟩) (by show w.heap.size < w.heap.size + 2; omega) (.int .i64 W)) (a := ⟨w.heap.size, 1, none⟩) (by show w.heap.size < w.heap.size + 2; omega) (.slice ad k c)
      refine bodyPost_ret (v := .tuple #[.agg #[.int .i64 W, .slice ad k c], .bool true]) (by simp [results, Tryz.results24, go_sem, c0, c1]) rfl ⟨_, _, rfl, ownsRow_rebase ho2 (by omega), (HB.out.setCell (Nat.le_refl _) _).setCell (Nat.le_refl _) _⟩

theorem specRc (x y : Int) (w : World) : Calls Tryz.prog 24 #[.int .i64 x, .int .i64 y] w (RcAt w x y) := by
  by_cases h : RcOk x y
  · obtain ⟨⟨h1, h2⟩, h3, h4⟩ := h
    obtain ⟨W, rfl⟩ := Int.eq_ofNat_of_zero_le (by omega : 0 ≤ x)
    obtain ⟨H, rfl⟩ := Int.eq_ofNat_of_zero_le (by omega : 0 ≤ y)
    exact specRc_yes W H w (by omega) (by omega)
  · exact specRc_no x y w h

set_option maxRecDepth 100000 in
set_option maxHeartbeats 3200000 in
theorem implRc_no (x y : Int) (w : World) (h : ¬ RcOk x y) :
    Calls Tryz.prog 29 #[.int .i64 x, .int .i64 y] w (RcAt w x y) := by
  unfold RcAt
  rw [show rcB x y = 0 from if_neg h, show rcR x y = [] from if_neg h, decide_eq_false h]
  obtain ⟨w0, hw0⟩ : ∃ w0, w0 = w.alloc (.cells #[.int .i64 0, .slice none 0 0] 45) := ⟨_, rfl⟩
  have hb0 : Below w.heap.size w w0 := by rw [hw0]; exact (Below.refl _ _).alloc (Nat.le_refl _) _
  have hz0 : w0.heap.size = w.heap.size + 1 := by rw [hw0]; simp
  have hk0 : w0.heap[w.heap.size]? = some (.cells #[.int .i64 0, .slice none 0 0] 45 (0, 0)) := by rw [hw0]; exact heap_alloc_new w _
  have HK0 := Lib.hid hk0
  have HB0 := Lib.hid hb0
  have HW0 := Lib.hid hw0
  clear hb0 hw0 hk0
  by_cases hx : 1 ≤ x ∧ x ≤ 6
  · have hy : ¬ (1 ≤ y ∧ y ≤ 6) := fun q => h ⟨hx, q⟩
    clear h
    go_enter Tryz.func29, Tryz.ntmps29
    go_wp2_with fail
    rw [← HW0.out]
    refine (isSide_yes (x) _ (by omega) (by omega)).mono ?_
    rintro e w' ⟨rfl, rfl⟩
    go_wp2_with fail
    refine (isSide_no (y) _ (by omega)).mono ?_
    rintro e w' ⟨rfl, rfl⟩
    have y0 : w0.cell? ⟨w.heap.size, 0, none⟩ = some (.int .i64 0) := by rw [cell_of_row w0 _ 0 _ _ _ HK0.out]; rfl
    have y1 : w0.cell? ⟨w.heap.size, 1, none⟩ = some (.slice none 0 0) := by rw [cell_of_row w0 _ 1 _ _ _ HK0.out]; rfl
    have f0 := frozen_of_row w0 w.heap.size 0 _ _ HK0.out
    have f1 := frozen_of_row w0 w.heap.size 1 _ _ HK0.out
    go_wp2_with fail
    (try simp only [Exit.inBlock, Exit.then])
    have c0 : ((w0.setCell ⟨w.heap.size, 0, none⟩ (.int .i64 0)).setCell ⟨w.heap.size, 1, none⟩ (.slice none 0 0)).cell? ⟨w.heap.size, 0, none⟩ = some (.int .i64 0) := by
      rw [World.cell?_setCell_other _ _ _ _ (by simp)]
      exact World.cell?_setCell_same _ _ _ y0
    have c1 : ((w0.setCell ⟨w.heap.size, 0, none⟩ (.int .i64 0)).setCell ⟨w.heap.size, 1, none⟩ (.slice none 0 0)).cell? ⟨w.heap.size, 1, none⟩ = some (.slice none 0 0) :=
      World.cell?_setCell_same _ _ _ ((World.cell?_setCell_other _ _ _ _ (by simp)).trans y1)
    refine bodyPost_ret (v := .tuple #[.agg #[.int .i64 0, .slice none 0 0], .bool false]) (by simp [results, Tryz.results29, go_sem, c0, c1]) rfl ⟨none, 0, rfl, World.ownsRow_nil _ _ _ _, ?_⟩
    exact (HB0.out.setCell (Nat.le_refl _) _).setCell (Nat.le_refl _) _
  · clear h
    go_enter Tryz.func29, Tryz.ntmps29
    go_wp2_with fail
    rw [← HW0.out]
    refine (isSide_no (x) _ (by omega)).mono ?_
    rintro e w' ⟨rfl, rfl⟩
    have y0 : w0.cell? ⟨w.heap.size, 0, none⟩ = some (.int .i64 0) := by rw [cell_of_row w0 _ 0 _ _ _ HK0.out]; rfl
    have y1 : w0.cell? ⟨w.heap.size, 1, none⟩ = some (.slice none 0 0) := by rw [cell_of_row w0 _ 1 _ _ _ HK0.out]; rfl
    have f0 := frozen_of_row w0 w.heap.size 0 _ _ HK0.out
    have f1 := frozen_of_row w0 w.heap.size 1 _ _ HK0.out
    go_wp2_with fail
    (try simp only [Exit.inBlock, Exit.then])
    have c0 : ((w0.setCell ⟨w.heap.size, 0, none⟩ (.int .i64 0)).setCell ⟨w.heap.size, 1, none⟩ (.slice none 0 0)).cell? ⟨w.heap.size, 0, none⟩ = some (.int .i64 0) := by
      rw [World.cell?_setCell_other _ _ _ _ (by simp)]
      exact World.cell?_setCell_same _ _ _ y0
    have c1 : ((w0.setCell ⟨w.heap.size, 0, none⟩ (.int .i64 0)).setCell ⟨w.heap.size, 1, none⟩ (.slice none 0 0)).cell? ⟨w.heap.size, 1, none⟩ = some (.slice none 0 0) :=
      World.cell?_setCell_same _ _ _ ((World.cell?_setCell_other _ _ _ _ (by simp)).trans y1)
    refine bodyPost_ret (v := .tuple #[.agg #[.int .i64 0, .slice none 0 0], .bool false]) (by simp [results, Tryz.results29, go_sem, c0, c1]) rfl ⟨none, 0, rfl, World.ownsRow_nil _ _ _ _, ?_⟩
    exact (HB0.out.setCell (Nat.le_refl _) _).setCell (Nat.le_refl _) _

set_option maxRecDepth 100000 in
set_option maxHeartbeats 3200000 in
theorem implRc_yes (W H : Nat) (w : World) (hW : 1 ≤ W ∧ W ≤ 6) (hH : 1 ≤ H ∧ H ≤ 6) :
    Calls Tryz.prog 29 #[.int .i64 W, .int .i64 H] w (RcAt w W H) := by
  have hok : RcOk W H := ⟨⟨by omega, by omega⟩, by omega, by omega⟩
  unfold RcAt
  rw [show rcB W H = (W : Int) from if_pos hok, show rcR W H = List.replicate H ((2 ^ W - 1 : Nat) : Int) by unfold rcR; rw [if_pos hok, Int.toNat_natCast, Int.toNat_natCast], decide_eq_true hok]
  obtain ⟨pw, v, hv, hv63, t1, t2, t3, t4, t5⟩ := rc_facts hW.2
  rw [← hv, List.length_replicate]
  clear hv hok
  obtain ⟨w0, hw0⟩ : ∃ w0, w0 = w.alloc (.cells #[.int .i64 0, .slice none 0 0] 45) := ⟨_, rfl⟩
  have hb0 : Below w.heap.size w w0 := by rw [hw0]; exact (Below.refl _ _).alloc (Nat.le_refl _) _
  have hz0 : w0.heap.size = w.heap.size + 1 := by rw [hw0]; simp
  have hk0 : w0.heap[w.heap.size]? = some (.cells #[.int .i64 0, .slice none 0 0] 45 (0, 0)) := by rw [hw0]; exact heap_alloc_new w _
  have HK0 := Lib.hid hk0
  have HB0 := Lib.hid hb0
  have HW0 := Lib.hid hw0
  clear hb0 hw0 hk0
  go_enter Tryz.func29, Tryz.ntmps29
  go_wp2_with fail
  rw [← HW0.out]
  refine (isSide_yes ((W : Int)) _ (by omega) (by omega)).mono ?_
  rintro e w' ⟨rfl, rfl⟩
  go_wp2_with fail
  refine (isSide_yes ((H : Int)) _ (by omega) (by omega)).mono ?_
  rintro e w' ⟨rfl, rfl⟩
  obtain ⟨wR, hwR⟩ : ∃ wR, wR = w0.alloc (.cells #[.int .i64 W, .slice none 0 0] 45) := ⟨_, rfl⟩
  have hbR : Below w.heap.size w wR := by rw [hwR]; exact HB0.out.alloc (by omega) _
  have hkR : wR.heap[w.heap.size + 1]? = some (.cells #[.int .i64 W, .slice none 0 0] 45 (0, 0)) := by
    have q := heap_alloc_new w0 (.cells #[.int .i64 W, .slice none 0 0] 45)
    rw [hwR, ← hz0]; exact q
  have hkB : wR.heap[w.heap.size]? = some (.cells #[.int .i64 0, .slice none 0 0] 45 (0, 0)) := by rw [hwR, Below.heap_alloc _ _ _ (by omega)]; exact HK0.out
  have HKR := Lib.hid hkR
  have HKB := Lib.hid hkB
  have HBR := Lib.hid hbR
  have HWR := Lib.hid hwR
  have hzw : w0.heap.size = w.heap.size + 1 := hz0
  clear hbR hkR hkB hwR hz0
  go_wp2_with fail
  rw [← HWR.out]
  clear HWR
  go_loopw [19] (fun i wr => ∃ k : Nat, k ≤ H ∧ i = .int .i64 k ∧ (∃ ad c, wr.heap[w.heap.size + 1]? = some (.cells #[.int .i64 W, .slice ad k c] 45 (0, 0)) ∧ wr.ownsRow (w.heap.size + 2) 3 1 (.slice ad k c) k (ints (List.replicate k (v : Int)))) ∧ wr.heap[w.heap.size]? = some (.cells #[.int .i64 0, .slice none 0 0] 45 (0, 0)) ∧ Below w.heap.size w wr) (fun i _ => H - (intOf i).toNat)
  case atStart => exact ⟨0, Nat.zero_le _, rfl, ⟨none, 0, HKR.out, World.ownsRow_nil _ _ _ _⟩, HKB.out, HBR.out⟩
  case round =>
    obtain ⟨k, hk, rfl, ⟨ad, c, hblk, hown⟩, hbox, hb⟩ := hrel
    have HBLK := Lib.hid hblk
    have HOWN := Lib.hid hown
    have HBOX := Lib.hid hbox
    have HB := Lib.hid hb
    have hszr := hb.size
    have hRlt := lt_of_block hblk
    clear hblk hown hbox hb
    by_cases hlt : k < H
    · have i1 : (k : Int) < (H : Int) := by omega
      have x1 : wr.cell? ⟨w.heap.size + 1, 1, none⟩ = some (.slice ad k c) := by rw [cell_of_row wr _ 1 _ _ _ HBLK.out]; rfl
      have z1 := frozen_of_row wr (w.heap.size + 1) 1 _ _ HBLK.out
      have hbal : Below wr.heap.size wr (wr.alloc (.cells #[.int .i64 v] 3)).drew := ((Below.refl wr.heap.size wr).alloc (Nat.le_refl _) _).drew
      have ka1 := (hbal.cell (p := ⟨w.heap.size + 1, 1, none⟩) hRlt).trans x1
      have ka2 := (hbal.frozen (p := ⟨w.heap.size + 1, 1, none⟩) hRlt).trans z1
      have ka3 := (show (wr.alloc (.cells #[.int .i64 v] 3)).cell? ⟨w.heap.size + 1, 1, none⟩ = some (.slice ad k c) from ka1)
      have ka4 := (show (wr.alloc (.cells #[.int .i64 v] 3)).frozen? ⟨w.heap.size + 1, 1, none⟩ = false from ka2)
      have X1 := Lib.hid x1
      have Z1 := Lib.hid z1
      clear hbal
      have hpush : ∀ (g' cap : Nat) (w2 : World), w2.ownsRow (w.heap.size + 2) 3 1 (.slice (some ⟨g', 0, none⟩) (k + 1) cap) (k + 1) (ints (List.replicate k (v : Int)) ++ (#[Value.int .i64 (v : Int)]).toList) → Below (w.heap.size + 2) wr w2 →
          (∃ ad c, (w2.setCell ⟨w.heap.size + 1, 1, none⟩ (.slice (some ⟨g', 0, none⟩) (k + 1) cap)).heap[w.heap.size + 1]? = some (.cells #[.int .i64 W, .slice ad (k + 1) c] 45 (0, 0)) ∧ (w2.setCell ⟨w.heap.size + 1, 1, none⟩ (.slice (some ⟨g', 0, none⟩) (k + 1) cap)).ownsRow (w.heap.size + 2) 3 1 (.slice ad (k + 1) c) (k + 1) (ints (List.replicate (k + 1) (v : Int)))) ∧
            (w2.setCell ⟨w.heap.size + 1, 1, none⟩ (.slice (some ⟨g', 0, none⟩) (k + 1) cap)).heap[w.heap.size]? = some (.cells #[.int .i64 0, .slice none 0 0] 45 (0, 0)) ∧ Below w.heap.size w (w2.setCell ⟨w.heap.size + 1, 1, none⟩ (.slice (some ⟨g', 0, none⟩) (k + 1) cap)) := by
        intro g' cap w2 q1 q2
        have hR2 := (q2.block (w.heap.size + 1) (by omega)).trans HBLK.out
        have hB2 := (q2.block w.heap.size (by omega)).trans HBOX.out
        refine ⟨⟨_, _, heap_setCell_same w2 (w.heap.size + 1) 1 _ _ _ hR2, ?_⟩, ?_, (HB.out.trans (q2.mono (by omega))).setCell (by show w.heap.size ≤ w.heap.size + 1; omega) _⟩
        · refine ownsRow_setCell_below ?_ (by show w.heap.size + 1 < w.heap.size + 2; omega) _
          rw [List.replicate_succ', ints_append]
          exact q1
        · rw [Below.heap_setCell _ _ _ _ (by show w.heap.size ≠ w.heap.size + 1; omega)]
          exact hB2
      have HPUSH := Lib.hid hpush
      clear hpush
      go_wp2
      go_region_law (refine step_app1 (by rfl) (.tmp 22) (.tmp 26) 35 (by rfl) (w.heap.size + 2) 3 _ 1 8 Tryz.elemInt _ k _ _ _ _ (by rfl) (by rfl) rfl HOWN.out (by rfl) (by simp [Value.oneCell']) (by unfold maxLen; omega) (by omega) (by omega) ?_; intro g' cap w2 q1 q2 q3 q4 q5 q6; have kc2 := (q2.cell (p := ⟨w.heap.size + 1, 1, none⟩) (by first | omega | (simp; done) | (simp; omega))).trans X1.out; have kf2 := (q2.frozen (p := ⟨w.heap.size + 1, 1, none⟩) (by first | omega | (simp; done) | (simp; omega))).trans Z1.out)
      all_goals go_wp2
      all_goals go_roundw
      all_goals (first
        | (show _ < _; simp [intOf]; omega)
        | exact ⟨k + 1, hlt, by go_num, HPUSH.out _ _ _ q1 q2⟩)
    · obtain rfl : k = H := by omega
      have z0 : wr.cell? ⟨w.heap.size + 1, 0, none⟩ = some (.int .i64 W) := by rw [cell_of_row wr _ 0 _ _ _ HBLK.out]; rfl
      have z1 : wr.cell? ⟨w.heap.size + 1, 1, none⟩ = some (.slice ad k c) := by rw [cell_of_row wr _ 1 _ _ _ HBLK.out]; rfl
      have y0 : wr.cell? ⟨w.heap.size, 0, none⟩ = some (.int .i64 0) := by rw [cell_of_row wr _ 0 _ _ _ HBOX.out]; rfl
      have y1 : wr.cell? ⟨w.heap.size, 1, none⟩ = some (.slice none 0 0) := by rw [cell_of_row wr _ 1 _ _ _ HBOX.out]; rfl
      have f0 := frozen_of_row wr w.heap.size 0 _ _ HBOX.out
      have f1 := frozen_of_row wr w.heap.size 1 _ _ HBOX.out
      go_wp2
      have c0 : ((wr.setCell ⟨w.heap.size, 0, none⟩ (.int .i64 W)).setCell ⟨w.heap.size, 1, none⟩ (.slice ad k c)).cell? ⟨w.heap.size, 0, none⟩ = some (.int .i64 W) := by
        rw [World.cell?_setCell_other _ _ _ _ (by simp)]
        exact World.cell?_setCell_same _ _ _ y0
      have c1 : ((wr.setCell ⟨w.heap.size, 0, none⟩ (.int .i64 W)).setCell ⟨w.heap.size, 1, none⟩ (.slice ad k c)).cell? ⟨w.heap.size, 1, none⟩ = some (.slice ad k c) :=
        World.cell?_setCell_same _ _ _ ((World.cell?_setCell_other _ _ _ _ (by simp)).trans y1)
      have ho2 := ownsRow_setCell_below (ownsRow_setCell_below HOWN.out (a := ⟨w.heap.size, 0, none⟩) (by show w.heap.size < w.heap.size + 2; omega) (.int .i64 W)) (a := ⟨w.heap.size, 1, none⟩) (by show w.heap.size < w.heap.size + 2; omega) (.slice ad k c)
      refine bodyPost_ret (v := .tuple #[.agg #[.int .i64 W, .slice ad k c], .bool true]) (by simp [results, Tryz.results29, go_sem, c0, c1]) rfl ⟨_, _, rfl, ownsRow_rebase ho2 (by omega), (HB.out.setCell (Nat.le_refl _) _).setCell (Nat.le_refl _) _⟩

theorem implRc (x y : Int) (w : World) : Calls Tryz.prog 29 #[.int .i64 x, .int .i64 y] w (RcAt w x y) := by
  by_cases h : RcOk x y
  · obtain ⟨⟨h1, h2⟩, h3, h4⟩ := h
    obtain ⟨W, rfl⟩ := Int.eq_ofNat_of_zero_le (by omega : 0 ≤ x)
    obtain ⟨H, rfl⟩ := Int.eq_ofNat_of_zero_le (by omega : 0 ≤ y)
    exact implRc_yes W H w (by omega) (by omega)
  · exact implRc_no x y w h
end Go.Proofs.YtjnolbipjampaaaGreatDoor
