/- AllD3: parts laid together: RectOfS, DrawR3, DrawR4. -/
import Derived.Test.YtajmdgcnnipdoaaGreatDoorAllReg
import Derived.Test.YtajmdgcnnipdoaaGreatDoorAllPut0
import Derived.Test.YtajmdgcnnipdoaaGreatDoorAllPl
import Derived.BigRegion
import Derived.StillTailTactics
import Derived.IntWalk
import Derived.Deep.DrawnRows
import Derived.Test.YtajmdgcnnipdoaaGreatDoorAllD1
import Derived.Deep.RegionHeld3
import Derived.Test.YtajmdgcnnipdoaaGreatDoorAllBase

/- RectOfS: the walk of the reference's RectangleOf. -/
namespace Go.Proofs.YtajmdgcnnipdoaaGreatDoor
open Go.RowKit

attribute [local go_sem ↓] Go.wp_at_zero Go.wp_at_succ

/-- Sides of a rectangle on the grid. -/
def RcOk (x y : Int) : Prop := (1 ≤ x ∧ x ≤ 6) ∧ 1 ≤ y ∧ y ≤ 6
instance (x y : Int) : Decidable (RcOk x y) := by unfold RcOk; infer_instance
def rcB (x y : Int) : Int := if RcOk x y then x else 0
def rcR (x y : Int) : List Int := if RcOk x y then List.replicate y.toNat ((2 ^ x.toNat - 1 : Nat) : Int) else []
theorem rcR_length (x y : Int) : (rcR x y).length ≤ 6 := by
  unfold rcR
  split
  · rename_i h
    rw [List.length_replicate]
    have := h.2.2
    omega
  · exact Nat.zero_le _
/-- A result of RectangleOf. -/
def RcAt (w : World) (x y : Int) (e : Ending) (w' : World) : Prop :=
  ∃ b0 d0, e = .returned (.tuple #[.agg #[.int .i64 (rcB x y), .slice b0 (rcR x y).length d0], .bool (decide (RcOk x y))]) ∧ w'.ownsRow w.heap.size 3 1 (.slice b0 (rcR x y).length d0) (rcR x y).length (ints (rcR x y)) ∧ Below w.heap.size w w'
theorem rc_facts {W : Nat} (hW : W ≤ 6) : ∃ pw v : Nat, v = 2 ^ W - 1 ∧ v ≤ 63 ∧ IntKind.i64.wrap (2 ^ W) = (pw : Int) ∧ wrap64 (2 ^ W) = (pw : Int) ∧ (pw : Int) - 1 = (v : Int) ∧ IntKind.i64.wrap (v : Int) = (v : Int) ∧ (W : Int) < 64 := by
  have hp : 2 ^ W ≤ 2 ^ 6 := Nat.pow_le_pow_right (by decide) hW
  have hp0 : 0 < 2 ^ W := Nat.two_pow_pos _
  have h1 : ((2 : Int) ^ W) = ((2 ^ W : Nat) : Int) := by norm_cast
  have h2 : wrap64 ((2 : Int) ^ W) = ((2 ^ W : Nat) : Int) := by rw [h1]; exact wrap_nat (by omega)
  exact ⟨2 ^ W, 2 ^ W - 1, rfl, by omega, by rw [IntWalk.i64_left]; exact h2, h2, by omega, IntWalk.i64_in _ (by omega), by omega⟩

set_option maxRecDepth 100000 in
set_option maxHeartbeats 3200000 in
theorem specRc_no (x y : Int) (w : World) (h : ¬ RcOk x y) :
    Calls Tryz.prog 29 #[.int .i64 x, .int .i64 y] w (RcAt w x y) := by
  unfold RcAt
  rw [show rcB x y = 0 from if_neg h, show rcR x y = [] from if_neg h, decide_eq_false h]
  obtain ⟨w0, hw0⟩ : ∃ w0, w0 = w.alloc (.cells #[.int .i64 0, .slice none 0 0] 26) := ⟨_, rfl⟩
  have hb0 : Below w.heap.size w w0 := by rw [hw0]; exact (Below.refl _ _).alloc (Nat.le_refl _) _
  have hz0 : w0.heap.size = w.heap.size + 1 := by rw [hw0]; simp
  have hk0 : w0.heap[w.heap.size]? = some (.cells #[.int .i64 0, .slice none 0 0] 26 (0, 0)) := by rw [hw0]; exact heap_alloc_new w _
  have HK0 := Lib.hid hk0
  have HB0 := Lib.hid hb0
  have HW0 := Lib.hid hw0
  clear hb0 hw0 hk0
  by_cases hx : 1 ≤ x ∧ x ≤ 6
  · have hy : ¬ (1 ≤ y ∧ y ≤ 6) := fun q => h ⟨hx, q⟩
    clear h
    go_enter Tryz.func29, Tryz.ntmps29
    go_wp2_with fail
    rw [← HW0.out]
    refine (l1In_yes (x) 1 6 _ (by omega) (by omega)).mono ?_
    rintro e w' ⟨rfl, rfl⟩
    go_wp2_with fail
    refine (l1In_no (y) 1 6 _ (by omega)).mono ?_
    rintro e w' ⟨rfl, rfl⟩
    have y0 : w0.cell? ⟨w.heap.size, 0, none⟩ = some (.int .i64 0) := by rw [cell_of_row w0 _ 0 _ _ _ HK0.out]; rfl
    have y1 : w0.cell? ⟨w.heap.size, 1, none⟩ = some (.slice none 0 0) := by rw [cell_of_row w0 _ 1 _ _ _ HK0.out]; rfl
    have f0 := frozen_of_row w0 w.heap.size 0 _ _ HK0.out
    have f1 := frozen_of_row w0 w.heap.size 1 _ _ HK0.out
    go_wp2_with fail
    (try simp only [Exit.inBlock, Exit.then])
    have c0 : ((w0.setCell ⟨w.heap.size, 0, none⟩ (.int .i64 0)).setCell ⟨w.heap.size, 1, none⟩ (.slice none 0 0)).cell? ⟨w.heap.size, 0, none⟩ = some (.int .i64 0) := by
      rw [World.cell?_setCell_other _ _ _ _ (by simp)]
      exact World.cell?_setCell_same _ _ _ y0
    have c1 : ((w0.setCell ⟨w.heap.size, 0, none⟩ (.int .i64 0)).setCell ⟨w.heap.size, 1, none⟩ (.slice none 0 0)).cell? ⟨w.heap.size, 1, none⟩ = some (.slice none 0 0) :=
      World.cell?_setCell_same _ _ _ ((World.cell?_setCell_other _ _ _ _ (by simp)).trans y1)
    refine bodyPost_ret (v := .tuple #[.agg #[.int .i64 0, .slice none 0 0], .bool false]) (by simp [results, Tryz.results29, go_sem, c0, c1]) rfl ⟨none, 0, rfl, World.ownsRow_nil _ _ _ _, ?_⟩
    exact (HB0.out.setCell (Nat.le_refl _) _).setCell (Nat.le_refl _) _
  · clear h
    go_enter Tryz.func29, Tryz.ntmps29
    go_wp2_with fail
    rw [← HW0.out]
    refine (l1In_no (x) 1 6 _ (by omega)).mono ?_
    rintro e w' ⟨rfl, rfl⟩
    have y0 : w0.cell? ⟨w.heap.size, 0, none⟩ = some (.int .i64 0) := by rw [cell_of_row w0 _ 0 _ _ _ HK0.out]; rfl
    have y1 : w0.cell? ⟨w.heap.size, 1, none⟩ = some (.slice none 0 0) := by rw [cell_of_row w0 _ 1 _ _ _ HK0.out]; rfl
    have f0 := frozen_of_row w0 w.heap.size 0 _ _ HK0.out
    have f1 := frozen_of_row w0 w.heap.size 1 _ _ HK0.out
    go_wp2_with fail
    (try simp only [Exit.inBlock, Exit.then])
    have c0 : ((w0.setCell ⟨w.heap.size, 0, none⟩ (.int .i64 0)).setCell ⟨w.heap.size, 1, none⟩ (.slice none 0 0)).cell? ⟨w.heap.size, 0, none⟩ = some (.int .i64 0) := by
      rw [World.cell?_setCell_other _ _ _ _ (by simp)]
      exact World.cell?_setCell_same _ _ _ y0
    have c1 : ((w0.setCell ⟨w.heap.size, 0, none⟩ (.int .i64 0)).setCell ⟨w.heap.size, 1, none⟩ (.slice none 0 0)).cell? ⟨w.heap.size, 1, none⟩ = some (.slice none 0 0) :=
      World.cell?_setCell_same _ _ _ ((World.cell?_setCell_other _ _ _ _ (by simp)).trans y1)
    refine bodyPost_ret (v := .tuple #[.agg #[.int .i64 0, .slice none 0 0], .bool false]) (by simp [results, Tryz.results29, go_sem, c0, c1]) rfl ⟨none, 0, rfl, World.ownsRow_nil _ _ _ _, ?_⟩
    exact (HB0.out.setCell (Nat.le_refl _) _).setCell (Nat.le_refl _) _

set_option maxRecDepth 100000 in
set_option maxHeartbeats 3200000 in
theorem specRc_yes (W H : Nat) (w : World) (hW : 1 ≤ W ∧ W ≤ 6) (hH : 1 ≤ H ∧ H ≤ 6) :
    Calls Tryz.prog 29 #[.int .i64 W, .int .i64 H] w (RcAt w W H) := by
  have hok : RcOk W H := ⟨⟨by omega, by omega⟩, by omega, by omega⟩
  unfold RcAt
  rw [show rcB W H = (W : Int) from if_pos hok, show rcR W H = List.replicate H ((2 ^ W - 1 : Nat) : Int) by unfold rcR; rw [if_pos hok, Int.toNat_natCast, Int.toNat_natCast], decide_eq_true hok]
  obtain ⟨pw, v, hv, hv63, t1, t2, t3, t4, t5⟩ := rc_facts hW.2
  rw [← hv, List.length_replicate]
  clear hv hok
  obtain ⟨w0, hw0⟩ : ∃ w0, w0 = w.alloc (.cells #[.int .i64 0, .slice none 0 0] 26) := ⟨_, rfl⟩
  have hb0 : Below w.heap.size w w0 := by rw [hw0]; exact (Below.refl _ _).alloc (Nat.le_refl _) _
  have hz0 : w0.heap.size = w.heap.size + 1 := by rw [hw0]; simp
  have hk0 : w0.heap[w.heap.size]? = some (.cells #[.int .i64 0, .slice none 0 0] 26 (0, 0)) := by rw [hw0]; exact heap_alloc_new w _
  have HK0 := Lib.hid hk0
  have HB0 := Lib.hid hb0
  have HW0 := Lib.hid hw0
  clear hb0 hw0 hk0
  go_enter Tryz.func29, Tryz.ntmps29
  go_wp2_with fail
  rw [← HW0.out]
  refine (l1In_yes ((W : Int)) 1 6 _ (by omega) (by omega)).mono ?_
  rintro e w' ⟨rfl, rfl⟩
  go_wp2_with fail
  refine (l1In_yes ((H : Int)) 1 6 _ (by omega) (by omega)).mono ?_
  rintro e w' ⟨rfl, rfl⟩
  obtain ⟨wR, hwR⟩ : ∃ wR, wR = w0.alloc (.cells #[.int .i64 W, .slice none 0 0] 26) := ⟨_, rfl⟩
  have hbR : Below w.heap.size w wR := by rw [hwR]; exact HB0.out.alloc (by omega) _
  have hkR : wR.heap[w.heap.size + 1]? = some (.cells #[.int .i64 W, .slice none 0 0] 26 (0, 0)) := by
    have q := heap_alloc_new w0 (.cells #[.int .i64 W, .slice none 0 0] 26)
    rw [hwR, ← hz0]; exact q
  have hkB : wR.heap[w.heap.size]? = some (.cells #[.int .i64 0, .slice none 0 0] 26 (0, 0)) := by rw [hwR, Below.heap_alloc _ _ _ (by omega)]; exact HK0.out
  have HKR := Lib.hid hkR
  have HKB := Lib.hid hkB
  have HBR := Lib.hid hbR
  have HWR := Lib.hid hwR
  have hzw : w0.heap.size = w.heap.size + 1 := hz0
  clear hbR hkR hkB hwR hz0
  go_wp2_with fail
  rw [← HWR.out]
  clear HWR
  go_loopw [7] (fun i wr => ∃ k : Nat, k ≤ H ∧ i = .int .i64 k ∧ (∃ ad c, wr.heap[w.heap.size + 1]? = some (.cells #[.int .i64 W, .slice ad k c] 26 (0, 0)) ∧ wr.ownsRow (w.heap.size + 2) 3 1 (.slice ad k c) k (ints (List.replicate k (v : Int)))) ∧ wr.heap[w.heap.size]? = some (.cells #[.int .i64 0, .slice none 0 0] 26 (0, 0)) ∧ Below w.heap.size w wr) (fun i _ => H - (intOf i).toNat)
  case atStart => exact ⟨0, Nat.zero_le _, rfl, ⟨none, 0, HKR.out, World.ownsRow_nil _ _ _ _⟩, HKB.out, HBR.out⟩
  case round =>
    obtain ⟨k, hk, rfl, ⟨ad, c, hblk, hown⟩, hbox, hb⟩ := hrel
    have HBLK := Lib.hid hblk
    have HOWN := Lib.hid hown
    have HBOX := Lib.hid hbox
    have HB := Lib.hid hb
    have hszr := hb.size
    have hRlt := lt_of_block hblk
    clear hblk hown hbox hb
    by_cases hlt : k < H
    · have i1 : (k : Int) < (H : Int) := by omega
      have x1 : wr.cell? ⟨w.heap.size + 1, 1, none⟩ = some (.slice ad k c) := by rw [cell_of_row wr _ 1 _ _ _ HBLK.out]; rfl
      have z1 := frozen_of_row wr (w.heap.size + 1) 1 _ _ HBLK.out
      have hbal : Below wr.heap.size wr (wr.alloc (.cells #[.int .i64 v] 3)).drew := ((Below.refl wr.heap.size wr).alloc (Nat.le_refl _) _).drew
      have ka1 := (hbal.cell (p := ⟨w.heap.size + 1, 1, none⟩) hRlt).trans x1
      have ka2 := (hbal.frozen (p := ⟨w.heap.size + 1, 1, none⟩) hRlt).trans z1
      have ka3 := (show (wr.alloc (.cells #[.int .i64 v] 3)).cell? ⟨w.heap.size + 1, 1, none⟩ = some (.slice ad k c) from ka1)
      have ka4 := (show (wr.alloc (.cells #[.int .i64 v] 3)).frozen? ⟨w.heap.size + 1, 1, none⟩ = false from ka2)
      have X1 := Lib.hid x1
      have Z1 := Lib.hid z1
      clear hbal
      have hpush : ∀ (g' cap : Nat) (w2 : World), w2.ownsRow (w.heap.size + 2) 3 1 (.slice (some ⟨g', 0, none⟩) (k + 1) cap) (k + 1) (ints (List.replicate k (v : Int)) ++ (#[Value.int .i64 (v : Int)]).toList) → Below (w.heap.size + 2) wr w2 →
          (∃ ad c, (w2.setCell ⟨w.heap.size + 1, 1, none⟩ (.slice (some ⟨g', 0, none⟩) (k + 1) cap)).heap[w.heap.size + 1]? = some (.cells #[.int .i64 W, .slice ad (k + 1) c] 26 (0, 0)) ∧ (w2.setCell ⟨w.heap.size + 1, 1, none⟩ (.slice (some ⟨g', 0, none⟩) (k + 1) cap)).ownsRow (w.heap.size + 2) 3 1 (.slice ad (k + 1) c) (k + 1) (ints (List.replicate (k + 1) (v : Int)))) ∧
            (w2.setCell ⟨w.heap.size + 1, 1, none⟩ (.slice (some ⟨g', 0, none⟩) (k + 1) cap)).heap[w.heap.size]? = some (.cells #[.int .i64 0, .slice none 0 0] 26 (0, 0)) ∧ Below w.heap.size w (w2.setCell ⟨w.heap.size + 1, 1, none⟩ (.slice (some ⟨g', 0, none⟩) (k + 1) cap)) := by
        intro g' cap w2 q1 q2
        have hR2 := (q2.block (w.heap.size + 1) (by omega)).trans HBLK.out
        have hB2 := (q2.block w.heap.size (by omega)).trans HBOX.out
        refine ⟨⟨_, _, heap_setCell_same w2 (w.heap.size + 1) 1 _ _ _ hR2, ?_⟩, ?_, (HB.out.trans (q2.mono (by omega))).setCell (by show w.heap.size ≤ w.heap.size + 1; omega) _⟩
        · refine ownsRow_setCell_below ?_ (by show w.heap.size + 1 < w.heap.size + 2; omega) _
          rw [List.replicate_succ', ints_append]
          exact q1
        · rw [Below.heap_setCell _ _ _ _ (by show w.heap.size ≠ w.heap.size + 1; omega)]
          exact hB2
      have HPUSH := Lib.hid hpush
      clear hpush
      go_wp2
      go_region_law (refine step_app1 (by rfl) (.tmp 25) (.tmp 29) 24 (by rfl) (w.heap.size + 2) 3 _ 1 8 Tryz.elemInt _ k _ _ _ _ (by rfl) (by rfl) rfl HOWN.out (by rfl) (by simp [Value.oneCell']) (by unfold maxLen; omega) (by omega) (by omega) ?_; intro g' cap w2 q1 q2 q3 q4 q5 q6; have kc2 := (q2.cell (p := ⟨w.heap.size + 1, 1, none⟩) (by first | omega | (simp; done) | (simp; omega))).trans X1.out; have kf2 := (q2.frozen (p := ⟨w.heap.size + 1, 1, none⟩) (by first | omega | (simp; done) | (simp; omega))).trans Z1.out)
      all_goals go_wp2
      all_goals go_roundw
      all_goals (first
        | (show _ < _; simp [intOf]; omega)
        | exact ⟨k + 1, hlt, by go_num, HPUSH.out _ _ _ q1 q2⟩)
    · obtain rfl : k = H := by omega
      have z0 : wr.cell? ⟨w.heap.size + 1, 0, none⟩ = some (.int .i64 W) := by rw [cell_of_row wr _ 0 _ _ _ HBLK.out]; rfl
      have z1 : wr.cell? ⟨w.heap.size + 1, 1, none⟩ = some (.slice ad k c) := by rw [cell_of_row wr _ 1 _ _ _ HBLK.out]; rfl
      have y0 : wr.cell? ⟨w.heap.size, 0, none⟩ = some (.int .i64 0) := by rw [cell_of_row wr _ 0 _ _ _ HBOX.out]; rfl
      have y1 : wr.cell? ⟨w.heap.size, 1, none⟩ = some (.slice none 0 0) := by rw [cell_of_row wr _ 1 _ _ _ HBOX.out]; rfl
      have f0 := frozen_of_row wr w.heap.size 0 _ _ HBOX.out
      have f1 := frozen_of_row wr w.heap.size 1 _ _ HBOX.out
      go_wp2
      have c0 : ((wr.setCell ⟨w.heap.size, 0, none⟩ (.int .i64 W)).setCell ⟨w.heap.size, 1, none⟩ (.slice ad k c)).cell? ⟨w.heap.size, 0, none⟩ = some (.int .i64 W) := by
        rw [World.cell?_setCell_other _ _ _ _ (by simp)]
        exact World.cell?_setCell_same _ _ _ y0
      have c1 : ((wr.setCell ⟨w.heap.size, 0, none⟩ (.int .i64 W)).setCell ⟨w.heap.size, 1, none⟩ (.slice ad k c)).cell? ⟨w.heap.size, 1, none⟩ = some (.slice ad k c) :=
        World.cell?_setCell_same _ _ _ ((World.cell?_setCell_other _ _ _ _ (by simp)).trans y1)
      have ho2 := ownsRow_setCell_below (ownsRow_setCell_below HOWN.out (a := ⟨w.heap.size, 0, none⟩) (by show w.heap.size < w.heap.size + 2; omega) (.int .i64 W)) (a := ⟨w.heap.size, 1, none⟩) (by show w.heap.size < w.heap.size + 2; omega) (.slice ad k c)
      refine bodyPost_ret (v := .tuple #[.agg #[.int .i64 W, .slice ad k c], .bool true]) (by simp [results, Tryz.results29, go_sem, c0, c1]) rfl ⟨_, _, rfl, ownsRow_rebase ho2 (by omega), (HB.out.setCell (Nat.le_refl _) _).setCell (Nat.le_refl _) _⟩

theorem specRc (x y : Int) (w : World) : Calls Tryz.prog 29 #[.int .i64 x, .int .i64 y] w (RcAt w x y) := by
  by_cases h : RcOk x y
  · obtain ⟨⟨h1, h2⟩, h3, h4⟩ := h
    obtain ⟨W, rfl⟩ := Int.eq_ofNat_of_zero_le (by omega : 0 ≤ x)
    obtain ⟨H, rfl⟩ := Int.eq_ofNat_of_zero_le (by omega : 0 ≤ y)
    exact specRc_yes W H w (by omega) (by omega)
  · exact specRc_no x y w h

end Go.Proofs.YtajmdgcnnipdoaaGreatDoor

/- DrawR3: l6Draw: a right region, whichever. -/
namespace Go.Proofs.YtajmdgcnnipdoaaGreatDoor
open Go.RowKit

attribute [local go_sem ↓] Go.wp_at_zero Go.wp_at_succ

/-- The two cells of a region's box. -/
def BoxAt (w : World) (b : Nat) (v0 v1 : Value) : Prop := w.cell? ⟨b, 0, none⟩ = some v0 ∧ w.cell? ⟨b, 1, none⟩ = some v1 ∧ w.frozen? ⟨b, 0, none⟩ = false ∧ w.frozen? ⟨b, 1, none⟩ = false
theorem boxAt {w : World} {b : Nat} {v0 v1 : Value} (h : w.heap[b]? = some (.cells #[v0, v1] 26 (0, 0))) : BoxAt w b v0 v1 :=
  ⟨by rw [cell_of_row w _ 0 _ _ _ h]; rfl, by rw [cell_of_row w _ 1 _ _ _ h]; rfl, frozen_of_row w b 0 _ _ h, frozen_of_row w b 1 _ _ h⟩
theorem box_store {w : World} {b : Nat} {p q : Value} (h : w.heap[b]? = some (.cells #[p, q] 26 (0, 0))) (v0 v1 : Value) : ((w.setCell ⟨b, 0, none⟩ v0).setCell ⟨b, 1, none⟩ v1).heap[b]? = some (.cells #[v0, v1] 26 (0, 0)) :=
  heap_setCell_same (w.setCell ⟨b, 0, none⟩ v0) b 1 _ _ v1 (heap_setCell_same w b 0 _ _ v0 h)
theorem box_below {w : World} {B b : Nat} (hB : B ≤ b) (v0 v1 : Value) : Below B w ((w.setCell ⟨b, 0, none⟩ v0).setCell ⟨b, 1, none⟩ v1) :=
  ((Below.refl B w).setCell (by show B ≤ b; exact hB) _).setCell (by show B ≤ b; exact hB) _
theorem reg_rc {W H : Nat} (hW : 1 ≤ W ∧ W ≤ 6) (hH : 1 ≤ H ∧ H ≤ 6) : Reg (W : Int) (rcR W H) ∧ RcOk W H ∧ rcB W H = (W : Int) := by
  have hok : RcOk W H := ⟨⟨by omega, by omega⟩, by omega, by omega⟩
  have hR : rcR W H = List.replicate H ((2 ^ W - 1 : Nat) : Int) := by unfold rcR; rw [if_pos hok, Int.toNat_natCast, Int.toNat_natCast]
  refine ⟨⟨⟨by omega, by omega⟩, by rw [hR, List.length_replicate]; exact hH, fun x hx => ?_⟩, hok, if_pos hok⟩
  rw [hR] at hx
  rw [List.eq_of_mem_replicate hx, Int.toNat_natCast]
  have h1 : ((2 : Int) ^ W) = ((2 ^ W : Nat) : Int) := by norm_cast
  have h2 := Nat.two_pow_pos W
  rw [h1]
  generalize (2 : Nat) ^ W = p at h2
  omega

set_option maxRecDepth 100000 in
set_option maxHeartbeats 6400000 in
theorem l6Draw_any (g M : Nat) (bs : List Nat) (w : World) (hc : Curs w g bs) (hM : 1 ≤ M ∧ M ≤ 5) :
    Calls Tryz.prog 147 #[.pointer (some ⟨g, 0, none⟩), .int .i64 M] w fun e w' => ∃ (B : Nat) (a : Option Addr) (c : Nat) (xs : List Int), e = .returned (.agg #[.int .i64 B, .slice a xs.length c]) ∧ Reg (B : Int) xs ∧ w'.ownsRow w.heap.size 3 1 (.slice a xs.length c) xs.length (ints xs) ∧ Curs w' g bs ∧ w.grownBy w' (some g) := by
  have hgw := hc.lt
  have hbA : Below w.heap.size w (w.alloc (.cells #[.int .i64 0, .slice none 0 0] 26)) := (Below.refl _ _).alloc (Nat.le_refl _) _
  have hzA : (w.alloc (.cells #[.int .i64 0, .slice none 0 0] 26)).heap.size = w.heap.size + 1 := by simp
  have hkA : (w.alloc (.cells #[.int .i64 0, .slice none 0 0] 26)).heap[w.heap.size]? = some (.cells #[.int .i64 0, .slice none 0 0] 26 (0, 0)) := heap_alloc_new w _
  have HCA := Lib.hid (hc.below hbA hgw)
  have HGA := Lib.hid (grown_any (row := some g) hbA)
  clear hc hbA
  go_enter Tryz.func147, Tryz.ntmps147
  go_upto_region 1 with (fail)
  generalize w.alloc (.cells #[.int .i64 0, .slice none 0 0] 26) = wA at hzA hkA HCA HGA ⊢
  have HD := Lib.hid (drawBelow g bs M wA HCA.out (by omega))
  go_wp2_with fail
  refine HD.out.mono ?_
  rintro e w1 ⟨W0, rfl, hW0, hc1, hg1⟩
  obtain ⟨W, hW⟩ : ∃ W : Nat, W = 1 + W0 := ⟨_, rfl⟩
  have eW : (1 : Int) + (W0 : Int) = (W : Int) := by omega
  have wW : IntKind.i64.wrap (W : Int) = (W : Int) := IntWalk.i64_in _ (by omega)
  have hW6 : 1 ≤ W ∧ W ≤ 5 := by omega
  have hk1 : w1.heap[w.heap.size]? = some (.cells #[.int .i64 0, .slice none 0 0] 26 (0, 0)) := (hg1.block w.heap.size (by omega) (fun q => by cases q; omega)).trans hkA
  have HG1 := Lib.hid (grownBy_trans HGA.out hg1)
  have HD1 := Lib.hid (drawBelow g bs M w1 hc1 (by omega))
  have hs1 : w.heap.size + 1 ≤ w1.heap.size := by have := hg1.size; omega
  clear hc1 hg1 hkA hW
  go_wp2_with fail
  refine HD1.out.mono ?_
  rintro e w2 ⟨H0, rfl, hH0, hc2, hg2⟩
  obtain ⟨H, hH⟩ : ∃ H : Nat, H = 1 + H0 := ⟨_, rfl⟩
  have eH : (1 : Int) + (H0 : Int) = (H : Int) := by omega
  have wH : IntKind.i64.wrap (H : Int) = (H : Int) := IntWalk.i64_in _ (by omega)
  have hk2 : w2.heap[w.heap.size]? = some (.cells #[.int .i64 0, .slice none 0 0] 26 (0, 0)) := (hg2.block w.heap.size (by omega) (fun q => by cases q; omega)).trans hk1
  have HG2 := Lib.hid (grownBy_trans HG1.out hg2)
  have HC2 := Lib.hid hc2
  have hs2 : w.heap.size + 1 ≤ w2.heap.size := by have := hg2.size; omega
  obtain ⟨hreg, hok, hrb⟩ := reg_rc (W := W) (H := H) (by omega) (by omega)
  have hrc := specRc W H w2
  unfold RcAt at hrc
  rw [hrb, decide_eq_true hok] at hrc
  have HRC := Lib.hid hrc
  clear hc2 hg2 hk1 hH hok hrb hrc
  generalize rcR W H = xs0 at hreg HRC
  have HREG0 := Lib.hid hreg
  clear hreg
  go_wp2_with fail
  refine HRC.out.mono ?_
  rintro e w3 ⟨a3, c3, rfl, ho3, hb3⟩
  have hk3 := (hb3.block w.heap.size (by omega)).trans hk2
  have hs3 : w.heap.size + 1 ≤ w3.heap.size := by have := hb3.size; omega
  have hb4 : Below w3.heap.size w3 (w3.alloc (.cells #[.int .i64 W, .slice a3 xs0.length c3] 26)) := (Below.refl _ _).alloc (Nat.le_refl _) _
  have hk4 : (w3.alloc (.cells #[.int .i64 W, .slice a3 xs0.length c3] 26)).heap[w3.heap.size]? = some (.cells #[.int .i64 W, .slice a3 xs0.length c3] 26 (0, 0)) := heap_alloc_new w3 _
  have hk4b := (hb4.block w.heap.size (by omega)).trans hk3
  have hz4 : (w3.alloc (.cells #[.int .i64 W, .slice a3 xs0.length c3] 26)).heap.size = w3.heap.size + 1 := by simp
  have HO4 := Lib.hid (ownsRow_far_below (ownsRow_rebase ho3 (show w.heap.size + 1 ≤ w2.heap.size by omega)) hb4 (Nat.le_refl _))
  have HC4 := Lib.hid ((HC2.out.below hb3 (by omega)).below hb4 (by omega))
  have HG4 := Lib.hid (grown_then HG2.out ((hb3.trans (hb4.mono hb3.size)).mono (by omega)))
  clear ho3 hb3 hb4 hk3 hk2
  go_upto_region 3 with (fail)
  generalize w3.alloc (.cells #[.int .i64 W, .slice a3 xs0.length c3] 26) = w4 at hk4 hk4b hz4 HO4 HC4 HG4 ⊢
  have HD4 := Lib.hid (drawBelow g bs 3 w4 HC4.out (by decide))
  go_wp2_with fail
  refine HD4.out.mono ?_
  rintro e w5 ⟨n0, rfl, hn0, hc5, hg5⟩
  have hgb : g < w.heap.size + 1 := by omega
  have HK5 := Lib.hid ((hg5.block w3.heap.size (by omega) (fun q => by cases q; omega)).trans hk4)
  have HK5b := Lib.hid ((hg5.block w.heap.size (by omega) (fun q => by cases q; omega)).trans hk4b)
  have HO5 := Lib.hid (own_grown HO4.out hg5 hgb)
  have HC5 := Lib.hid hc5
  have HG5 := Lib.hid (grownBy_trans HG4.out hg5)
  clear hc5 hg5 hk4 hk4b
  go_wp2
  go_loopw [8] (fun nv wr => ∃ (m : Nat) (xs : List Int), m ≤ 2 ∧ nv = .int .i64 m ∧ Reg (W : Int) xs ∧ (∃ a c, wr.heap[w3.heap.size]? = some (.cells #[.int .i64 W, .slice a xs.length c] 26 (0, 0)) ∧ wr.ownsRow (w.heap.size + 1) 3 1 (.slice a xs.length c) xs.length (ints xs)) ∧ wr.heap[w.heap.size]? = some (.cells #[.int .i64 0, .slice none 0 0] 26 (0, 0)) ∧ Curs wr g bs ∧ w.grownBy wr (some g)) (fun nv _ => (intOf nv).toNat)
  case atStart => exact ⟨n0, xs0, by omega, rfl, HREG0.out, ⟨a3, c3, HK5.out, HO5.out⟩, HK5b.out, HC5.out, HG5.out⟩
  case round =>
    obtain ⟨m, xs, hm, rfl, hreg, ⟨a, c, hk, ho⟩, hkb, hcr, hgr⟩ := hrel
    have HREG := Lib.hid hreg
    have HK := Lib.hid hk
    have HKB := Lib.hid hkb
    have HO := Lib.hid ho
    have HCR := Lib.hid hcr
    have HGR := Lib.hid hgr
    have hszr : w.heap.size ≤ wr.heap.size := hgr.size
    have hlx : 1 ≤ xs.length ∧ xs.length ≤ 6 := hreg.2.1
    have hlt3 := lt_of_block hk
    clear hreg hk hkb ho hcr hgr
    by_cases h0 : 0 < m
    · have hd : decide (0 < m) = true := decide_eq_true h0
      have hd2 : decide ((0 : Int) < (m : Int)) = true := decide_eq_true (by omega)
      obtain ⟨p, rfl⟩ : ∃ p, m = p + 1 := ⟨m - 1, by omega⟩
      have HD6 := Lib.hid (drawBelow g bs W wr HCR.out (by omega))
      have x0 := (boxAt HK.out).1
      go_wp2_with fail
      refine HD6.out.mono ?_
      rintro e w6 ⟨x, rfl, hx, hc6, hg6⟩
      have HK6 := Lib.hid ((hg6.block w3.heap.size hlt3 (fun q => by cases q; omega)).trans HK.out)
      have HKB6 := Lib.hid ((hg6.block w.heap.size (lt_of_block HKB.out) (fun q => by cases q; omega)).trans HKB.out)
      have HO6 := Lib.hid (own_grown HO.out hg6 hgb)
      have HC6 := Lib.hid hc6
      have HG6 := Lib.hid (grownBy_trans HGR.out hg6)
      have hsz6 : w.heap.size ≤ w6.heap.size := HG6.out.size
      clear hc6 hg6 x0
      obtain ⟨y0, y1, z0, z1⟩ := boxAt HK6.out
      have HD7 := Lib.hid (drawBelow g bs xs.length w6.drew (HC6.out.below (Below.refl _ _).drew HC6.out.lt) (by omega))
      have HO6d := Lib.hid (show w6.drew.ownsRow (w.heap.size + 1) 3 1 (.slice a xs.length c) xs.length (ints xs) from HO6.out)
      have KA := (show BoxAt w6.drew w3.heap.size (.int .i64 W) (.slice a xs.length c) from boxAt HK6.out)
      go_wp2
      obtain ⟨ka0, ka1, ka2, ka3⟩ := KA
      go_region_with (first
        | (go_at_call 90; refine HD7.out.mono ?_; rintro e w7 ⟨y, rfl, hy, hc7, hg7⟩; have HK7 := Lib.hid ((hg7.block w3.heap.size (lt_of_block HK6.out) (fun q => by cases q; omega)).trans HK6.out); obtain ⟨k70, k71, k72, k73⟩ := boxAt HK7.out)
        | (go_at_call 166; refine (remove_any W x y a c xs w7 HREG.out hx hy (rowNilCap HO6.out) (ownsRow_cellsAt (own_grown HO6d.out hg7 hgb))).mono ?_; rintro e w8 ⟨a8, c8, xs8, b8, rfl, hreg8, hl8, ho8, hb8⟩; have HK8 := Lib.hid ((hb8.block w3.heap.size (lt_of_block HK7.out)).trans HK7.out); obtain ⟨k80, k81, k82, k83⟩ := boxAt HK8.out))
      all_goals have hz7 : w.heap.size + 1 ≤ w7.heap.size := (by have := lt_of_block HK7.out; omega)
      all_goals have hlb := lt_of_block HKB6.out
      all_goals have hbx : Below (w.heap.size + 1) w8 ((w8.setCell ⟨w3.heap.size, 0, none⟩ (.int .i64 W)).setCell ⟨w3.heap.size, 1, none⟩ (.slice a8 xs8.length c8)) := box_below hs3 _ _
      all_goals have h78 : Below w7.heap.size w7 w8 := hb8
      all_goals have hkb8 : w8.heap[w.heap.size]? = some (.cells #[.int .i64 0, .slice none 0 0] 26 (0, 0)) := (h78.block w.heap.size (by omega)).trans ((hg7.block w.heap.size hlb (fun q => by cases q; omega)).trans HKB6.out)
      all_goals have FIN := Lib.hid (⟨p, xs8, by omega, rfl, hreg8, ⟨a8, c8, box_store HK8.out _ _, ownsRow_rebase (ownsRow_setCell_below (ownsRow_setCell_below ho8 (a := ⟨w3.heap.size, 0, none⟩) (lt_of_block HK7.out) (.int .i64 W)) (a := ⟨w3.heap.size, 1, none⟩) (lt_of_block HK7.out) (.slice a8 xs8.length c8)) hz7⟩, (hbx.block w.heap.size (by omega)).trans hkb8, ((hc7.below h78 hc7.lt).below hbx (by omega)), grown_then (grown_then (grownBy_trans (grownBy_trans HG6.out (grownBy_drew w6 (some g))) hg7) (h78.mono (by omega))) (hbx.mono (by omega))⟩ : ∃ (m : Nat) (xs : List Int), m ≤ 2 ∧ Value.int .i64 (p : Int) = .int .i64 m ∧ Reg (W : Int) xs ∧ (∃ a c, ((w8.setCell ⟨w3.heap.size, 0, none⟩ (.int .i64 W)).setCell ⟨w3.heap.size, 1, none⟩ (.slice a8 xs8.length c8)).heap[w3.heap.size]? = some (.cells #[.int .i64 W, .slice a xs.length c] 26 (0, 0)) ∧ ((w8.setCell ⟨w3.heap.size, 0, none⟩ (.int .i64 W)).setCell ⟨w3.heap.size, 1, none⟩ (.slice a8 xs8.length c8)).ownsRow (w.heap.size + 1) 3 1 (.slice a xs.length c) xs.length (ints xs)) ∧ ((w8.setCell ⟨w3.heap.size, 0, none⟩ (.int .i64 W)).setCell ⟨w3.heap.size, 1, none⟩ (.slice a8 xs8.length c8)).heap[w.heap.size]? = some (.cells #[.int .i64 0, .slice none 0 0] 26 (0, 0)) ∧ Curs ((w8.setCell ⟨w3.heap.size, 0, none⟩ (.int .i64 W)).setCell ⟨w3.heap.size, 1, none⟩ (.slice a8 xs8.length c8)) g bs ∧ w.grownBy ((w8.setCell ⟨w3.heap.size, 0, none⟩ (.int .i64 W)).setCell ⟨w3.heap.size, 1, none⟩ (.slice a8 xs8.length c8)) (some g))
      all_goals rw [hl8] at FIN
      all_goals clear hbx h78 hkb8 ho8 hb8 hreg8 hc7 hg7
      all_goals go_wp2
      all_goals go_roundw
      all_goals (first
        | (show _ < _; simp [intOf]; done)
        | (show _ < _; simp [intOf]; omega)
        | (obtain ⟨m, xs', q1, q2, q3, q4⟩ := FIN.out; exact ⟨m, xs', q1, by rw [← q2], q3, q4⟩))
    · obtain rfl : m = 0 := by omega
      have hd : decide (0 < (0 : Nat)) = false := rfl
      obtain ⟨y0, y1, z0, z1⟩ := boxAt HK.out
      obtain ⟨u0, u1, f0, f1⟩ := boxAt HKB.out
      have hbx : Below w.heap.size wr ((wr.setCell ⟨w.heap.size, 0, none⟩ (.int .i64 W)).setCell ⟨w.heap.size, 1, none⟩ (.slice a xs.length c)) := box_below (Nat.le_refl _) _ _
      have ho2 := Lib.hid (ownsRow_rebase (base' := w.heap.size) (ownsRow_setCell_below (ownsRow_setCell_below HO.out (a := ⟨w.heap.size, 0, none⟩) (by show w.heap.size < w.heap.size + 1; omega) (.int .i64 W)) (a := ⟨w.heap.size, 1, none⟩) (by show w.heap.size < w.heap.size + 1; omega) (.slice a xs.length c)) (by omega))
      have HBX := Lib.hid hbx
      clear hbx
      go_wp2
      have e0 : ((wr.setCell ⟨w.heap.size, 0, none⟩ (.int .i64 W)).setCell ⟨w.heap.size, 1, none⟩ (.slice a xs.length c)).cell? ⟨w.heap.size, 0, none⟩ = some (.int .i64 W) := by rw [World.cell?_setCell_other _ _ _ _ (by simp)]; exact World.cell?_setCell_same _ _ _ u0
      have e1 : ((wr.setCell ⟨w.heap.size, 0, none⟩ (.int .i64 W)).setCell ⟨w.heap.size, 1, none⟩ (.slice a xs.length c)).cell? ⟨w.heap.size, 1, none⟩ = some (.slice a xs.length c) := World.cell?_setCell_same _ _ _ ((World.cell?_setCell_other _ _ _ _ (by simp)).trans u1)
      refine bodyPost_ret (v := .agg #[.int .i64 W, .slice a xs.length c]) (by simp [results, Tryz.results147, go_sem, e0, e1]) rfl ⟨_, _, _, xs, rfl, HREG.out, ho2.out, HCR.out.below HBX.out hgw, grown_then HGR.out HBX.out⟩
end Go.Proofs.YtajmdgcnnipdoaaGreatDoor

/- DrawR4: l6Any: some region, right or not. -/
namespace Go.Proofs.YtajmdgcnnipdoaaGreatDoor
open Go.RowKit

attribute [local go_sem ↓] Go.wp_at_zero Go.wp_at_succ

/-- A row of numbers is no region's box. -/
theorem row_ne {w : World} {base e n c b gr : Nat} {xs : List Value} {arr : Array Value} {e' : TypeId} (h : w.ownsRow base e 1 (.slice (some ⟨gr, 0, none⟩) n c) n xs) (hk : w.heap[b]? = some (.cells arr e' (0, 0))) (he : e ≠ e') : gr ≠ b := by
  intro q
  rcases h.2 with ⟨hv, _⟩ | ⟨g, cc, cur, hv, _, hblk, _⟩
  · injection hv with h1 _ _; cases h1
  · injection hv with h1 _ _
    injection h1 with h2
    injection h2 with h3
    rw [← h3, q, hk] at hblk
    simp only [Option.some.injEq, Obj.cells.injEq] at hblk
    exact he hblk.2.1.symm
theorem row_ne2 {w : World} {base e n b : Nat} {v : Value} {xs : List Value} {arr : Array Value} {e' : TypeId} (h : w.ownsRow base e 1 v n xs) (hk : w.heap[b]? = some (.cells arr e' (0, 0))) (he : e ≠ e') : v.ownBlock = some b → False := by
  intro q
  rcases h.2 with ⟨rfl, _⟩ | ⟨g, cc, cur, rfl, _, hblk, _⟩
  · simp [Value.ownBlock] at q
  · obtain rfl : b = g := by simpa [Value.ownBlock, eq_comm] using q
    rw [hk] at hblk
    simp only [Option.some.injEq, Obj.cells.injEq] at hblk
    exact he hblk.2.1.symm
theorem own_other {w : World} {base e n c b : Nat} {a : Option Addr} {xs : List Value} {arr : Array Value} {e' : TypeId} (h : w.ownsRow base e 1 (.slice a n c) n xs) (hk : w.heap[b]? = some (.cells arr e' (0, 0))) (he : e ≠ e') (j : Nat) (u : Value) : (w.setCell ⟨b, j, none⟩ u).ownsRow base e 1 (.slice a n c) n xs := by
  refine ⟨h.1, ?_⟩
  rcases h.2 with q | ⟨g, cc, cur, hv, hb, hblk, r⟩
  · exact .inl q
  · refine .inr ⟨g, cc, cur, hv, hb, ?_, r⟩
    rw [Below.heap_setCell _ _ _ _ (by show g ≠ b; intro q; rw [q, hk] at hblk; simp only [Option.some.injEq, Obj.cells.injEq] at hblk; exact he hblk.2.1.symm)]
    exact hblk
/-- A drawn region: some number and a row of the call's own. -/
def RegDrawn (f : FuncId) (g : Nat) (bs : List Nat) (args : Array Value) (w : World) : Prop :=
  Calls Tryz.prog f args w fun e w' => ∃ (b : Int) (a : Option Addr) (c : Nat) (xs : List Int), e = .returned (.agg #[.int .i64 b, .slice a xs.length c]) ∧ (-1 ≤ b ∧ b ≤ 7) ∧ xs.length ≤ 9 ∧ w'.ownsRow w.heap.size 3 1 (.slice a xs.length c) xs.length (ints xs) ∧ Curs w' g bs ∧ w.grownBy w' (some g)

set_option maxRecDepth 100000 in
set_option maxHeartbeats 6400000 in
theorem l6Any_any (g : Nat) (bs : List Nat) (w : World) (hc : Curs w g bs) : RegDrawn 146 g bs #[.pointer (some ⟨g, 0, none⟩)] w := by
  unfold RegDrawn
  have hgw := hc.lt
  have hbA : Below w.heap.size w (w.alloc (.cells #[.int .i64 0, .slice none 0 0] 26)) := (Below.refl _ _).alloc (Nat.le_refl _) _
  have hzA : (w.alloc (.cells #[.int .i64 0, .slice none 0 0] 26)).heap.size = w.heap.size + 1 := by simp
  have hkA : (w.alloc (.cells #[.int .i64 0, .slice none 0 0] 26)).heap[w.heap.size]? = some (.cells #[.int .i64 0, .slice none 0 0] 26 (0, 0)) := heap_alloc_new w _
  have HCA := Lib.hid (hc.below hbA hgw)
  have HGA := Lib.hid (grown_any (row := some g) hbA)
  clear hc hbA
  go_enter Tryz.func146, Tryz.ntmps146
  go_upto_region 1 with (fail)
  generalize w.alloc (.cells #[.int .i64 0, .slice none 0 0] 26) = wA at hzA hkA HCA HGA ⊢
  have HD := Lib.hid (l6Draw_any g 5 bs wA HCA.out (by decide))
  go_wp2_with fail
  refine HD.out.mono ?_
  rintro e w1 ⟨B, a, c, xs, rfl, hreg, ho1, hc1, hg1⟩
  have hk1 := (hg1.block w.heap.size (by omega) (fun q => by cases q; omega)).trans hkA
  have hs1 : w.heap.size + 1 ≤ w1.heap.size := by have := hg1.size; omega
  have hb2 : Below w1.heap.size w1 (w1.alloc (.cells #[.int .i64 B, .slice a xs.length c] 26)) := (Below.refl _ _).alloc (Nat.le_refl _) _
  have hk2 : (w1.alloc (.cells #[.int .i64 B, .slice a xs.length c] 26)).heap[w1.heap.size]? = some (.cells #[.int .i64 B, .slice a xs.length c] 26 (0, 0)) := heap_alloc_new w1 _
  have hk2b := (hb2.block w.heap.size (by omega)).trans hk1
  have HO2 := Lib.hid (ownsRow_far_below (ownsRow_rebase ho1 (show w.heap.size + 1 ≤ wA.heap.size by omega)) hb2 (Nat.le_refl _))
  have HC2 := Lib.hid (hc1.below hb2 hc1.lt)
  have HG2 := Lib.hid (grown_then (grownBy_trans HGA.out hg1) (hb2.mono (by omega)))
  have hB6 : (B : Int) ≤ 6 := hreg.1.2
  have hl6 : 1 ≤ xs.length ∧ xs.length ≤ 6 := hreg.2.1
  have hz2 : (w1.alloc (.cells #[.int .i64 B, .slice a xs.length c] 26)).heap.size = w1.heap.size + 1 := by simp
  clear ho1 hc1 hg1 hb2 hk1 hkA hreg
  go_upto_region 2 with (fail)
  generalize w1.alloc (.cells #[.int .i64 B, .slice a xs.length c] 26) = w2 at hk2 hk2b HO2 HC2 HG2 hz2 ⊢
  have HD2 := Lib.hid (drawBelow g bs 14 w2 HC2.out (by decide))
  go_wp2_with fail
  refine HD2.out.mono ?_
  rintro e w3 ⟨md, rfl, hmd, hc3, hg3⟩
  have hgb : g < w.heap.size + 1 := by omega
  have hk3 := (hg3.block w1.heap.size (by omega) (fun q => by cases q; omega)).trans hk2
  have hk3b := (hg3.block w.heap.size (by omega) (fun q => by cases q; omega)).trans hk2b
  have HO3 := Lib.hid (own_grown HO2.out hg3 hgb)
  have HC3 := Lib.hid hc3
  have HG3 := Lib.hid (grownBy_trans HG2.out hg3)
  have hs3 : w1.heap.size + 1 ≤ w3.heap.size := by have := hg3.size; omega
  clear hc3 hg3 hk2 hk2b
  obtain rfl | rfl | rfl | h4 : md = 0 ∨ md = 1 ∨ md = 2 ∨ (3 ≤ md ∧ md < 14) := by omega
  · have hb4 : Below w3.heap.size w3 (w3.alloc (.cells #[.int .i64 0, .int .i64 7, .int .i64 (-1), .int .i64 2] 3)) := (Below.refl _ _).alloc (Nat.le_refl _) _
    have hk4 := (hb4.block w1.heap.size (by omega)).trans hk3
    have hk4b := (hb4.block w.heap.size (by omega)).trans hk3b
    have HO4 := Lib.hid (ownsRow_far_below HO3.out hb4 (Nat.le_refl _))
    have HC4 := Lib.hid (HC3.out.below hb4 HC3.out.lt)
    have HG4 := Lib.hid (grown_then HG3.out (hb4.mono (by omega)))
    have HL4 := Lib.hid (cells_lit (w := w3) (vs := ints [0, 7, -1, 2]) (e := 3) (heap_alloc_new w3 (.cells #[.int .i64 0, .int .i64 7, .int .i64 (-1), .int .i64 2] 3)))
    have hgl := HC3.out.lt
    have HP := Lib.hid (fun c => pickInt_any g bs (some ⟨w3.heap.size, 0, none⟩) c [0, 7, -1, 2] _ HC4.out (by decide) HL4.out (fun a q => by cases q; show w3.heap.size ≠ g; omega))
    have hz4 : (w3.alloc (.cells #[.int .i64 0, .int .i64 7, .int .i64 (-1), .int .i64 2] 3)).heap.size = w3.heap.size + 1 := by simp
    clear hb4
    go_wp2_with fail
    refine (HP.out _).mono ?_
    rintro e w5 ⟨z, rfl, hzm, hc5, hg5⟩
    have hz7 : -1 ≤ z ∧ z ≤ 7 := by simp only [List.mem_cons, List.not_mem_nil, or_false] at hzm; omega
    have hk5 := (hg5.block w1.heap.size (by omega) (fun q => by cases q; omega)).trans hk4
    have hk5b := (hg5.block w.heap.size (by omega) (fun q => by cases q; omega)).trans hk4b
    have HO5 := Lib.hid (own_grown HO4.out hg5 hgb)
    have HG5 := Lib.hid (grownBy_trans HG4.out hg5)
    have HC5 := Lib.hid hc5
    obtain ⟨p0, p1, p2, p3⟩ := boxAt hk5
    have hb6 : Below (w.heap.size + 1) w5 (w5.setCell ⟨w1.heap.size, 0, none⟩ (.int .i64 z)) := (Below.refl _ _).setCell (by show w.heap.size + 1 ≤ w1.heap.size; omega) _
    have hk6 : (w5.setCell ⟨w1.heap.size, 0, none⟩ (.int .i64 z)).heap[w1.heap.size]? = some (.cells #[.int .i64 z, .slice a xs.length c] 26 (0, 0)) := heap_setCell_same w5 w1.heap.size 0 _ _ _ hk5
    have hk6b := (hb6.block w.heap.size (by omega)).trans hk5b
    have HO6 := Lib.hid (show (w5.setCell ⟨w1.heap.size, 0, none⟩ (.int .i64 z)).ownsRow (w.heap.size + 1) 3 1 (.slice a xs.length c) xs.length (ints xs) from own_other HO5.out hk5 (by decide) 0 _)
    have HC6 := Lib.hid (HC5.out.below hb6 hgb)
    have HG6 := Lib.hid (grown_then HG5.out (hb6.mono (by omega)))
    clear hc5 hg5 hb6 hk4 hk4b hk3 hk3b HP HL4
    go_upto_region 9 with (fail)
    generalize w5.setCell ⟨w1.heap.size, 0, none⟩ (.int .i64 z) = w6 at hk6 hk6b HO6 HC6 HG6 ⊢
    clear p0 p1 p2 p3 hk5 hk5b
    obtain ⟨y0, y1, z0, z1⟩ := boxAt hk6
    obtain ⟨u0, u1, f0, f1⟩ := boxAt hk6b
    have hbx : Below w.heap.size w6 ((w6.setCell ⟨w.heap.size, 0, none⟩ (.int .i64 z)).setCell ⟨w.heap.size, 1, none⟩ (.slice a xs.length c)) := box_below (Nat.le_refl _) _ _
    have ho2 := Lib.hid (ownsRow_rebase (base' := w.heap.size) (ownsRow_setCell_below (ownsRow_setCell_below HO6.out (a := ⟨w.heap.size, 0, none⟩) (by show w.heap.size < w.heap.size + 1; omega) (.int .i64 z)) (a := ⟨w.heap.size, 1, none⟩) (by show w.heap.size < w.heap.size + 1; omega) (.slice a xs.length c)) (by omega))
    have HBX := Lib.hid hbx
    clear hbx
    go_wp2
    have e0 : ((w6.setCell ⟨w.heap.size, 0, none⟩ (.int .i64 z)).setCell ⟨w.heap.size, 1, none⟩ (.slice a xs.length c)).cell? ⟨w.heap.size, 0, none⟩ = some (.int .i64 z) := by rw [World.cell?_setCell_other _ _ _ _ (by simp)]; exact World.cell?_setCell_same _ _ _ u0
    have e1 : ((w6.setCell ⟨w.heap.size, 0, none⟩ (.int .i64 z)).setCell ⟨w.heap.size, 1, none⟩ (.slice a xs.length c)).cell? ⟨w.heap.size, 1, none⟩ = some (.slice a xs.length c) := World.cell?_setCell_same _ _ _ ((World.cell?_setCell_other _ _ _ _ (by simp)).trans u1)
    refine bodyPost_ret (v := .agg #[.int .i64 z, .slice a xs.length c]) (by simp [results, Tryz.results146, go_sem, e0, e1]) rfl ⟨z, a, c, xs, rfl, hz7, by omega, ho2.out, HC6.out.below HBX.out hgw, grown_then HG6.out HBX.out⟩
  · obtain ⟨p0, p1, p2, p3⟩ := boxAt hk3
    have hb4 : Below w3.heap.size w3 (w3.alloc (.cells #[.int .i64 (-1), .int .i64 64, .int .i64 9223372036854775807] 3)).drew := ((Below.refl w3.heap.size w3).alloc (Nat.le_refl _) _).drew
    have hk4 := (hb4.block w1.heap.size (by omega)).trans hk3
    have hk4b := (hb4.block w.heap.size (by omega)).trans hk3b
    have HO4 := Lib.hid (ownsRow_far_below HO3.out hb4 (Nat.le_refl _))
    have HC4 := Lib.hid (HC3.out.below hb4 HC3.out.lt)
    have HG4 := Lib.hid (grown_then HG3.out (hb4.mono (by omega)))
    have HL4 := Lib.hid (cells_lit (w := w3) (w' := (w3.alloc (.cells #[.int .i64 (-1), .int .i64 64, .int .i64 9223372036854775807] 3)).drew) (vs := ints [-1, 64, 9223372036854775807]) (e := 3) (heap_alloc_new w3 (.cells #[.int .i64 (-1), .int .i64 64, .int .i64 9223372036854775807] 3)))
    have hgl := HC3.out.lt
    have HP := Lib.hid (fun c => pickInt_any g bs (some ⟨w3.heap.size, 0, none⟩) c [-1, 64, 9223372036854775807] _ HC4.out (by decide) HL4.out (fun a q => by cases q; show w3.heap.size ≠ g; omega))
    have hz4 : (w3.alloc (.cells #[.int .i64 (-1), .int .i64 64, .int .i64 9223372036854775807] 3)).drew.heap.size = w3.heap.size + 1 := by simp
    obtain ⟨k40, k41, k42, k43⟩ := boxAt hk4
    have d1 : w3.drew.cell? ⟨w1.heap.size, 1, none⟩ = some (.slice a xs.length c) := p1
    have i1 : (0 : Int) < (xs.length : Int) := by omega
    have i1n : 0 < xs.length := by omega
    obtain ⟨gr, rfl⟩ : ∃ gr, a = some ⟨gr, 0, none⟩ := by
      obtain ⟨gr, c', hv, _, _⟩ := HO3.out.form (by omega)
      injection hv with h1 _ _
      exact ⟨gr, h1⟩
    have hgr3 := HO3.out.lt gr rfl
    have hr3 : w3.cell? ⟨gr, 0, none⟩ = some (.int .i64 xs[0]) := by rw [HO3.out.cellAt 0 (by omega)]; exact ints_at xs 0 (by omega)
    clear hb4
    go_wp2
    refine wp_region_any (by kernel_rfl) ?_
    change wpAny _ _ _ _ _ _ _ (World.drew _)
    refine wpAny_take (i := 0) (v := .pointer (some ⟨w1.heap.size, 1, none⟩)) rfl (by kernel_rfl) (by kernel_rfl) (by kernel_rfl) (fun _ _ _ h => h) (Or.inl ⟨by rfl, fun w => by first | (go_simp; done) | (go_simp; rfl) | (go_simp; omega)⟩) ?_
    refine wpAny_take (i := 2) (v := .pointer (some ⟨g, 0, none⟩)) rfl (by kernel_rfl) (by kernel_rfl) (by kernel_rfl) (fun _ _ _ h => h) (Or.inl ⟨by rfl, fun w => by first | (go_simp; done) | (go_simp; rfl) | (go_simp; omega)⟩) ?_
    refine wpAny_ready (rs := [1, 3]) (by kernel_rfl) (by simp) ?_
    refine AllReady.cons rfl (fun K hK => ?_) (AllReady.cons rfl (fun K hK => ?_) AllReady.nil)
    · go_simp
      refine hK _ _ ?_
      clear hK K
      refine wpAny_ready (rs := [3]) (by kernel_rfl) (by simp) ?_
      refine AllReady.cons rfl (fun K hK => ?_) AllReady.nil
      go_simp
      refine hK _ _ ?_
      clear hK K
      refine wpAny_ready (rs := [4]) (by kernel_rfl) (by simp) ?_
      refine AllReady.cons rfl (fun K hK => ?_) AllReady.nil
      go_simp
      go_wp2_with (refine (HP.out _).mono ?_; rintro e w5 ⟨z, rfl, hzm, hc5, hg5⟩; have HO5 := Lib.hid (own_grown HO4.out hg5 hgb); have hk5 := (hg5.block w1.heap.size (by omega) (fun q => by cases q; omega)).trans hk4; have hk5b := (hg5.block w.heap.size (by omega) (fun q => by cases q; omega)).trans hk4b; obtain ⟨k50, k51, k52, k53⟩ := boxAt hk5; have hr5 : w5.cell? ⟨gr, 0, none⟩ = some (.int .i64 xs[0]) := (by rw [HO5.out.cellAt 0 (by omega)]; exact ints_at xs 0 (by omega)); have hf5 : w5.frozen? ⟨gr, 0, none⟩ = false := HO5.out.frozenAt 0)
      refine wpAny_ready (rs := [5]) (by kernel_rfl) (by simp) ?_
      refine AllReady.cons rfl (fun K hK => ?_) AllReady.nil
      go_simp
      refine hK _ _ ?_
      clear hK K
      refine wpAny_ready (rs := [6]) (by kernel_rfl) (by simp) ?_
      refine AllReady.cons rfl (fun K hK => ?_) AllReady.nil
      go_simp
      refine hK _ _ ?_
      clear hK K
      refine wpAny_done (by kernel_rfl) ?_ _
      have hst := HO5.out.stored 0 (.int .i64 z)
      rw [show (ints xs).set 0 (.int .i64 z) = ints (xs.set 0 z) from (by simp [ints, List.map_set])] at hst
      have hgr5 := HO5.out.lt gr rfl
      have hb6 : Below (w.heap.size + 1) w5 (w5.setCell ⟨gr, 0, none⟩ (.int .i64 z)) := (Below.refl _ _).setCell (by show w.heap.size + 1 ≤ gr; exact hgr5.1) _
      have hne : gr ≠ w1.heap.size := row_ne HO5.out hk5 (by decide)
      have hk6 : (w5.setCell ⟨gr, 0, none⟩ (.int .i64 z)).heap[w1.heap.size]? = some (.cells #[.int .i64 B, .slice (some ⟨gr, 0, none⟩) xs.length c] 26 (0, 0)) := (by rw [Below.heap_setCell _ _ _ _ (by show w1.heap.size ≠ gr; omega)]; exact hk5)
      have hk6b := (hb6.block w.heap.size (by omega)).trans hk5b
      have HLN := Lib.hid (show (xs.set 0 z).length = xs.length from List.length_set)
      have HO6 := Lib.hid (show (w5.setCell ⟨gr, 0, none⟩ (.int .i64 z)).ownsRow (w.heap.size + 1) 3 1 (.slice (some ⟨gr, 0, none⟩) xs.length c) xs.length (ints (xs.set 0 z)) from hst.1)
      have HC6 := Lib.hid (hc5.below hb6 hgb)
      have HG6 := Lib.hid (grown_then (grownBy_trans HG4.out hg5) (hb6.mono (by omega)))
      clear hst hb6 hc5 hg5 hk5 hk5b k50 k51 k52 k53 hr5 hf5
      go_upto_region 9 with (fail)
      generalize w5.setCell ⟨gr, 0, none⟩ (.int .i64 z) = w6 at hk6 hk6b HO6 HC6 HG6 ⊢
      clear k40 k41 k42 k43 p0 p1 p2 p3 d1 hk4 hk4b hk3 hk3b hr3 HO5 HL4 HP
      obtain ⟨y0, y1, z0, z1⟩ := boxAt hk6
      obtain ⟨u0, u1, f0, f1⟩ := boxAt hk6b
      have hbx : Below w.heap.size w6 ((w6.setCell ⟨w.heap.size, 0, none⟩ (.int .i64 B)).setCell ⟨w.heap.size, 1, none⟩ (.slice (some ⟨gr, 0, none⟩) xs.length c)) := box_below (Nat.le_refl _) _ _
      have ho2 := Lib.hid (ownsRow_rebase (base' := w.heap.size) (ownsRow_setCell_below (ownsRow_setCell_below HO6.out (a := ⟨w.heap.size, 0, none⟩) (by show w.heap.size < w.heap.size + 1; omega) (.int .i64 B)) (a := ⟨w.heap.size, 1, none⟩) (by show w.heap.size < w.heap.size + 1; omega) (.slice (some ⟨gr, 0, none⟩) xs.length c)) (by omega))
      have HBX := Lib.hid hbx
      clear hbx
      go_wp2
      have e0 : ((w6.setCell ⟨w.heap.size, 0, none⟩ (.int .i64 B)).setCell ⟨w.heap.size, 1, none⟩ (.slice (some ⟨gr, 0, none⟩) xs.length c)).cell? ⟨w.heap.size, 0, none⟩ = some (.int .i64 B) := by rw [World.cell?_setCell_other _ _ _ _ (by simp)]; exact World.cell?_setCell_same _ _ _ u0
      have e1 : ((w6.setCell ⟨w.heap.size, 0, none⟩ (.int .i64 B)).setCell ⟨w.heap.size, 1, none⟩ (.slice (some ⟨gr, 0, none⟩) xs.length c)).cell? ⟨w.heap.size, 1, none⟩ = some (.slice (some ⟨gr, 0, none⟩) xs.length c) := World.cell?_setCell_same _ _ _ ((World.cell?_setCell_other _ _ _ _ (by simp)).trans u1)
      refine bodyPost_ret (v := .agg #[.int .i64 B, .slice (some ⟨gr, 0, none⟩) xs.length c]) (by simp [results, Tryz.results146, go_sem, e0, e1]) rfl ⟨B, (some ⟨gr, 0, none⟩), c, (xs.set 0 z), by rw [HLN.out], (by omega), (by rw [HLN.out]; omega), by rw [HLN.out]; exact ho2.out, HC6.out.below HBX.out hgw, grown_then HG6.out HBX.out⟩
    · go_simp
      refine hK _ _ ?_
      clear hK K
      refine wpAny_ready (rs := [1, 4]) (by kernel_rfl) (by simp) ?_
      refine AllReady.cons rfl (fun K hK => ?_) (AllReady.cons rfl (fun K hK => ?_) AllReady.nil)
      · go_simp
        refine hK _ _ ?_
        clear hK K
        refine wpAny_ready (rs := [4]) (by kernel_rfl) (by simp) ?_
        refine AllReady.cons rfl (fun K hK => ?_) AllReady.nil
        go_simp
        go_wp2_with (refine (HP.out _).mono ?_; rintro e w5 ⟨z, rfl, hzm, hc5, hg5⟩; have HO5 := Lib.hid (own_grown HO4.out hg5 hgb); have hk5 := (hg5.block w1.heap.size (by omega) (fun q => by cases q; omega)).trans hk4; have hk5b := (hg5.block w.heap.size (by omega) (fun q => by cases q; omega)).trans hk4b; obtain ⟨k50, k51, k52, k53⟩ := boxAt hk5; have hr5 : w5.cell? ⟨gr, 0, none⟩ = some (.int .i64 xs[0]) := (by rw [HO5.out.cellAt 0 (by omega)]; exact ints_at xs 0 (by omega)); have hf5 : w5.frozen? ⟨gr, 0, none⟩ = false := HO5.out.frozenAt 0)
        refine wpAny_ready (rs := [5]) (by kernel_rfl) (by simp) ?_
        refine AllReady.cons rfl (fun K hK => ?_) AllReady.nil
        go_simp
        refine hK _ _ ?_
        clear hK K
        refine wpAny_ready (rs := [6]) (by kernel_rfl) (by simp) ?_
        refine AllReady.cons rfl (fun K hK => ?_) AllReady.nil
        go_simp
        refine hK _ _ ?_
        clear hK K
        refine wpAny_done (by kernel_rfl) ?_ _
        have hst := HO5.out.stored 0 (.int .i64 z)
        rw [show (ints xs).set 0 (.int .i64 z) = ints (xs.set 0 z) from (by simp [ints, List.map_set])] at hst
        have hgr5 := HO5.out.lt gr rfl
        have hb6 : Below (w.heap.size + 1) w5 (w5.setCell ⟨gr, 0, none⟩ (.int .i64 z)) := (Below.refl _ _).setCell (by show w.heap.size + 1 ≤ gr; exact hgr5.1) _
        have hne : gr ≠ w1.heap.size := row_ne HO5.out hk5 (by decide)
        have hk6 : (w5.setCell ⟨gr, 0, none⟩ (.int .i64 z)).heap[w1.heap.size]? = some (.cells #[.int .i64 B, .slice (some ⟨gr, 0, none⟩) xs.length c] 26 (0, 0)) := (by rw [Below.heap_setCell _ _ _ _ (by show w1.heap.size ≠ gr; omega)]; exact hk5)
        have hk6b := (hb6.block w.heap.size (by omega)).trans hk5b
        have HLN := Lib.hid (show (xs.set 0 z).length = xs.length from List.length_set)
        have HO6 := Lib.hid (show (w5.setCell ⟨gr, 0, none⟩ (.int .i64 z)).ownsRow (w.heap.size + 1) 3 1 (.slice (some ⟨gr, 0, none⟩) xs.length c) xs.length (ints (xs.set 0 z)) from hst.1)
        have HC6 := Lib.hid (hc5.below hb6 hgb)
        have HG6 := Lib.hid (grown_then (grownBy_trans HG4.out hg5) (hb6.mono (by omega)))
        clear hst hb6 hc5 hg5 hk5 hk5b k50 k51 k52 k53 hr5 hf5
        go_upto_region 9 with (fail)
        generalize w5.setCell ⟨gr, 0, none⟩ (.int .i64 z) = w6 at hk6 hk6b HO6 HC6 HG6 ⊢
        clear k40 k41 k42 k43 p0 p1 p2 p3 d1 hk4 hk4b hk3 hk3b hr3 HO5 HL4 HP
        obtain ⟨y0, y1, z0, z1⟩ := boxAt hk6
        obtain ⟨u0, u1, f0, f1⟩ := boxAt hk6b
        have hbx : Below w.heap.size w6 ((w6.setCell ⟨w.heap.size, 0, none⟩ (.int .i64 B)).setCell ⟨w.heap.size, 1, none⟩ (.slice (some ⟨gr, 0, none⟩) xs.length c)) := box_below (Nat.le_refl _) _ _
        have ho2 := Lib.hid (ownsRow_rebase (base' := w.heap.size) (ownsRow_setCell_below (ownsRow_setCell_below HO6.out (a := ⟨w.heap.size, 0, none⟩) (by show w.heap.size < w.heap.size + 1; omega) (.int .i64 B)) (a := ⟨w.heap.size, 1, none⟩) (by show w.heap.size < w.heap.size + 1; omega) (.slice (some ⟨gr, 0, none⟩) xs.length c)) (by omega))
        have HBX := Lib.hid hbx
        clear hbx
        go_wp2
        have e0 : ((w6.setCell ⟨w.heap.size, 0, none⟩ (.int .i64 B)).setCell ⟨w.heap.size, 1, none⟩ (.slice (some ⟨gr, 0, none⟩) xs.length c)).cell? ⟨w.heap.size, 0, none⟩ = some (.int .i64 B) := by rw [World.cell?_setCell_other _ _ _ _ (by simp)]; exact World.cell?_setCell_same _ _ _ u0
        have e1 : ((w6.setCell ⟨w.heap.size, 0, none⟩ (.int .i64 B)).setCell ⟨w.heap.size, 1, none⟩ (.slice (some ⟨gr, 0, none⟩) xs.length c)).cell? ⟨w.heap.size, 1, none⟩ = some (.slice (some ⟨gr, 0, none⟩) xs.length c) := World.cell?_setCell_same _ _ _ ((World.cell?_setCell_other _ _ _ _ (by simp)).trans u1)
        refine bodyPost_ret (v := .agg #[.int .i64 B, .slice (some ⟨gr, 0, none⟩) xs.length c]) (by simp [results, Tryz.results146, go_sem, e0, e1]) rfl ⟨B, (some ⟨gr, 0, none⟩), c, (xs.set 0 z), by rw [HLN.out], (by omega), (by rw [HLN.out]; omega), by rw [HLN.out]; exact ho2.out, HC6.out.below HBX.out hgw, grown_then HG6.out HBX.out⟩
      · go_simp
        go_wp2_with (refine (HP.out _).mono ?_; rintro e w5 ⟨z, rfl, hzm, hc5, hg5⟩; have HO5 := Lib.hid (own_grown HO4.out hg5 hgb); have hk5 := (hg5.block w1.heap.size (by omega) (fun q => by cases q; omega)).trans hk4; have hk5b := (hg5.block w.heap.size (by omega) (fun q => by cases q; omega)).trans hk4b; obtain ⟨k50, k51, k52, k53⟩ := boxAt hk5; have hr5 : w5.cell? ⟨gr, 0, none⟩ = some (.int .i64 xs[0]) := (by rw [HO5.out.cellAt 0 (by omega)]; exact ints_at xs 0 (by omega)); have hf5 : w5.frozen? ⟨gr, 0, none⟩ = false := HO5.out.frozenAt 0)
        refine wpAny_ready (rs := [1]) (by kernel_rfl) (by simp) ?_
        refine AllReady.cons rfl (fun K hK => ?_) AllReady.nil
        go_simp
        refine hK _ _ ?_
        clear hK K
        refine wpAny_ready (rs := [5]) (by kernel_rfl) (by simp) ?_
        refine AllReady.cons rfl (fun K hK => ?_) AllReady.nil
        go_simp
        refine hK _ _ ?_
        clear hK K
        refine wpAny_ready (rs := [6]) (by kernel_rfl) (by simp) ?_
        refine AllReady.cons rfl (fun K hK => ?_) AllReady.nil
        go_simp
        refine hK _ _ ?_
        clear hK K
        refine wpAny_done (by kernel_rfl) ?_ _
        have hst := HO5.out.stored 0 (.int .i64 z)
        rw [show (ints xs).set 0 (.int .i64 z) = ints (xs.set 0 z) from (by simp [ints, List.map_set])] at hst
        have hgr5 := HO5.out.lt gr rfl
        have hb6 : Below (w.heap.size + 1) w5 (w5.setCell ⟨gr, 0, none⟩ (.int .i64 z)) := (Below.refl _ _).setCell (by show w.heap.size + 1 ≤ gr; exact hgr5.1) _
        have hne : gr ≠ w1.heap.size := row_ne HO5.out hk5 (by decide)
        have hk6 : (w5.setCell ⟨gr, 0, none⟩ (.int .i64 z)).heap[w1.heap.size]? = some (.cells #[.int .i64 B, .slice (some ⟨gr, 0, none⟩) xs.length c] 26 (0, 0)) := (by rw [Below.heap_setCell _ _ _ _ (by show w1.heap.size ≠ gr; omega)]; exact hk5)
        have hk6b := (hb6.block w.heap.size (by omega)).trans hk5b
        have HLN := Lib.hid (show (xs.set 0 z).length = xs.length from List.length_set)
        have HO6 := Lib.hid (show (w5.setCell ⟨gr, 0, none⟩ (.int .i64 z)).ownsRow (w.heap.size + 1) 3 1 (.slice (some ⟨gr, 0, none⟩) xs.length c) xs.length (ints (xs.set 0 z)) from hst.1)
        have HC6 := Lib.hid (hc5.below hb6 hgb)
        have HG6 := Lib.hid (grown_then (grownBy_trans HG4.out hg5) (hb6.mono (by omega)))
        clear hst hb6 hc5 hg5 hk5 hk5b k50 k51 k52 k53 hr5 hf5
        go_upto_region 9 with (fail)
        generalize w5.setCell ⟨gr, 0, none⟩ (.int .i64 z) = w6 at hk6 hk6b HO6 HC6 HG6 ⊢
        clear k40 k41 k42 k43 p0 p1 p2 p3 d1 hk4 hk4b hk3 hk3b hr3 HO5 HL4 HP
        obtain ⟨y0, y1, z0, z1⟩ := boxAt hk6
        obtain ⟨u0, u1, f0, f1⟩ := boxAt hk6b
        have hbx : Below w.heap.size w6 ((w6.setCell ⟨w.heap.size, 0, none⟩ (.int .i64 B)).setCell ⟨w.heap.size, 1, none⟩ (.slice (some ⟨gr, 0, none⟩) xs.length c)) := box_below (Nat.le_refl _) _ _
        have ho2 := Lib.hid (ownsRow_rebase (base' := w.heap.size) (ownsRow_setCell_below (ownsRow_setCell_below HO6.out (a := ⟨w.heap.size, 0, none⟩) (by show w.heap.size < w.heap.size + 1; omega) (.int .i64 B)) (a := ⟨w.heap.size, 1, none⟩) (by show w.heap.size < w.heap.size + 1; omega) (.slice (some ⟨gr, 0, none⟩) xs.length c)) (by omega))
        have HBX := Lib.hid hbx
        clear hbx
        go_wp2
        have e0 : ((w6.setCell ⟨w.heap.size, 0, none⟩ (.int .i64 B)).setCell ⟨w.heap.size, 1, none⟩ (.slice (some ⟨gr, 0, none⟩) xs.length c)).cell? ⟨w.heap.size, 0, none⟩ = some (.int .i64 B) := by rw [World.cell?_setCell_other _ _ _ _ (by simp)]; exact World.cell?_setCell_same _ _ _ u0
        have e1 : ((w6.setCell ⟨w.heap.size, 0, none⟩ (.int .i64 B)).setCell ⟨w.heap.size, 1, none⟩ (.slice (some ⟨gr, 0, none⟩) xs.length c)).cell? ⟨w.heap.size, 1, none⟩ = some (.slice (some ⟨gr, 0, none⟩) xs.length c) := World.cell?_setCell_same _ _ _ ((World.cell?_setCell_other _ _ _ _ (by simp)).trans u1)
        refine bodyPost_ret (v := .agg #[.int .i64 B, .slice (some ⟨gr, 0, none⟩) xs.length c]) (by simp [results, Tryz.results146, go_sem, e0, e1]) rfl ⟨B, (some ⟨gr, 0, none⟩), c, (xs.set 0 z), by rw [HLN.out], (by omega), (by rw [HLN.out]; omega), by rw [HLN.out]; exact ho2.out, HC6.out.below HBX.out hgw, grown_then HG6.out HBX.out⟩
  · obtain ⟨p0, p1, p2, p3⟩ := boxAt hk3
    have hb4 : Below w3.heap.size w3 (w3.alloc (.cells #[.int .i64 1, .int .i64 1, .int .i64 1] 3)) := (Below.refl _ _).alloc (Nat.le_refl _) _
    have hk4 := (hb4.block w1.heap.size (by omega)).trans hk3
    have hk4b := (hb4.block w.heap.size (by omega)).trans hk3b
    have HO4 := Lib.hid (ownsRow_far_below HO3.out hb4 (Nat.le_refl _))
    have HC4 := Lib.hid (HC3.out.below hb4 HC3.out.lt)
    have HG4 := Lib.hid (grown_then HG3.out (hb4.mono (by omega)))
    have HL4 := Lib.hid (cells_lit (w := w3) (vs := ints [1, 1, 1]) (e := 3) (heap_alloc_new w3 (.cells #[.int .i64 1, .int .i64 1, .int .i64 1] 3)))
    have hz4 : (w3.alloc (.cells #[.int .i64 1, .int .i64 1, .int .i64 1] 3)).heap.size = w3.heap.size + 1 := by simp
    clear hb4
    go_upto_region 9 with (at_builtin; go_loud (refine wpList_appN rfl (.tmp 25) (.tmp 26) 24 rfl (w.heap.size + 1) 3 _ 1 8 Tryz.elemInt (.slice a xs.length c) xs.length (ints xs) rfl HO4.out (some ⟨w3.heap.size, 0, none⟩) 3 3 (ints [1, 1, 1]) rfl (fun q => by cases q) rfl HL4.out (ints_one _) (by unfold maxLen; omega) (by omega) (by first | omega | (rw [hz4]; omega) | (simp; omega)) ?_; intro a5 c5 w5 q1 q2 q3; have hk5 := (q3.block w1.heap.size (by omega) (fun q => row_ne2 HO4.out hk4 (by decide) q.symm)).trans hk4; have hk5b := (q2.block w.heap.size (by omega)).trans hk4b; obtain ⟨k50, k51, k52, k53⟩ := boxAt hk5))
    have hb6 : Below (w.heap.size + 1) w5 (w5.setCell ⟨w1.heap.size, 1, none⟩ (.slice a5 (xs.length + 3) c5)) := (Below.refl _ _).setCell (by show w.heap.size + 1 ≤ w1.heap.size; omega) _
    have hk6 : (w5.setCell ⟨w1.heap.size, 1, none⟩ (.slice a5 (xs.length + 3) c5)).heap[w1.heap.size]? = some (.cells #[.int .i64 B, .slice a5 (xs.length + 3) c5] 26 (0, 0)) := heap_setCell_same w5 w1.heap.size 1 _ _ _ hk5
    have hk6b := (hb6.block w.heap.size (by omega)).trans hk5b
    have HLN := Lib.hid (show (xs ++ [1, 1, 1]).length = xs.length + 3 by rw [List.length_append]; rfl)
    have HO6 := Lib.hid (show (w5.setCell ⟨w1.heap.size, 1, none⟩ (.slice a5 (xs.length + 3) c5)).ownsRow (w.heap.size + 1) 3 1 (.slice a5 (xs.length + 3) c5) (xs.length + 3) (ints (xs ++ [1, 1, 1])) from by rw [ints_append]; exact own_other q1 hk5 (by decide) 1 _)
    have HC6 := Lib.hid ((HC4.out.below q2 hgb).below hb6 hgb)
    have HG6 := Lib.hid (grown_then (grown_then HG4.out (q2.mono (by omega))) (hb6.mono (by omega)))
    clear hb6 q1 q2 q3 hk4 hk4b hk3 hk3b hk5b k50 k51 k52 k53 p0 p1 p2 p3
    generalize w5.setCell ⟨w1.heap.size, 1, none⟩ (.slice a5 (xs.length + 3) c5) = w6 at hk6 hk6b HO6 HC6 HG6 ⊢
    clear hk5
    obtain ⟨y0, y1, z0, z1⟩ := boxAt hk6
    obtain ⟨u0, u1, f0, f1⟩ := boxAt hk6b
    have hbx : Below w.heap.size w6 ((w6.setCell ⟨w.heap.size, 0, none⟩ (.int .i64 B)).setCell ⟨w.heap.size, 1, none⟩ (.slice a5 (xs.length + 3) c5)) := box_below (Nat.le_refl _) _ _
    have ho2 := Lib.hid (ownsRow_rebase (base' := w.heap.size) (ownsRow_setCell_below (ownsRow_setCell_below HO6.out (a := ⟨w.heap.size, 0, none⟩) (by show w.heap.size < w.heap.size + 1; omega) (.int .i64 B)) (a := ⟨w.heap.size, 1, none⟩) (by show w.heap.size < w.heap.size + 1; omega) (.slice a5 (xs.length + 3) c5)) (by omega))
    have HBX := Lib.hid hbx
    clear hbx
    go_wp2
    have e0 : ((w6.setCell ⟨w.heap.size, 0, none⟩ (.int .i64 B)).setCell ⟨w.heap.size, 1, none⟩ (.slice a5 (xs.length + 3) c5)).cell? ⟨w.heap.size, 0, none⟩ = some (.int .i64 B) := by rw [World.cell?_setCell_other _ _ _ _ (by simp)]; exact World.cell?_setCell_same _ _ _ u0
    have e1 : ((w6.setCell ⟨w.heap.size, 0, none⟩ (.int .i64 B)).setCell ⟨w.heap.size, 1, none⟩ (.slice a5 (xs.length + 3) c5)).cell? ⟨w.heap.size, 1, none⟩ = some (.slice a5 (xs.length + 3) c5) := World.cell?_setCell_same _ _ _ ((World.cell?_setCell_other _ _ _ _ (by simp)).trans u1)
    refine bodyPost_ret (v := .agg #[.int .i64 B, .slice a5 (xs.length + 3) c5]) (by simp [results, Tryz.results146, go_sem, e0, e1]) rfl ⟨B, a5, c5, (xs ++ [1, 1, 1]), by rw [HLN.out], (by omega), (by rw [HLN.out]; omega), by rw [HLN.out]; exact ho2.out, HC6.out.below HBX.out hgw, grown_then HG6.out HBX.out⟩
  · have n0 : ((md : Int) == 0) = false := by simp; omega
    have n1 : ((md : Int) == 1) = false := by simp; omega
    have n2 : ((md : Int) == 2) = false := by simp; omega
    obtain ⟨y0, y1, z0, z1⟩ := boxAt hk3
    obtain ⟨u0, u1, f0, f1⟩ := boxAt hk3b
    have hbx : Below w.heap.size w3 ((w3.setCell ⟨w.heap.size, 0, none⟩ (.int .i64 B)).setCell ⟨w.heap.size, 1, none⟩ (.slice a xs.length c)) := box_below (Nat.le_refl _) _ _
    have ho2 := Lib.hid (ownsRow_rebase (base' := w.heap.size) (ownsRow_setCell_below (ownsRow_setCell_below HO3.out (a := ⟨w.heap.size, 0, none⟩) (by show w.heap.size < w.heap.size + 1; omega) (.int .i64 B)) (a := ⟨w.heap.size, 1, none⟩) (by show w.heap.size < w.heap.size + 1; omega) (.slice a xs.length c)) (by omega))
    have HBX := Lib.hid hbx
    clear hbx
    go_wp2
    have e0 : ((w3.setCell ⟨w.heap.size, 0, none⟩ (.int .i64 B)).setCell ⟨w.heap.size, 1, none⟩ (.slice a xs.length c)).cell? ⟨w.heap.size, 0, none⟩ = some (.int .i64 B) := by rw [World.cell?_setCell_other _ _ _ _ (by simp)]; exact World.cell?_setCell_same _ _ _ u0
    have e1 : ((w3.setCell ⟨w.heap.size, 0, none⟩ (.int .i64 B)).setCell ⟨w.heap.size, 1, none⟩ (.slice a xs.length c)).cell? ⟨w.heap.size, 1, none⟩ = some (.slice a xs.length c) := World.cell?_setCell_same _ _ _ ((World.cell?_setCell_other _ _ _ _ (by simp)).trans u1)
    refine bodyPost_ret (v := .agg #[.int .i64 B, .slice a xs.length c]) (by simp [results, Tryz.results146, go_sem, e0, e1]) rfl ⟨B, a, c, xs, rfl, (by omega), (by omega), ho2.out, HC3.out.below HBX.out hgw, grown_then HG3.out HBX.out⟩
end Go.Proofs.YtajmdgcnnipdoaaGreatDoor
