/- AllTil: parts laid together: RectOf, Tiles. -/
import Derived.Test.YtajmdgcnnipdoaaGreatDoorAllD3
import Derived.Test.YtajmdgcnnipdoaaGreatDoorFindR
import Derived.Test.YtajmdgcnnipdoaaGreatDoorAllShape
import Derived.Test.YtajmdgcnnipdoaaGreatDoorAllPut0
import Derived.Deep.DrawnRows

/- RectOf: the walk of the program's RectangleOf. -/
namespace Go.Proofs.YtajmdgcnnipdoaaGreatDoor
open Go.RowKit

attribute [local go_sem ↓] Go.wp_at_zero Go.wp_at_succ

set_option maxRecDepth 100000 in
set_option maxHeartbeats 3200000 in
theorem implRc_no (x y : Int) (w : World) (h : ¬ RcOk x y) :
    Calls Tryz.prog 85 #[.int .i64 x, .int .i64 y] w (RcAt w x y) := by
  unfold RcAt
  rw [show rcB x y = 0 from if_neg h, show rcR x y = [] from if_neg h, decide_eq_false h]
  obtain ⟨w0, hw0⟩ : ∃ w0, w0 = w.alloc (.cells #[.int .i64 0, .slice none 0 0] 26) := ⟨_, rfl⟩
  have hb0 : Below w.heap.size w w0 := by rw [hw0]; exact (Below.refl _ _).alloc (Nat.le_refl _) _
  have hz0 : w0.heap.size = w.heap.size + 1 := by rw [hw0]; simp
  have hk0 : w0.heap[w.heap.size]? = some (.cells #[.int .i64 0, .slice none 0 0] 26 (0, 0)) := by rw [hw0]; exact heap_alloc_new w _
  have HK0 := Lib.hid hk0
  have HB0 := Lib.hid hb0
  have HW0 := Lib.hid hw0
  clear hb0 hw0 hk0
  by_cases hx : 1 ≤ x ∧ x ≤ 6
  · have hy : ¬ (1 ≤ y ∧ y ≤ 6) := fun q => h ⟨hx, q⟩
    clear h
    go_enter Tryz.func85, Tryz.ntmps85
    go_wp2_with fail
    rw [← HW0.out]
    refine (isSide_yes (x) _ (by omega) (by omega)).mono ?_
    rintro e w' ⟨rfl, rfl⟩
    go_wp2_with fail
    refine (isSide_no (y) _ (by omega)).mono ?_
    rintro e w' ⟨rfl, rfl⟩
    have y0 : w0.cell? ⟨w.heap.size, 0, none⟩ = some (.int .i64 0) := by rw [cell_of_row w0 _ 0 _ _ _ HK0.out]; rfl
    have y1 : w0.cell? ⟨w.heap.size, 1, none⟩ = some (.slice none 0 0) := by rw [cell_of_row w0 _ 1 _ _ _ HK0.out]; rfl
    have f0 := frozen_of_row w0 w.heap.size 0 _ _ HK0.out
    have f1 := frozen_of_row w0 w.heap.size 1 _ _ HK0.out
    go_wp2_with fail
    (try simp only [Exit.inBlock, Exit.then])
    have c0 : ((w0.setCell ⟨w.heap.size, 0, none⟩ (.int .i64 0)).setCell ⟨w.heap.size, 1, none⟩ (.slice none 0 0)).cell? ⟨w.heap.size, 0, none⟩ = some (.int .i64 0) := by
      rw [World.cell?_setCell_other _ _ _ _ (by simp)]
      exact World.cell?_setCell_same _ _ _ y0
    have c1 : ((w0.setCell ⟨w.heap.size, 0, none⟩ (.int .i64 0)).setCell ⟨w.heap.size, 1, none⟩ (.slice none 0 0)).cell? ⟨w.heap.size, 1, none⟩ = some (.slice none 0 0) :=
      World.cell?_setCell_same _ _ _ ((World.cell?_setCell_other _ _ _ _ (by simp)).trans y1)
    refine bodyPost_ret (v := .tuple #[.agg #[.int .i64 0, .slice none 0 0], .bool false]) (by simp [results, Tryz.results85, go_sem, c0, c1]) rfl ⟨none, 0, rfl, World.ownsRow_nil _ _ _ _, ?_⟩
    exact (HB0.out.setCell (Nat.le_refl _) _).setCell (Nat.le_refl _) _
  · clear h
    go_enter Tryz.func85, Tryz.ntmps85
    go_wp2_with fail
    rw [← HW0.out]
    refine (isSide_no (x) _ (by omega)).mono ?_
    rintro e w' ⟨rfl, rfl⟩
    have y0 : w0.cell? ⟨w.heap.size, 0, none⟩ = some (.int .i64 0) := by rw [cell_of_row w0 _ 0 _ _ _ HK0.out]; rfl
    have y1 : w0.cell? ⟨w.heap.size, 1, none⟩ = some (.slice none 0 0) := by rw [cell_of_row w0 _ 1 _ _ _ HK0.out]; rfl
    have f0 := frozen_of_row w0 w.heap.size 0 _ _ HK0.out
    have f1 := frozen_of_row w0 w.heap.size 1 _ _ HK0.out
    go_wp2_with fail
    (try simp only [Exit.inBlock, Exit.then])
    have c0 : ((w0.setCell ⟨w.heap.size, 0, none⟩ (.int .i64 0)).setCell ⟨w.heap.size, 1, none⟩ (.slice none 0 0)).cell? ⟨w.heap.size, 0, none⟩ = some (.int .i64 0) := by
      rw [World.cell?_setCell_other _ _ _ _ (by simp)]
      exact World.cell?_setCell_same _ _ _ y0
    have c1 : ((w0.setCell ⟨w.heap.size, 0, none⟩ (.int .i64 0)).setCell ⟨w.heap.size, 1, none⟩ (.slice none 0 0)).cell? ⟨w.heap.size, 1, none⟩ = some (.slice none 0 0) :=
      World.cell?_setCell_same _ _ _ ((World.cell?_setCell_other _ _ _ _ (by simp)).trans y1)
    refine bodyPost_ret (v := .tuple #[.agg #[.int .i64 0, .slice none 0 0], .bool false]) (by simp [results, Tryz.results85, go_sem, c0, c1]) rfl ⟨none, 0, rfl, World.ownsRow_nil _ _ _ _, ?_⟩
    exact (HB0.out.setCell (Nat.le_refl _) _).setCell (Nat.le_refl _) _

set_option maxRecDepth 100000 in
set_option maxHeartbeats 3200000 in
theorem implRc_yes (W H : Nat) (w : World) (hW : 1 ≤ W ∧ W ≤ 6) (hH : 1 ≤ H ∧ H ≤ 6) :
    Calls Tryz.prog 85 #[.int .i64 W, .int .i64 H] w (RcAt w W H) := by
  have hok : RcOk W H := ⟨⟨by omega, by omega⟩, by omega, by omega⟩
  unfold RcAt
  rw [show rcB W H = (W : Int) from if_pos hok, show rcR W H = List.replicate H ((2 ^ W - 1 : Nat) : Int) by unfold rcR; rw [if_pos hok, Int.toNat_natCast, Int.toNat_natCast], decide_eq_true hok]
  obtain ⟨pw, v, hv, hv63, t1, t2, t3, t4, t5⟩ := rc_facts hW.2
  rw [← hv, List.length_replicate]
  clear hv hok
  obtain ⟨w0, hw0⟩ : ∃ w0, w0 = w.alloc (.cells #[.int .i64 0, .slice none 0 0] 26) := ⟨_, rfl⟩
  have hb0 : Below w.heap.size w w0 := by rw [hw0]; exact (Below.refl _ _).alloc (Nat.le_refl _) _
  have hz0 : w0.heap.size = w.heap.size + 1 := by rw [hw0]; simp
  have hk0 : w0.heap[w.heap.size]? = some (.cells #[.int .i64 0, .slice none 0 0] 26 (0, 0)) := by rw [hw0]; exact heap_alloc_new w _
  have HK0 := Lib.hid hk0
  have HB0 := Lib.hid hb0
  have HW0 := Lib.hid hw0
  clear hb0 hw0 hk0
  go_enter Tryz.func85, Tryz.ntmps85
  go_wp2_with fail
  rw [← HW0.out]
  refine (isSide_yes ((W : Int)) _ (by omega) (by omega)).mono ?_
  rintro e w' ⟨rfl, rfl⟩
  go_wp2_with fail
  refine (isSide_yes ((H : Int)) _ (by omega) (by omega)).mono ?_
  rintro e w' ⟨rfl, rfl⟩
  obtain ⟨wR, hwR⟩ : ∃ wR, wR = w0.alloc (.cells #[.int .i64 W, .slice none 0 0] 26) := ⟨_, rfl⟩
  have hbR : Below w.heap.size w wR := by rw [hwR]; exact HB0.out.alloc (by omega) _
  have hkR : wR.heap[w.heap.size + 1]? = some (.cells #[.int .i64 W, .slice none 0 0] 26 (0, 0)) := by
    have q := heap_alloc_new w0 (.cells #[.int .i64 W, .slice none 0 0] 26)
    rw [hwR, ← hz0]; exact q
  have hkB : wR.heap[w.heap.size]? = some (.cells #[.int .i64 0, .slice none 0 0] 26 (0, 0)) := by rw [hwR, Below.heap_alloc _ _ _ (by omega)]; exact HK0.out
  have HKR := Lib.hid hkR
  have HKB := Lib.hid hkB
  have HBR := Lib.hid hbR
  have HWR := Lib.hid hwR
  have hzw : w0.heap.size = w.heap.size + 1 := hz0
  clear hbR hkR hkB hwR hz0
  go_wp2_with fail
  rw [← HWR.out]
  clear HWR
  go_loopw [19] (fun i wr => ∃ k : Nat, k ≤ H ∧ i = .int .i64 k ∧ (∃ ad c, wr.heap[w.heap.size + 1]? = some (.cells #[.int .i64 W, .slice ad k c] 26 (0, 0)) ∧ wr.ownsRow (w.heap.size + 2) 3 1 (.slice ad k c) k (ints (List.replicate k (v : Int)))) ∧ wr.heap[w.heap.size]? = some (.cells #[.int .i64 0, .slice none 0 0] 26 (0, 0)) ∧ Below w.heap.size w wr) (fun i _ => H - (intOf i).toNat)
  case atStart => exact ⟨0, Nat.zero_le _, rfl, ⟨none, 0, HKR.out, World.ownsRow_nil _ _ _ _⟩, HKB.out, HBR.out⟩
  case round =>
    obtain ⟨k, hk, rfl, ⟨ad, c, hblk, hown⟩, hbox, hb⟩ := hrel
    have HBLK := Lib.hid hblk
    have HOWN := Lib.hid hown
    have HBOX := Lib.hid hbox
    have HB := Lib.hid hb
    have hszr := hb.size
    have hRlt := lt_of_block hblk
    clear hblk hown hbox hb
    by_cases hlt : k < H
    · have i1 : (k : Int) < (H : Int) := by omega
      have x1 : wr.cell? ⟨w.heap.size + 1, 1, none⟩ = some (.slice ad k c) := by rw [cell_of_row wr _ 1 _ _ _ HBLK.out]; rfl
      have z1 := frozen_of_row wr (w.heap.size + 1) 1 _ _ HBLK.out
      have hbal : Below wr.heap.size wr (wr.alloc (.cells #[.int .i64 v] 3)).drew := ((Below.refl wr.heap.size wr).alloc (Nat.le_refl _) _).drew
      have ka1 := (hbal.cell (p := ⟨w.heap.size + 1, 1, none⟩) hRlt).trans x1
      have ka2 := (hbal.frozen (p := ⟨w.heap.size + 1, 1, none⟩) hRlt).trans z1
      have ka3 := (show (wr.alloc (.cells #[.int .i64 v] 3)).cell? ⟨w.heap.size + 1, 1, none⟩ = some (.slice ad k c) from ka1)
      have ka4 := (show (wr.alloc (.cells #[.int .i64 v] 3)).frozen? ⟨w.heap.size + 1, 1, none⟩ = false from ka2)
      have X1 := Lib.hid x1
      have Z1 := Lib.hid z1
      clear hbal
      have hpush : ∀ (g' cap : Nat) (w2 : World), w2.ownsRow (w.heap.size + 2) 3 1 (.slice (some ⟨g', 0, none⟩) (k + 1) cap) (k + 1) (ints (List.replicate k (v : Int)) ++ (#[Value.int .i64 (v : Int)]).toList) → Below (w.heap.size + 2) wr w2 →
          (∃ ad c, (w2.setCell ⟨w.heap.size + 1, 1, none⟩ (.slice (some ⟨g', 0, none⟩) (k + 1) cap)).heap[w.heap.size + 1]? = some (.cells #[.int .i64 W, .slice ad (k + 1) c] 26 (0, 0)) ∧ (w2.setCell ⟨w.heap.size + 1, 1, none⟩ (.slice (some ⟨g', 0, none⟩) (k + 1) cap)).ownsRow (w.heap.size + 2) 3 1 (.slice ad (k + 1) c) (k + 1) (ints (List.replicate (k + 1) (v : Int)))) ∧
            (w2.setCell ⟨w.heap.size + 1, 1, none⟩ (.slice (some ⟨g', 0, none⟩) (k + 1) cap)).heap[w.heap.size]? = some (.cells #[.int .i64 0, .slice none 0 0] 26 (0, 0)) ∧ Below w.heap.size w (w2.setCell ⟨w.heap.size + 1, 1, none⟩ (.slice (some ⟨g', 0, none⟩) (k + 1) cap)) := by
        intro g' cap w2 q1 q2
        have hR2 := (q2.block (w.heap.size + 1) (by omega)).trans HBLK.out
        have hB2 := (q2.block w.heap.size (by omega)).trans HBOX.out
        refine ⟨⟨_, _, heap_setCell_same w2 (w.heap.size + 1) 1 _ _ _ hR2, ?_⟩, ?_, (HB.out.trans (q2.mono (by omega))).setCell (by show w.heap.size ≤ w.heap.size + 1; omega) _⟩
        · refine ownsRow_setCell_below ?_ (by show w.heap.size + 1 < w.heap.size + 2; omega) _
          rw [List.replicate_succ', ints_append]
          exact q1
        · rw [Below.heap_setCell _ _ _ _ (by show w.heap.size ≠ w.heap.size + 1; omega)]
          exact hB2
      have HPUSH := Lib.hid hpush
      clear hpush
      go_wp2
      go_region_law (refine step_app1 (by rfl) (.tmp 22) (.tmp 26) 24 (by rfl) (w.heap.size + 2) 3 _ 1 8 Tryz.elemInt _ k _ _ _ _ (by rfl) (by rfl) rfl HOWN.out (by rfl) (by simp [Value.oneCell']) (by unfold maxLen; omega) (by omega) (by omega) ?_; intro g' cap w2 q1 q2 q3 q4 q5 q6; have kc2 := (q2.cell (p := ⟨w.heap.size + 1, 1, none⟩) (by first | omega | (simp; done) | (simp; omega))).trans X1.out; have kf2 := (q2.frozen (p := ⟨w.heap.size + 1, 1, none⟩) (by first | omega | (simp; done) | (simp; omega))).trans Z1.out)
      all_goals go_wp2
      all_goals go_roundw
      all_goals (first
        | (show _ < _; simp [intOf]; omega)
        | exact ⟨k + 1, hlt, by go_num, HPUSH.out _ _ _ q1 q2⟩)
    · obtain rfl : k = H := by omega
      have z0 : wr.cell? ⟨w.heap.size + 1, 0, none⟩ = some (.int .i64 W) := by rw [cell_of_row wr _ 0 _ _ _ HBLK.out]; rfl
      have z1 : wr.cell? ⟨w.heap.size + 1, 1, none⟩ = some (.slice ad k c) := by rw [cell_of_row wr _ 1 _ _ _ HBLK.out]; rfl
      have y0 : wr.cell? ⟨w.heap.size, 0, none⟩ = some (.int .i64 0) := by rw [cell_of_row wr _ 0 _ _ _ HBOX.out]; rfl
      have y1 : wr.cell? ⟨w.heap.size, 1, none⟩ = some (.slice none 0 0) := by rw [cell_of_row wr _ 1 _ _ _ HBOX.out]; rfl
      have f0 := frozen_of_row wr w.heap.size 0 _ _ HBOX.out
      have f1 := frozen_of_row wr w.heap.size 1 _ _ HBOX.out
      go_wp2
      have c0 : ((wr.setCell ⟨w.heap.size, 0, none⟩ (.int .i64 W)).setCell ⟨w.heap.size, 1, none⟩ (.slice ad k c)).cell? ⟨w.heap.size, 0, none⟩ = some (.int .i64 W) := by
        rw [World.cell?_setCell_other _ _ _ _ (by simp)]
        exact World.cell?_setCell_same _ _ _ y0
      have c1 : ((wr.setCell ⟨w.heap.size, 0, none⟩ (.int .i64 W)).setCell ⟨w.heap.size, 1, none⟩ (.slice ad k c)).cell? ⟨w.heap.size, 1, none⟩ = some (.slice ad k c) :=
        World.cell?_setCell_same _ _ _ ((World.cell?_setCell_other _ _ _ _ (by simp)).trans y1)
      have ho2 := ownsRow_setCell_below (ownsRow_setCell_below HOWN.out (a := ⟨w.heap.size, 0, none⟩) (by show w.heap.size < w.heap.size + 2; omega) (.int .i64 W)) (a := ⟨w.heap.size, 1, none⟩) (by show w.heap.size < w.heap.size + 2; omega) (.slice ad k c)
      refine bodyPost_ret (v := .tuple #[.agg #[.int .i64 W, .slice ad k c], .bool true]) (by simp [results, Tryz.results85, go_sem, c0, c1]) rfl ⟨_, _, rfl, ownsRow_rebase ho2 (by omega), (HB.out.setCell (Nat.le_refl _) _).setCell (Nat.le_refl _) _⟩

theorem implRc (x y : Int) (w : World) : Calls Tryz.prog 85 #[.int .i64 x, .int .i64 y] w (RcAt w x y) := by
  by_cases h : RcOk x y
  · obtain ⟨⟨h1, h2⟩, h3, h4⟩ := h
    obtain ⟨W, rfl⟩ := Int.eq_ofNat_of_zero_le (by omega : 0 ≤ x)
    obtain ⟨H, rfl⟩ := Int.eq_ofNat_of_zero_le (by omega : 0 ≤ y)
    exact implRc_yes W H w (by omega) (by omega)
  · exact implRc_no x y w h
end Go.Proofs.YtajmdgcnnipdoaaGreatDoor

/- Tiles: the walks of HasTiling and TilesRectangle, the reference's and the program's. -/
namespace Go.Proofs.YtajmdgcnnipdoaaGreatDoor
open Go.RowKit

attribute [local go_sem ↓] Go.wp_at_zero Go.wp_at_succ

theorem shpsAt_one {w : World} {g e : Nat} {ad : Option Addr} {c : Nat} {l : List Cl} (h : w.heap[g]? = some (.cells #[.slice ad l.length c] e (0, 0))) (hc : CellsAt w ad (cls l)) : ShpsAt w (some ⟨g, 0, none⟩) [l] :=
  ⟨[.slice ad l.length c], elem_at h, ⟨⟨ad, c, rfl, hc⟩, trivial⟩⟩
/-- Whether a shape tiles a rectangle. -/
def trR (l : List Cl) (x y : Int) : Bool := decide (RcOk x y) && someT (regF (rcB x y) (rcR x y) [l])
theorem pcs_one {l : List Cl} : Pcs [l] ↔ Shape l := by
  constructor
  · intro h; exact h.1 l (by simp)
  · intro h
    exact ⟨fun p hp => by rw [List.mem_singleton.1 hp]; exact h, by simp, by simp⟩
theorem regF_shape {b : Int} {xs : List Int} {l : List Cl} (h : ¬ Shape l) : regF b xs [l] = [] := regF_no (fun q => h (pcs_one.1 q.2))
theorem rect_pc : ∀ W : Nat, W < 7 → ∀ H : Nat, H < 7 → pc (regMask (W : Int) (List.replicate H ((2 ^ W - 1 : Nat) : Int))) = W * H := by decide +kernel
/-- A rectangle that is tiled has as many cells as its pieces together. -/
theorem tiled_div {W H : Nat} (hW : 1 ≤ W ∧ W ≤ 6) (hH : 1 ≤ H ∧ H ≤ 6) {l : List Cl} (h : someT (regF (rcB W H) (rcR W H) [l]) = true) : W * H % l.length = 0 := by
  have hok : RcOk W H := ⟨⟨by omega, by omega⟩, by omega, by omega⟩
  rw [show rcB W H = (W : Int) from if_pos hok, show rcR W H = List.replicate H ((2 ^ W - 1 : Nat) : Int) by unfold rcR; rw [if_pos hok, Int.toNat_natCast, Int.toNat_natCast]] at h
  by_cases hr : Reg (W : Int) (List.replicate H ((2 ^ W - 1 : Nat) : Int)) ∧ Pcs [l]
  · rw [regF_yes hr.1 hr.2] at h
    cases hF : srchF (allL W (List.replicate H ((2 ^ W - 1 : Nat) : Int)) [l]) (regMask (W : Int) (List.replicate H ((2 ^ W - 1 : Nat) : Int))) (regMask (W : Int) (List.replicate H ((2 ^ W - 1 : Nat) : Int))) with
    | nil => rw [hF] at h; cases h
    | cons t Ts =>
      have hp := srchF_pc (A := allL W (List.replicate H ((2 ^ W - 1 : Nat) : Int)) [l]) (n := l.length) (fun v hv => by
        obtain ⟨s, hs, e⟩ := allL_pc hr.1 [l] v hv
        rw [List.mem_singleton.1 hs] at e
        exact e) _ _ t (by rw [hF]; simp)
      rw [rect_pc W (by omega) H (by omega)] at hp
      rw [hp]
      exact Nat.mul_mod_right _ _
  · rw [regF_no hr] at h
    cases h

set_option maxRecDepth 100000 in
set_option maxHeartbeats 3200000 in
theorem specHasT (b : Int) (ad : Option Addr) (c : Nat) (xs : List Int) (sa : Option Addr) (cs : Nat) (ps : List (List Cl)) (w : World) (hn : xs.length ≤ 1048576) (hnp : ps.length ≤ 1048576) (hl : ∀ p ∈ ps, p.length ≤ 1048576) (hc : CellsAt w ad (ints xs)) (hcp : ShpsAt w sa ps) :
    Calls Tryz.prog 51 #[.agg #[.int .i64 b, .slice ad xs.length c], .slice sa ps.length cs] w fun e w' => e = .returned (.bool (someT (regF b xs ps))) ∧ Below w.heap.size w w' := by
  obtain ⟨wA, hwA⟩ : ∃ wA, wA = w.alloc (.cells #[.int .i64 b, .slice ad xs.length c] 26) := ⟨_, rfl⟩
  have hbA : Below w.heap.size w wA := by rw [hwA]; exact (Below.refl _ _).alloc (Nat.le_refl _) _
  have hblkA : (w.alloc (.cells #[.int .i64 b, .slice ad xs.length c] 26)).heap[w.heap.size]? = some (.cells #[.int .i64 b, .slice ad xs.length c] 26 (0, 0)) := heap_alloc_new w _
  have x10 : (w.alloc (.cells #[.int .i64 b, .slice ad xs.length c] 26)).cell? ⟨w.heap.size, 0, none⟩ = some (.int .i64 b) := by rw [cell_of_row _ _ 0 _ _ _ hblkA]; rfl
  have x11 : (w.alloc (.cells #[.int .i64 b, .slice ad xs.length c] 26)).cell? ⟨w.heap.size, 1, none⟩ = some (.slice ad xs.length c) := by rw [cell_of_row _ _ 1 _ _ _ hblkA]; rfl
  have HBA := Lib.hid hbA
  have HWA := Lib.hid hwA
  have hszA := hbA.size
  have HF := Lib.hid (specFR b ad c xs sa cs ps wA hn hnp hl (hc.below hbA) (hcp.below hbA))
  unfold FoundAt at HF
  clear hbA hblkA hwA hc hcp hl
  generalize firstT (regF b xs ps) = r0 at HF
  generalize someT (regF b xs ps) = r1 at HF ⊢
  go_enter Tryz.func51, Tryz.ntmps51
  go_wp2_with fail
  rw [← HWA.out]
  refine HF.out.mono ?_
  rintro e w1 ⟨a1, c1, rfl, _, hb1⟩
  have HB1 := Lib.hid (HBA.out.trans (hb1.mono hszA))
  clear hb1
  go_wp2
  go_ret
  exact ⟨rfl, HB1.out⟩

set_option maxRecDepth 100000 in
set_option maxHeartbeats 3200000 in
theorem implHasT (b : Int) (ad : Option Addr) (c : Nat) (xs : List Int) (sa : Option Addr) (cs : Nat) (ps : List (List Cl)) (w : World) (hn : xs.length ≤ 1048576) (hnp : ps.length ≤ 1048576) (hl : ∀ p ∈ ps, p.length ≤ 1048576) (hT : Tab w) (hc : CellsAt w ad (ints xs)) (hcp : ShpsAt w sa ps) :
    Calls Tryz.prog 30 #[.agg #[.int .i64 b, .slice ad xs.length c], .slice sa ps.length cs] w fun e w' => e = .returned (.bool (someT (regF b xs ps))) ∧ Below w.heap.size w w' := by
  have HT := Lib.hid hT
  clear hT
  obtain ⟨wA, hwA⟩ : ∃ wA, wA = w.alloc (.cells #[.int .i64 b, .slice ad xs.length c] 26) := ⟨_, rfl⟩
  have hbA : Below w.heap.size w wA := by rw [hwA]; exact (Below.refl _ _).alloc (Nat.le_refl _) _
  have hblkA : (w.alloc (.cells #[.int .i64 b, .slice ad xs.length c] 26)).heap[w.heap.size]? = some (.cells #[.int .i64 b, .slice ad xs.length c] 26 (0, 0)) := heap_alloc_new w _
  have x10 : (w.alloc (.cells #[.int .i64 b, .slice ad xs.length c] 26)).cell? ⟨w.heap.size, 0, none⟩ = some (.int .i64 b) := by rw [cell_of_row _ _ 0 _ _ _ hblkA]; rfl
  have x11 : (w.alloc (.cells #[.int .i64 b, .slice ad xs.length c] 26)).cell? ⟨w.heap.size, 1, none⟩ = some (.slice ad xs.length c) := by rw [cell_of_row _ _ 1 _ _ _ hblkA]; rfl
  have HBA := Lib.hid hbA
  have HWA := Lib.hid hwA
  have hszA := hbA.size
  have HF := Lib.hid (implFR b ad c xs sa cs ps wA hn hnp hl (HT.out.below HBA.out) (hc.below hbA) (hcp.below hbA))
  unfold FoundAt at HF
  clear hbA hblkA hwA hc hcp hl
  generalize firstT (regF b xs ps) = r0 at HF
  generalize someT (regF b xs ps) = r1 at HF ⊢
  go_enter Tryz.func30, Tryz.ntmps30
  go_wp2_with fail
  rw [← HWA.out]
  refine HF.out.mono ?_
  rintro e w1 ⟨a1, c1, rfl, _, hb1⟩
  have HB1 := Lib.hid (HBA.out.trans (hb1.mono hszA))
  clear hb1
  go_wp2
  go_ret
  exact ⟨rfl, HB1.out⟩

set_option maxRecDepth 100000 in
set_option maxHeartbeats 3200000 in
theorem implTR (ad : Option Addr) (c : Nat) (l : List Cl) (x y : Int) (w : World) (hn : l.length ≤ 1048576) (hT : Tab w) (hc : CellsAt w ad (cls l)) :
    Calls Tryz.prog 32 #[.slice ad l.length c, .int .i64 x, .int .i64 y] w fun e w' => e = .returned (.bool (trR l x y)) ∧ Below w.heap.size w w' := by
  have hdef : trR l x y = (decide (RcOk x y) && someT (regF (rcB x y) (rcR x y) [l])) := rfl
  rw [hdef]
  have HRC := Lib.hid (implRc x y w)
  have hRl := rcR_length x y
  have HC := Lib.hid hc
  have HT := Lib.hid hT
  have HH := Lib.hid (fun (b : Int) (R : List Int) (h6 : R.length ≤ 6) a3 c3 g w' h0 h1 h2 => implHasT b a3 c3 R (some ⟨g, 0, none⟩) 1 [l] w' (Nat.le_trans h6 (by decide)) (by simp) (fun p hp => by rw [List.mem_singleton.1 hp]; exact hn) h0 h1 h2)
  unfold RcAt at HRC
  clear hc hT hdef
  generalize rcB x y = b at HRC ⊢
  generalize rcR x y = R at HRC hRl ⊢
  generalize decide (RcOk x y) = ok at HRC ⊢
  have HH2 := Lib.hid (HH.out b R hRl)
  clear HH
  generalize someT (regF b R [l]) = s at HH2 ⊢
  cases ok with
  | true =>
    go_enter Tryz.func32, Tryz.ntmps32
    go_wp2_with fail
    refine HRC.out.mono ?_
    rintro e w1 ⟨b0, d0, rfl, ho1, hb1⟩
    obtain ⟨wB, hwB⟩ : ∃ wB, wB = (w1.alloc (.cells #[.int .i64 b, .slice b0 R.length d0] 26)).alloc (.cells #[.slice ad l.length c] 40) := ⟨_, rfl⟩
    have hblk : (w1.alloc (.cells #[.int .i64 b, .slice b0 R.length d0] 26)).heap[w1.heap.size]? = some (.cells #[.int .i64 b, .slice b0 R.length d0] 26 (0, 0)) := heap_alloc_new w1 _
    have x10 : (w1.alloc (.cells #[.int .i64 b, .slice b0 R.length d0] 26)).cell? ⟨w1.heap.size, 0, none⟩ = some (.int .i64 b) := by rw [cell_of_row _ _ 0 _ _ _ hblk]; rfl
    have x11 : (w1.alloc (.cells #[.int .i64 b, .slice b0 R.length d0] 26)).cell? ⟨w1.heap.size, 1, none⟩ = some (.slice b0 R.length d0) := by rw [cell_of_row _ _ 1 _ _ _ hblk]; rfl
    have hbB : Below w1.heap.size w1 wB := by rw [hwB]; exact ((Below.refl _ _).alloc (Nat.le_refl _) _).alloc (by simp) _
    have hblkB : wB.heap[w1.heap.size + 1]? = some (.cells #[.slice ad l.length c] 40 (0, 0)) := by
      have h := heap_alloc_new (w1.alloc (.cells #[.int .i64 b, .slice b0 R.length d0] 26)) (.cells #[.slice ad l.length c] 40)
      rw [hwB]
      simpa using h
    have hsz1 := hb1.size
    have HB := Lib.hid (hb1.trans (hbB.mono hsz1))
    have hszB := HB.out.size
    have HCALL := Lib.hid (HH2.out b0 d0 (w1.heap.size + 1) wB (HT.out.below HB.out) ((ownsRow_cellsAt ho1).below hbB) (shpsAt_one hblkB (HC.out.below HB.out)))
    have HWB := Lib.hid hwB
    clear hb1 ho1 hwB hbB hblk hblkB
    go_wp2_with fail
    rw [← HWB.out]
    refine HCALL.out.mono ?_
    rintro e w2 ⟨rfl, hb2⟩
    have HB2 := Lib.hid (HB.out.trans (hb2.mono hszB))
    clear hb2
    go_wp2
    go_ret
    exact ⟨by rw [Bool.true_and]; rfl, HB2.out⟩
  | false =>
    go_enter Tryz.func32, Tryz.ntmps32
    go_wp2_with fail
    refine HRC.out.mono ?_
    rintro e w1 ⟨b0, d0, rfl, ho1, hb1⟩
    have HB1 := Lib.hid (hb1.alloc hb1.size (.cells #[.int .i64 b, .slice b0 R.length d0] 26))
    clear ho1 hb1
    go_wp2
    go_ret
    exact ⟨rfl, HB1.out⟩

set_option maxRecDepth 100000 in
set_option maxHeartbeats 3200000 in
theorem specTR_no (ad : Option Addr) (c : Nat) (l : List Cl) (x y : Int) (w : World) (h : ¬ RcOk x y) :
    Calls Tryz.prog 37 #[.slice ad l.length c, .int .i64 x, .int .i64 y] w fun e w' => e = .returned (.bool (trR l x y)) ∧ Below w.heap.size w w' := by
  have hdef : trR l x y = false := by unfold trR; rw [decide_eq_false h]; rfl
  rw [hdef]
  have HRC := Lib.hid (specRc x y w)
  unfold RcAt at HRC
  rw [decide_eq_false h] at HRC
  clear hdef h
  generalize rcB x y = b at HRC
  generalize rcR x y = R at HRC
  go_enter Tryz.func37, Tryz.ntmps37
  go_wp2_with fail
  refine HRC.out.mono ?_
  rintro e w1 ⟨b0, d0, rfl, ho1, hb1⟩
  have HB1 := Lib.hid (hb1.alloc hb1.size (.cells #[.int .i64 b, .slice b0 R.length d0] 26))
  clear ho1 hb1
  go_wp2
  go_ret
  exact ⟨rfl, HB1.out⟩

set_option maxRecDepth 100000 in
set_option maxHeartbeats 3200000 in
theorem specTR_yes (ad : Option Addr) (c : Nat) (l : List Cl) (W H : Nat) (w : World) (hW : 1 ≤ W ∧ W ≤ 6) (hH : 1 ≤ H ∧ H ≤ 6) (hn : l.length ≤ 1048576) (hc : CellsAt w ad (cls l)) :
    Calls Tryz.prog 37 #[.slice ad l.length c, .int .i64 W, .int .i64 H] w fun e w' => e = .returned (.bool (trR l W H)) ∧ Below w.heap.size w w' := by
  have hok : RcOk W H := ⟨⟨by omega, by omega⟩, by omega, by omega⟩
  have hdef : trR l W H = someT (regF (rcB W H) (rcR W H) [l]) := by unfold trR; rw [decide_eq_true hok, Bool.true_and]
  rw [hdef]
  have HDIV := Lib.hid (fun h => tiled_div (l := l) hW hH h)
  have HRC := Lib.hid (specRc W H w)
  have hRl := rcR_length W H
  have HC := Lib.hid hc
  have HH := Lib.hid (fun (b : Int) (R : List Int) (h6 : R.length ≤ 6) a3 c3 g w' h1 h2 => specHasT b a3 c3 R (some ⟨g, 0, none⟩) 1 [l] w' (Nat.le_trans h6 (by decide)) (by simp) (fun p hp => by rw [List.mem_singleton.1 hp]; exact hn) h1 h2)
  have HSH := Lib.hid (fun w' h2 => specShape ad c l w' hn h2)
  have HNS := Lib.hid (fun b R (h : ¬ Shape l) => regF_shape (b := b) (xs := R) h)
  unfold RcAt at HRC
  rw [decide_eq_true hok] at HRC
  clear hc hdef hok
  generalize rcB W H = b at HRC HDIV ⊢
  generalize rcR W H = R at HRC HDIV hRl ⊢
  have HH2 := Lib.hid (HH.out b R hRl)
  have HNS2 := Lib.hid (HNS.out b R)
  clear HH HNS
  have hN : (W : Int) * (H : Int) = ((W * H : Nat) : Int) := by norm_cast
  have hNb : W * H ≤ 36 := Nat.mul_le_mul hW.2 hH.2
  generalize W * H = N at hN hNb HDIV
  have sN : IntKind.i64.wrap (N : Int) = (N : Int) := IntWalk.i64_in _ (by omega)
  by_cases hs : Shape l
  · have hl1 := hs.2.1
    rw [decide_eq_true hs] at HSH
    clear HNS2 hs
    have hl0 : ¬ ((l.length : Int) = 0) := by omega
    have hrm : (N : Int).tmod (l.length : Int) = ((N % l.length : Nat) : Int) := by rw [Int.tmod_eq_emod_of_nonneg (by omega)]; norm_cast
    have hrm2 : (N : Int) % (l.length : Int) = ((N % l.length : Nat) : Int) := by norm_cast
    have hqb : N % l.length ≤ 36 := Nat.le_trans (Nat.mod_le _ _) hNb
    generalize N % l.length = q at hrm hrm2 hqb HDIV
    have sq : IntKind.i64.wrap (q : Int) = (q : Int) := IntWalk.i64_in _ (by omega)
    by_cases hq : q = 0
    · subst hq
      have hq0 : (((0 : Nat) : Int) == 0) = true := rfl
      clear HDIV
      generalize someT (regF b R [l]) = s at HH2 ⊢
      go_enter Tryz.func37, Tryz.ntmps37
      go_wp2_with fail
      refine HRC.out.mono ?_
      rintro e w1 ⟨b0, d0, rfl, ho1, hb1⟩
      obtain ⟨wA, hwA⟩ : ∃ wA, wA = w1.alloc (.cells #[.int .i64 b, .slice b0 R.length d0] 26) := ⟨_, rfl⟩
      have hblk : wA.heap[w1.heap.size]? = some (.cells #[.int .i64 b, .slice b0 R.length d0] 26 (0, 0)) := by rw [hwA]; exact heap_alloc_new w1 _
      have hbA : Below w1.heap.size w1 wA := by rw [hwA]; exact (Below.refl _ _).alloc (Nat.le_refl _) _
      have hzA : wA.heap.size = w1.heap.size + 1 := by rw [hwA]; simp
      have hsz1 := hb1.size
      have HBA := Lib.hid (hb1.trans (hbA.mono hsz1))
      have HBLK := Lib.hid hblk
      have HROW := Lib.hid ((ownsRow_cellsAt ho1).below hbA)
      have HWA := Lib.hid hwA
      have hszA := HBA.out.size
      clear hb1 ho1 hwA hbA hblk
      go_wp2_with fail
      rw [← HWA.out]
      refine (HSH.out wA (HC.out.below HBA.out)).mono ?_
      rintro e w2 ⟨rfl, hb2⟩
      have hz2 := hb2.size
      have hblk2 := (hb2.block w1.heap.size (by omega)).trans HBLK.out
      have x10 : w2.cell? ⟨w1.heap.size, 0, none⟩ = some (.int .i64 b) := by rw [cell_of_row _ _ 0 _ _ _ hblk2]; rfl
      have x11 : w2.cell? ⟨w1.heap.size, 1, none⟩ = some (.slice b0 R.length d0) := by rw [cell_of_row _ _ 1 _ _ _ hblk2]; rfl
      have HB2 := Lib.hid (HBA.out.trans (hb2.mono hszA))
      have hsz2 := HB2.out.size
      obtain ⟨wB, hwB⟩ : ∃ wB, wB = w2.alloc (.cells #[.slice ad l.length c] 40) := ⟨_, rfl⟩
      have hbB : Below w2.heap.size w2 wB := by rw [hwB]; exact (Below.refl _ _).alloc (Nat.le_refl _) _
      have hblkB : wB.heap[w2.heap.size]? = some (.cells #[.slice ad l.length c] 40 (0, 0)) := by rw [hwB]; exact heap_alloc_new w2 _
      have HB := Lib.hid (HB2.out.trans (hbB.mono hsz2))
      have hszB := HB.out.size
      have HCALL := Lib.hid (HH2.out b0 d0 w2.heap.size wB ((HROW.out.below hb2).below hbB) (shpsAt_one hblkB (HC.out.below HB.out)))
      have HWB := Lib.hid hwB
      clear hb2 hwB hbB hblk2 hblkB
      go_wp2_with fail
      rw [← HWB.out]
      refine HCALL.out.mono ?_
      rintro e w3 ⟨rfl, hb3⟩
      have HB3 := Lib.hid (HB.out.trans (hb3.mono hszB))
      clear hb3
      go_wp2
      go_ret
      exact ⟨rfl, HB3.out⟩
    · have hq0 : ((q : Int) == 0) = false := by simp; omega
      have hq1 : (q == 0) = false := by simp; omega
      have hf : someT (regF b R [l]) = false := by
        cases hsm : someT (regF b R [l]) with
        | false => rfl
        | true => exact absurd (HDIV.out hsm) hq
      rw [hf]
      clear HDIV hf hq
      go_enter Tryz.func37, Tryz.ntmps37
      go_wp2_with fail
      refine HRC.out.mono ?_
      rintro e w1 ⟨b0, d0, rfl, ho1, hb1⟩
      obtain ⟨wA, hwA⟩ : ∃ wA, wA = w1.alloc (.cells #[.int .i64 b, .slice b0 R.length d0] 26) := ⟨_, rfl⟩
      have hblk : wA.heap[w1.heap.size]? = some (.cells #[.int .i64 b, .slice b0 R.length d0] 26 (0, 0)) := by rw [hwA]; exact heap_alloc_new w1 _
      have hbA : Below w1.heap.size w1 wA := by rw [hwA]; exact (Below.refl _ _).alloc (Nat.le_refl _) _
      have hzA : wA.heap.size = w1.heap.size + 1 := by rw [hwA]; simp
      have hsz1 := hb1.size
      have HBA := Lib.hid (hb1.trans (hbA.mono hsz1))
      have HBLK := Lib.hid hblk
      have HROW := Lib.hid ((ownsRow_cellsAt ho1).below hbA)
      have HWA := Lib.hid hwA
      have hszA := HBA.out.size
      clear hb1 ho1 hwA hbA hblk
      go_wp2_with fail
      rw [← HWA.out]
      refine (HSH.out wA (HC.out.below HBA.out)).mono ?_
      rintro e w2 ⟨rfl, hb2⟩
      have HB2 := Lib.hid (HBA.out.trans (hb2.mono hszA))
      clear hb2
      go_wp2
      go_ret
      exact ⟨rfl, HB2.out⟩
  · have hf : someT (regF b R [l]) = false := by rw [HNS2.out hs]; rfl
    rw [decide_eq_false hs] at HSH
    rw [hf]
    clear HNS2 hs hf HDIV
    go_enter Tryz.func37, Tryz.ntmps37
    go_wp2_with fail
    refine HRC.out.mono ?_
    rintro e w1 ⟨b0, d0, rfl, ho1, hb1⟩
    obtain ⟨wA, hwA⟩ : ∃ wA, wA = w1.alloc (.cells #[.int .i64 b, .slice b0 R.length d0] 26) := ⟨_, rfl⟩
    have hblk : wA.heap[w1.heap.size]? = some (.cells #[.int .i64 b, .slice b0 R.length d0] 26 (0, 0)) := by rw [hwA]; exact heap_alloc_new w1 _
    have hbA : Below w1.heap.size w1 wA := by rw [hwA]; exact (Below.refl _ _).alloc (Nat.le_refl _) _
    have hzA : wA.heap.size = w1.heap.size + 1 := by rw [hwA]; simp
    have hsz1 := hb1.size
    have HBA := Lib.hid (hb1.trans (hbA.mono hsz1))
    have HBLK := Lib.hid hblk
    have HROW := Lib.hid ((ownsRow_cellsAt ho1).below hbA)
    have HWA := Lib.hid hwA
    have hszA := HBA.out.size
    clear hb1 ho1 hwA hbA hblk
    go_wp2_with fail
    rw [← HWA.out]
    refine (HSH.out wA (HC.out.below HBA.out)).mono ?_
    rintro e w2 ⟨rfl, hb2⟩
    have HB2 := Lib.hid (HBA.out.trans (hb2.mono hszA))
    clear hb2
    go_wp2
    go_ret
    exact ⟨rfl, HB2.out⟩
theorem specTR (ad : Option Addr) (c : Nat) (l : List Cl) (x y : Int) (w : World) (hn : l.length ≤ 1048576) (hc : CellsAt w ad (cls l)) :
    Calls Tryz.prog 37 #[.slice ad l.length c, .int .i64 x, .int .i64 y] w fun e w' => e = .returned (.bool (trR l x y)) ∧ Below w.heap.size w w' := by
  by_cases h : RcOk x y
  · obtain ⟨⟨h1, h2⟩, h3, h4⟩ := h
    obtain ⟨W, rfl⟩ := Int.eq_ofNat_of_zero_le (by omega : 0 ≤ x)
    obtain ⟨H, rfl⟩ := Int.eq_ofNat_of_zero_le (by omega : 0 ≤ y)
    exact specTR_yes ad c l W H w (by omega) (by omega) hn hc
  · exact specTR_no ad c l x y w h
end Go.Proofs.YtajmdgcnnipdoaaGreatDoor
