/- DrawR7: DrawIsBlocking. -/
import Derived.Test.YtcoggnoeafpgbaaGreatAllPlac
import Derived.Test.YtcoggnoeafpgbaaGreatAllD5
import Derived.Test.YtcoggnoeafpgbaaGreatAllFewB
import Derived.Test.YtcoggnoeafpgbaaGreatPacksL
namespace Go.Proofs.YtcoggnoeafpgbaaGreat
open Go.RowKit

attribute [local go_sem ↓] Go.wp_at_zero Go.wp_at_succ

theorem fewR_wf (b : Int) (xs : List Int) (ps : List (List Cl)) : (Lit.int .i64 (fewR b xs ps)).wf = true := by
  have h : 0 ≤ fewR b xs ps ∧ fewR b xs ps < 68719476736 := fewR_small b xs ps
  exact Go.WalkArith.wf_i64 ⟨Int.le_trans (by decide) h.1, Int.le_trans (Int.le_of_lt h.2) (by decide)⟩

set_option maxRecDepth 100000 in
set_option maxHeartbeats 3200000 in
theorem drawBlk_any (ad : Option Addr) (cap : Nat) (bs : List Nat) (w : World) (hn : bs.length ≤ 1048576) (hb : ∀ b ∈ bs, b < 256) (hc : CellsAt w ad (bts bs)) : RegPcsV 31 #[.slice ad bs.length cap] w := by
  unfold RegPcsV
  have hbA : Below w.heap.size w (w.alloc (.cells #[.int .i64 0, .slice none 0 0] 29)) := (Below.refl _ _).alloc (Nat.le_refl _) _
  have hzA : (w.alloc (.cells #[.int .i64 0, .slice none 0 0] 29)).heap.size = w.heap.size + 1 := by simp
  have hkA : (w.alloc (.cells #[.int .i64 0, .slice none 0 0] 29)).heap[w.heap.size]? = some (.cells #[.int .i64 0, .slice none 0 0] 29 (0, 0)) := heap_alloc_new w _
  have hN := l20Both_any ad cap bs (w.alloc (.cells #[.int .i64 0, .slice none 0 0] 29)) hn hb (hc.below hbA)
  unfold RegPcs at hN
  have HN := Lib.hid hN
  have HBA := Lib.hid hbA
  clear hn hb hc hbA hN
  go_enter Tryz.func31, Tryz.ntmps31
  go_upto_region 1 with (fail)
  generalize w.alloc (.cells #[.int .i64 0, .slice none 0 0] 29) = wA at hzA hkA HN HBA ⊢
  go_wp2_with fail
  refine HN.out.mono ?_
  rintro e w1 ⟨b, a, c, xs, va, cv, ps, rfl, hb7, hl9, hp1, hp3, hp80, ho1, hf1, hb1⟩
  have hk1 := (hb1.block w.heap.size (by omega)).trans hkA
  have hs1 := hb1.size
  have hb3 : Below w1.heap.size w1 (w1.alloc (.cells #[.int .i64 b, .slice a xs.length c] 29)) := (Below.refl _ _).alloc (Nat.le_refl _) _
  have hk3 : (w1.alloc (.cells #[.int .i64 b, .slice a xs.length c] 29)).heap[w1.heap.size]? = some (.cells #[.int .i64 b, .slice a xs.length c] 29 (0, 0)) := heap_alloc_new w1 _
  have hk3b := (hb3.block w.heap.size (by omega)).trans hk1
  have hz3 : (w1.alloc (.cells #[.int .i64 b, .slice a xs.length c] 29)).heap.size = w1.heap.size + 1 := by simp
  have HO3 := Lib.hid (ownsRow_far_below ho1 hb3 (Nat.le_refl _))
  have HF3 := Lib.hid (hf1.below hb3)
  have HB3 := Lib.hid (HBA.out.trans ((hb1.trans (hb3.mono hb1.size)).mono (by omega)))
  have HB7 := Lib.hid hb7
  have HP80 := Lib.hid hp80
  clear ho1 hf1 hb1 hb3 hk1 hkA hb7 hp80
  go_upto_region 2 with (fail)
  generalize w1.alloc (.cells #[.int .i64 b, .slice a xs.length c] 29) = w3 at hk3 hk3b hz3 HO3 HF3 HB3 ⊢
  obtain ⟨y0, y1, y2, y3⟩ := boxAt hk3
  obtain ⟨va', cv', hv, hsa⟩ := HF3.out.form
  injection hv with hv1 _ hv2
  subst hv1 hv2
  have hn9 : xs.length ≤ 1048576 := by omega
  have hp9 : ps.length ≤ 1048576 := by omega
  have hl9b : ∀ p ∈ ps, p.length ≤ 1048576 := fun p h => by have := HP80.out p h; omega
  have HFI := Lib.hid (specFB b a c xs va cv ps w3 hn9 hp9 hl9b (ownsRow_cellsAt HO3.out) hsa)
  have HFA := Lib.hid (fewR_wf b xs ps)
  clear hsa hn9 hp9 hl9b
  go_wp2_with fail
  refine HFI.out.mono ?_
  rintro e w4 ⟨rfl, hb4⟩
  have hs4 := hb4.size
  have hk4 := (hb4.block w1.heap.size (by omega)).trans hk3
  have hk4b := (hb4.block w.heap.size (by omega)).trans hk3b
  have HO4 := Lib.hid (ownsRow_far_below HO3.out hb4 (Nat.le_refl _))
  have HF4 := Lib.hid (HF3.out.below hb4)
  have HB4 := Lib.hid (HB3.out.trans (hb4.mono (by omega)))
  obtain ⟨q, hq⟩ : ∃ q, q = bs.length % 3 := ⟨_, rfl⟩
  have hm : (bs.length : Int).tmod 3 = (q : Int) := by rw [hq]; norm_cast
  obtain ⟨r, hr⟩ : ∃ r, r = bs.length % 4 := ⟨_, rfl⟩
  have hm4 : (bs.length : Int).tmod 4 = (r : Int) := by rw [hr]; norm_cast
  have hr4 : r < 4 := by omega
  clear hb4 y0 y1 y2 y3 hk3 hk3b hq hr
  obtain ⟨y0, y1, y2, y3⟩ := boxAt hk4
  obtain ⟨u0, u1, f0, f1⟩ := boxAt hk4b
  generalize fewR b xs ps = V at HFA ⊢
  by_cases hs : SmallP b xs ps ∧ 0 < q
  · have hq0 : (0 : Int) < (q : Int) := by omega
    rw [decide_eq_true hs.1]
    clear hs
    have hbx : Below w.heap.size w4 ((w4.setCell ⟨w.heap.size, 0, none⟩ (.int .i64 b)).setCell ⟨w.heap.size, 1, none⟩ (.slice a xs.length c)) := box_below (Nat.le_refl _) _ _
    have ho5 := Lib.hid (row_box HO4.out (b := w.heap.size) (by omega) (.int .i64 b) (.slice a xs.length c))
    have hs5 := Lib.hid (far_box (b := w.heap.size) HF4.out (by omega) (.int .i64 b) (.slice a xs.length c))
    have HBX := Lib.hid hbx
    clear hbx
    go_wp2
    have e0 : ((w4.setCell ⟨w.heap.size, 0, none⟩ (.int .i64 b)).setCell ⟨w.heap.size, 1, none⟩ (.slice a xs.length c)).cell? ⟨w.heap.size, 0, none⟩ = some (.int .i64 b) := (by rw [World.cell?_setCell_other _ _ _ _ (by simp)]; exact World.cell?_setCell_same _ _ _ u0)
    have e1 : ((w4.setCell ⟨w.heap.size, 0, none⟩ (.int .i64 b)).setCell ⟨w.heap.size, 1, none⟩ (.slice a xs.length c)).cell? ⟨w.heap.size, 1, none⟩ = some (.slice a xs.length c) := World.cell?_setCell_same _ _ _ ((World.cell?_setCell_other _ _ _ _ (by simp)).trans u1)
    refine bodyPost_ret (v := .tuple #[.agg #[.int .i64 b, .slice a xs.length c], .slice va ps.length cv, .int .i64 V]) (by simp [results, Tryz.results31, go_sem, e0, e1]) rfl ⟨b, a, c, xs, va, cv, ps, V, rfl, HB7.out, hl9, hp1, hp3, HP80.out, HFA.out, ownsRow_rebase ho5.out (by omega), hs5.out.rebase (by omega), HB4.out.trans HBX.out⟩
  · have hrs : (decide (SmallP b xs ps) = false) ∨ (decide (SmallP b xs ps) = true ∧ ¬(0 : Int) < (q : Int)) := by
      by_cases h2 : SmallP b xs ps
      · exact Or.inr ⟨decide_eq_true h2, fun h3 => hs ⟨h2, by omega⟩⟩
      · exact Or.inl (decide_eq_false h2)
    clear hs
    have HB4w := Lib.hid (HB4.out)
    have ud0 : w4.drew.cell? ⟨w.heap.size, 0, none⟩ = some (.int .i64 0) := u0
    have ud1 : w4.drew.cell? ⟨w.heap.size, 1, none⟩ = some (.slice none 0 0) := u1
    have fd0 : w4.drew.frozen? ⟨w.heap.size, 0, none⟩ = false := f0
    have fd1 : w4.drew.frozen? ⟨w.heap.size, 1, none⟩ = false := f1
    have yd0 : w4.drew.cell? ⟨w1.heap.size, 0, none⟩ = some (.int .i64 b) := y0
    have yd1 : w4.drew.cell? ⟨w1.heap.size, 1, none⟩ = some (.slice a xs.length c) := y1
    -- A: the literal first, then the store
    have hbA1 : Below w4.heap.size w4 (w4.alloc (.cells #[.int .i64 0, .int .i64 1, .int .i64 (-1), .int .i64 5] 3)) := (Below.refl w4.heap.size w4).alloc (Nat.le_refl _) _
    have hkA1 := (hbA1.block w1.heap.size (lt_of_block hk4)).trans hk4
    have hkA2 := (hbA1.block w.heap.size (lt_of_block hk4b)).trans hk4b
    have hnA : (w4.alloc (.cells #[.int .i64 0, .int .i64 1, .int .i64 (-1), .int .i64 5] 3)).heap[w4.heap.size]? = some (.cells #[.int .i64 0, .int .i64 1, .int .i64 (-1), .int .i64 5] 3 (0, 0)) := heap_alloc_new w4 _
    obtain ⟨ka0, ka1, _, _⟩ := boxAt hkA1
    obtain ⟨ua0, ua1, fa0, fa1⟩ := boxAt hkA2
    have xa0 : (w4.alloc (.cells #[.int .i64 0, .int .i64 1, .int .i64 (-1), .int .i64 5] 3)).cell? ⟨w4.heap.size, 0, none⟩ = some (.int .i64 0) := by rw [cell_of_row _ _ 0 _ _ _ hnA]; rfl
    have xad0 : (w4.alloc (.cells #[.int .i64 0, .int .i64 1, .int .i64 (-1), .int .i64 5] 3)).drew.cell? ⟨w4.heap.size, 0, none⟩ = some (.int .i64 0) := xa0
    have xa1 : (w4.alloc (.cells #[.int .i64 0, .int .i64 1, .int .i64 (-1), .int .i64 5] 3)).cell? ⟨w4.heap.size, 1, none⟩ = some (.int .i64 1) := by rw [cell_of_row _ _ 1 _ _ _ hnA]; rfl
    have xad1 : (w4.alloc (.cells #[.int .i64 0, .int .i64 1, .int .i64 (-1), .int .i64 5] 3)).drew.cell? ⟨w4.heap.size, 1, none⟩ = some (.int .i64 1) := xa1
    have xa2 : (w4.alloc (.cells #[.int .i64 0, .int .i64 1, .int .i64 (-1), .int .i64 5] 3)).cell? ⟨w4.heap.size, 2, none⟩ = some (.int .i64 (-1)) := by rw [cell_of_row _ _ 2 _ _ _ hnA]; rfl
    have xad2 : (w4.alloc (.cells #[.int .i64 0, .int .i64 1, .int .i64 (-1), .int .i64 5] 3)).drew.cell? ⟨w4.heap.size, 2, none⟩ = some (.int .i64 (-1)) := xa2
    have xa3 : (w4.alloc (.cells #[.int .i64 0, .int .i64 1, .int .i64 (-1), .int .i64 5] 3)).cell? ⟨w4.heap.size, 3, none⟩ = some (.int .i64 5) := by rw [cell_of_row _ _ 3 _ _ _ hnA]; rfl
    have xad3 : (w4.alloc (.cells #[.int .i64 0, .int .i64 1, .int .i64 (-1), .int .i64 5] 3)).drew.cell? ⟨w4.heap.size, 3, none⟩ = some (.int .i64 5) := xa3
    have kad0 : (w4.alloc (.cells #[.int .i64 0, .int .i64 1, .int .i64 (-1), .int .i64 5] 3)).drew.cell? ⟨w1.heap.size, 0, none⟩ = some (.int .i64 b) := ka0
    have kad1 : (w4.alloc (.cells #[.int .i64 0, .int .i64 1, .int .i64 (-1), .int .i64 5] 3)).drew.cell? ⟨w1.heap.size, 1, none⟩ = some (.slice a xs.length c) := ka1
    have uad0 : (w4.alloc (.cells #[.int .i64 0, .int .i64 1, .int .i64 (-1), .int .i64 5] 3)).drew.cell? ⟨w.heap.size, 0, none⟩ = some (.int .i64 0) := ua0
    have uad1 : (w4.alloc (.cells #[.int .i64 0, .int .i64 1, .int .i64 (-1), .int .i64 5] 3)).drew.cell? ⟨w.heap.size, 1, none⟩ = some (.slice none 0 0) := ua1
    have fad0 : (w4.alloc (.cells #[.int .i64 0, .int .i64 1, .int .i64 (-1), .int .i64 5] 3)).drew.frozen? ⟨w.heap.size, 0, none⟩ = false := fa0
    have fad1 : (w4.alloc (.cells #[.int .i64 0, .int .i64 1, .int .i64 (-1), .int .i64 5] 3)).drew.frozen? ⟨w.heap.size, 1, none⟩ = false := fa1
    -- B: the store first
    have hzB : ((w4.setCell ⟨w.heap.size, 0, none⟩ (.int .i64 b)).setCell ⟨w.heap.size, 1, none⟩ (.slice a xs.length c)).heap.size = w4.heap.size := by simp
    have hbB1 : Below ((w4.setCell ⟨w.heap.size, 0, none⟩ (.int .i64 b)).setCell ⟨w.heap.size, 1, none⟩ (.slice a xs.length c)).heap.size ((w4.setCell ⟨w.heap.size, 0, none⟩ (.int .i64 b)).setCell ⟨w.heap.size, 1, none⟩ (.slice a xs.length c)) (((w4.setCell ⟨w.heap.size, 0, none⟩ (.int .i64 b)).setCell ⟨w.heap.size, 1, none⟩ (.slice a xs.length c)).alloc (.cells #[.int .i64 0, .int .i64 1, .int .i64 (-1), .int .i64 5] 3)) := (Below.refl ((w4.setCell ⟨w.heap.size, 0, none⟩ (.int .i64 b)).setCell ⟨w.heap.size, 1, none⟩ (.slice a xs.length c)).heap.size ((w4.setCell ⟨w.heap.size, 0, none⟩ (.int .i64 b)).setCell ⟨w.heap.size, 1, none⟩ (.slice a xs.length c))).alloc (Nat.le_refl _) _
    have hnB : (((w4.setCell ⟨w.heap.size, 0, none⟩ (.int .i64 b)).setCell ⟨w.heap.size, 1, none⟩ (.slice a xs.length c)).alloc (.cells #[.int .i64 0, .int .i64 1, .int .i64 (-1), .int .i64 5] 3)).heap[w4.heap.size]? = some (.cells #[.int .i64 0, .int .i64 1, .int .i64 (-1), .int .i64 5] 3 (0, 0)) := by have := heap_alloc_new ((w4.setCell ⟨w.heap.size, 0, none⟩ (.int .i64 b)).setCell ⟨w.heap.size, 1, none⟩ (.slice a xs.length c)) (.cells #[.int .i64 0, .int .i64 1, .int .i64 (-1), .int .i64 5] 3); rw [hzB] at this; exact this
    have xb0 : (((w4.setCell ⟨w.heap.size, 0, none⟩ (.int .i64 b)).setCell ⟨w.heap.size, 1, none⟩ (.slice a xs.length c)).alloc (.cells #[.int .i64 0, .int .i64 1, .int .i64 (-1), .int .i64 5] 3)).cell? ⟨w4.heap.size, 0, none⟩ = some (.int .i64 0) := by rw [cell_of_row _ _ 0 _ _ _ hnB]; rfl
    have xbd0 : (((w4.setCell ⟨w.heap.size, 0, none⟩ (.int .i64 b)).setCell ⟨w.heap.size, 1, none⟩ (.slice a xs.length c)).alloc (.cells #[.int .i64 0, .int .i64 1, .int .i64 (-1), .int .i64 5] 3)).drew.cell? ⟨w4.heap.size, 0, none⟩ = some (.int .i64 0) := xb0
    have xb1 : (((w4.setCell ⟨w.heap.size, 0, none⟩ (.int .i64 b)).setCell ⟨w.heap.size, 1, none⟩ (.slice a xs.length c)).alloc (.cells #[.int .i64 0, .int .i64 1, .int .i64 (-1), .int .i64 5] 3)).cell? ⟨w4.heap.size, 1, none⟩ = some (.int .i64 1) := by rw [cell_of_row _ _ 1 _ _ _ hnB]; rfl
    have xbd1 : (((w4.setCell ⟨w.heap.size, 0, none⟩ (.int .i64 b)).setCell ⟨w.heap.size, 1, none⟩ (.slice a xs.length c)).alloc (.cells #[.int .i64 0, .int .i64 1, .int .i64 (-1), .int .i64 5] 3)).drew.cell? ⟨w4.heap.size, 1, none⟩ = some (.int .i64 1) := xb1
    have xb2 : (((w4.setCell ⟨w.heap.size, 0, none⟩ (.int .i64 b)).setCell ⟨w.heap.size, 1, none⟩ (.slice a xs.length c)).alloc (.cells #[.int .i64 0, .int .i64 1, .int .i64 (-1), .int .i64 5] 3)).cell? ⟨w4.heap.size, 2, none⟩ = some (.int .i64 (-1)) := by rw [cell_of_row _ _ 2 _ _ _ hnB]; rfl
    have xbd2 : (((w4.setCell ⟨w.heap.size, 0, none⟩ (.int .i64 b)).setCell ⟨w.heap.size, 1, none⟩ (.slice a xs.length c)).alloc (.cells #[.int .i64 0, .int .i64 1, .int .i64 (-1), .int .i64 5] 3)).drew.cell? ⟨w4.heap.size, 2, none⟩ = some (.int .i64 (-1)) := xb2
    have xb3 : (((w4.setCell ⟨w.heap.size, 0, none⟩ (.int .i64 b)).setCell ⟨w.heap.size, 1, none⟩ (.slice a xs.length c)).alloc (.cells #[.int .i64 0, .int .i64 1, .int .i64 (-1), .int .i64 5] 3)).cell? ⟨w4.heap.size, 3, none⟩ = some (.int .i64 5) := by rw [cell_of_row _ _ 3 _ _ _ hnB]; rfl
    have xbd3 : (((w4.setCell ⟨w.heap.size, 0, none⟩ (.int .i64 b)).setCell ⟨w.heap.size, 1, none⟩ (.slice a xs.length c)).alloc (.cells #[.int .i64 0, .int .i64 1, .int .i64 (-1), .int .i64 5] 3)).drew.cell? ⟨w4.heap.size, 3, none⟩ = some (.int .i64 5) := xb3
    have eA0 : (((w4.alloc (.cells #[.int .i64 0, .int .i64 1, .int .i64 (-1), .int .i64 5] 3)).setCell ⟨w.heap.size, 0, none⟩ (.int .i64 b)).setCell ⟨w.heap.size, 1, none⟩ (.slice a xs.length c)).drew.cell? ⟨w.heap.size, 0, none⟩ = some (.int .i64 b) := by show (((w4.alloc (.cells #[.int .i64 0, .int .i64 1, .int .i64 (-1), .int .i64 5] 3)).setCell ⟨w.heap.size, 0, none⟩ (.int .i64 b)).setCell ⟨w.heap.size, 1, none⟩ (.slice a xs.length c)).cell? _ = _; rw [World.cell?_setCell_other _ _ _ _ (by simp)]; exact World.cell?_setCell_same _ _ _ ua0
    have eA1 : (((w4.alloc (.cells #[.int .i64 0, .int .i64 1, .int .i64 (-1), .int .i64 5] 3)).setCell ⟨w.heap.size, 0, none⟩ (.int .i64 b)).setCell ⟨w.heap.size, 1, none⟩ (.slice a xs.length c)).drew.cell? ⟨w.heap.size, 1, none⟩ = some (.slice a xs.length c) := World.cell?_setCell_same _ _ _ ((World.cell?_setCell_other _ _ _ _ (by simp)).trans ua1)
    have eS0 : ((w4.setCell ⟨w.heap.size, 0, none⟩ (.int .i64 b)).setCell ⟨w.heap.size, 1, none⟩ (.slice a xs.length c)).cell? ⟨w.heap.size, 0, none⟩ = some (.int .i64 b) := by rw [World.cell?_setCell_other _ _ _ _ (by simp)]; exact World.cell?_setCell_same _ _ _ u0
    have eS1 : ((w4.setCell ⟨w.heap.size, 0, none⟩ (.int .i64 b)).setCell ⟨w.heap.size, 1, none⟩ (.slice a xs.length c)).cell? ⟨w.heap.size, 1, none⟩ = some (.slice a xs.length c) := World.cell?_setCell_same _ _ _ ((World.cell?_setCell_other _ _ _ _ (by simp)).trans u1)
    have hws : w.heap.size < ((w4.setCell ⟨w.heap.size, 0, none⟩ (.int .i64 b)).setCell ⟨w.heap.size, 1, none⟩ (.slice a xs.length c)).heap.size := by rw [hzB]; exact lt_of_block hk4b
    have eB0 : (((w4.setCell ⟨w.heap.size, 0, none⟩ (.int .i64 b)).setCell ⟨w.heap.size, 1, none⟩ (.slice a xs.length c)).alloc (.cells #[.int .i64 0, .int .i64 1, .int .i64 (-1), .int .i64 5] 3)).drew.cell? ⟨w.heap.size, 0, none⟩ = some (.int .i64 b) := (hbB1.cell (p := ⟨w.heap.size, 0, none⟩) hws).trans eS0
    have eB1 : (((w4.setCell ⟨w.heap.size, 0, none⟩ (.int .i64 b)).setCell ⟨w.heap.size, 1, none⟩ (.slice a xs.length c)).alloc (.cells #[.int .i64 0, .int .i64 1, .int .i64 (-1), .int .i64 5] 3)).drew.cell? ⟨w.heap.size, 1, none⟩ = some (.slice a xs.length c) := (hbB1.cell (p := ⟨w.heap.size, 1, none⟩) hws).trans eS1
    have E := Lib.hid (And.intro eA0 (And.intro eA1 (And.intro eB0 eB1)))
    clear eA0 eA1 eB0 eB1 eS0 eS1
    have HOA := Lib.hid (ownsRow_far_below (row_box (ownsRow_far_below HO4.out hbA1 (Nat.le_refl _)) (b := w.heap.size) (by omega) (.int .i64 b) (.slice a xs.length c)) (Below.refl _ _).drew (Nat.le_refl _))
    have HSA := Lib.hid ((far_box (b := w.heap.size) (HF4.out.below hbA1) (by omega) (.int .i64 b) (.slice a xs.length c)).below (Below.refl _ _).drew)
    have HBA := Lib.hid ((HB4.out.trans (hbA1.mono (by omega))).trans (box_below (w := (w4.alloc (.cells #[.int .i64 0, .int .i64 1, .int .i64 (-1), .int .i64 5] 3))) (b := w.heap.size) (B := w.heap.size) (Nat.le_refl _) (.int .i64 b) (.slice a xs.length c)).drew)
    have HOB := Lib.hid (ownsRow_far_below (ownsRow_far_below (row_box HO4.out (b := w.heap.size) (by omega) (.int .i64 b) (.slice a xs.length c)) hbB1 (Nat.le_refl _)) (Below.refl _ _).drew (Nat.le_refl _))
    have HSB := Lib.hid (((far_box (b := w.heap.size) HF4.out (by omega) (.int .i64 b) (.slice a xs.length c)).below hbB1).below (Below.refl _ _).drew)
    have HBB := Lib.hid (((HB4.out.trans (box_below (w := w4) (b := w.heap.size) (B := w.heap.size) (Nat.le_refl _) (.int .i64 b) (.slice a xs.length c))).trans (hbB1.mono (by omega))).drew)
    clear hbA1 hkA1 hkA2 hnA hbB1 hnB hzB hws
    rcases hrs with hd | ⟨hd, hq0⟩
    · rw [hd]
      obtain rfl | rfl | rfl | rfl : r = 0 ∨ r = 1 ∨ r = 2 ∨ r = 3 := by omega
      · go_wp2
        go_region
        all_goals go_wp2
        all_goals obtain ⟨e1, e2, e3, e4⟩ := E.out
        all_goals refine bodyPost_ret (v := .tuple #[.agg #[.int .i64 b, .slice a xs.length c], .slice va ps.length cv, .int .i64 0]) (by simp [results, Tryz.results31, go_sem, e1, e2, e3, e4]) rfl ?_
        all_goals first
          | exact ⟨b, a, c, xs, va, cv, ps, 0, rfl, HB7.out, hl9, hp1, hp3, HP80.out, by decide, ownsRow_rebase HOA.out (by omega), HSA.out.rebase (by omega), HBA.out⟩
          | exact ⟨b, a, c, xs, va, cv, ps, 0, rfl, HB7.out, hl9, hp1, hp3, HP80.out, by decide, ownsRow_rebase HOB.out (by omega), HSB.out.rebase (by omega), HBB.out⟩
      · go_wp2
        go_region
        all_goals go_wp2
        all_goals obtain ⟨e1, e2, e3, e4⟩ := E.out
        all_goals refine bodyPost_ret (v := .tuple #[.agg #[.int .i64 b, .slice a xs.length c], .slice va ps.length cv, .int .i64 1]) (by simp [results, Tryz.results31, go_sem, e1, e2, e3, e4]) rfl ?_
        all_goals first
          | exact ⟨b, a, c, xs, va, cv, ps, 1, rfl, HB7.out, hl9, hp1, hp3, HP80.out, by decide, ownsRow_rebase HOA.out (by omega), HSA.out.rebase (by omega), HBA.out⟩
          | exact ⟨b, a, c, xs, va, cv, ps, 1, rfl, HB7.out, hl9, hp1, hp3, HP80.out, by decide, ownsRow_rebase HOB.out (by omega), HSB.out.rebase (by omega), HBB.out⟩
      · go_wp2
        go_region
        all_goals go_wp2
        all_goals obtain ⟨e1, e2, e3, e4⟩ := E.out
        all_goals refine bodyPost_ret (v := .tuple #[.agg #[.int .i64 b, .slice a xs.length c], .slice va ps.length cv, .int .i64 (-1)]) (by simp [results, Tryz.results31, go_sem, e1, e2, e3, e4]) rfl ?_
        all_goals first
          | exact ⟨b, a, c, xs, va, cv, ps, (-1), rfl, HB7.out, hl9, hp1, hp3, HP80.out, by decide, ownsRow_rebase HOA.out (by omega), HSA.out.rebase (by omega), HBA.out⟩
          | exact ⟨b, a, c, xs, va, cv, ps, (-1), rfl, HB7.out, hl9, hp1, hp3, HP80.out, by decide, ownsRow_rebase HOB.out (by omega), HSB.out.rebase (by omega), HBB.out⟩
      · go_wp2
        go_region
        all_goals go_wp2
        all_goals obtain ⟨e1, e2, e3, e4⟩ := E.out
        all_goals refine bodyPost_ret (v := .tuple #[.agg #[.int .i64 b, .slice a xs.length c], .slice va ps.length cv, .int .i64 5]) (by simp [results, Tryz.results31, go_sem, e1, e2, e3, e4]) rfl ?_
        all_goals first
          | exact ⟨b, a, c, xs, va, cv, ps, 5, rfl, HB7.out, hl9, hp1, hp3, HP80.out, by decide, ownsRow_rebase HOA.out (by omega), HSA.out.rebase (by omega), HBA.out⟩
          | exact ⟨b, a, c, xs, va, cv, ps, 5, rfl, HB7.out, hl9, hp1, hp3, HP80.out, by decide, ownsRow_rebase HOB.out (by omega), HSB.out.rebase (by omega), HBB.out⟩
    · rw [hd]
      obtain rfl | rfl | rfl | rfl : r = 0 ∨ r = 1 ∨ r = 2 ∨ r = 3 := by omega
      · go_wp2
        go_region
        all_goals go_wp2
        all_goals obtain ⟨e1, e2, e3, e4⟩ := E.out
        all_goals refine bodyPost_ret (v := .tuple #[.agg #[.int .i64 b, .slice a xs.length c], .slice va ps.length cv, .int .i64 0]) (by simp [results, Tryz.results31, go_sem, e1, e2, e3, e4]) rfl ?_
        all_goals first
          | exact ⟨b, a, c, xs, va, cv, ps, 0, rfl, HB7.out, hl9, hp1, hp3, HP80.out, by decide, ownsRow_rebase HOA.out (by omega), HSA.out.rebase (by omega), HBA.out⟩
          | exact ⟨b, a, c, xs, va, cv, ps, 0, rfl, HB7.out, hl9, hp1, hp3, HP80.out, by decide, ownsRow_rebase HOB.out (by omega), HSB.out.rebase (by omega), HBB.out⟩
      · go_wp2
        go_region
        all_goals go_wp2
        all_goals obtain ⟨e1, e2, e3, e4⟩ := E.out
        all_goals refine bodyPost_ret (v := .tuple #[.agg #[.int .i64 b, .slice a xs.length c], .slice va ps.length cv, .int .i64 1]) (by simp [results, Tryz.results31, go_sem, e1, e2, e3, e4]) rfl ?_
        all_goals first
          | exact ⟨b, a, c, xs, va, cv, ps, 1, rfl, HB7.out, hl9, hp1, hp3, HP80.out, by decide, ownsRow_rebase HOA.out (by omega), HSA.out.rebase (by omega), HBA.out⟩
          | exact ⟨b, a, c, xs, va, cv, ps, 1, rfl, HB7.out, hl9, hp1, hp3, HP80.out, by decide, ownsRow_rebase HOB.out (by omega), HSB.out.rebase (by omega), HBB.out⟩
      · go_wp2
        go_region
        all_goals go_wp2
        all_goals obtain ⟨e1, e2, e3, e4⟩ := E.out
        all_goals refine bodyPost_ret (v := .tuple #[.agg #[.int .i64 b, .slice a xs.length c], .slice va ps.length cv, .int .i64 (-1)]) (by simp [results, Tryz.results31, go_sem, e1, e2, e3, e4]) rfl ?_
        all_goals first
          | exact ⟨b, a, c, xs, va, cv, ps, (-1), rfl, HB7.out, hl9, hp1, hp3, HP80.out, by decide, ownsRow_rebase HOA.out (by omega), HSA.out.rebase (by omega), HBA.out⟩
          | exact ⟨b, a, c, xs, va, cv, ps, (-1), rfl, HB7.out, hl9, hp1, hp3, HP80.out, by decide, ownsRow_rebase HOB.out (by omega), HSB.out.rebase (by omega), HBB.out⟩
      · go_wp2
        go_region
        all_goals go_wp2
        all_goals obtain ⟨e1, e2, e3, e4⟩ := E.out
        all_goals refine bodyPost_ret (v := .tuple #[.agg #[.int .i64 b, .slice a xs.length c], .slice va ps.length cv, .int .i64 5]) (by simp [results, Tryz.results31, go_sem, e1, e2, e3, e4]) rfl ?_
        all_goals first
          | exact ⟨b, a, c, xs, va, cv, ps, 5, rfl, HB7.out, hl9, hp1, hp3, HP80.out, by decide, ownsRow_rebase HOA.out (by omega), HSA.out.rebase (by omega), HBA.out⟩
          | exact ⟨b, a, c, xs, va, cv, ps, 5, rfl, HB7.out, hl9, hp1, hp3, HP80.out, by decide, ownsRow_rebase HOB.out (by omega), HSB.out.rebase (by omega), HBB.out⟩
end Go.Proofs.YtcoggnoeafpgbaaGreat
