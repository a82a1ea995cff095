/- Corner: the walks of the reference's l2Corner and CornerShape, of the program's moved. -/
import Derived.Test.YtcoggnoeafpgbaaGreatAllShape
import Derived.Test.YtcoggnoeafpgbaaGreatAllHead
import Derived.Test.YtcoggnoeafpgbaaGreatPut0
import Derived.Deep.RegionLaw
import Derived.Deep.DrawnRows
namespace Go.Proofs.YtcoggnoeafpgbaaGreat
open Go.RowKit

attribute [local go_sem ↓] Go.wp_at_zero Go.wp_at_succ

theorem minTo_one (f : Cl → Int) (l : List Cl) : minTo f l 1 = f (l.getD 0 default) := rfl
theorem minTo_succ {f : Cl → Int} {l : List Cl} {k : Nat} (hk : 0 < k) : minTo f l (k + 1) = min (minTo f l k) (f (l.getD k default)) := by
  rw [minTo, if_neg (by omega)]
theorem shift_take (l : List Cl) (a b : Int) (k : Nat) (hk : k < l.length) : shift (l.take (k + 1)) a b = shift (l.take k) a b ++ [⟨l[k].x - a, l[k].y - b⟩] := by
  unfold shift
  rw [List.take_succ_eq_append_getElem hk, List.map_append]
  rfl

set_option maxRecDepth 100000 in
set_option maxHeartbeats 3200000 in
/-- The reference's l2Corner moves a list of cells, whatever their order. -/
theorem specCorner (ad : Option Addr) (c : Nat) (l : List Cl) (w : World) (hl : l.length ≤ 1000) (hb : ∀ d ∈ l, (-1000 ≤ d.x ∧ d.x ≤ 1000) ∧ -1000 ≤ d.y ∧ d.y ≤ 1000) (hc : CellsAt w ad (cls l)) :
    Calls Tryz.prog 117 #[.slice ad l.length c] w fun e w' => ∃ ad' c', e = .returned (.slice ad' (cornL l).length c') ∧ w'.ownsRow w.heap.size 81 2 (.slice ad' (cornL l).length c') (cornL l).length (cls (cornL l)) ∧ Below w.heap.size w w' := by
  have HC := Lib.hid hc
  have HBD := Lib.hid hb
  have hcl := cls_length l
  clear hc hb
  obtain ⟨w0, hw0⟩ : ∃ w0, w0 = w.alloc (.cells #[] 81) := ⟨_, rfl⟩
  have hb0 : Below w.heap.size w w0 := by rw [hw0]; exact (Below.refl _ _).alloc (Nat.le_refl _) _
  have ho0 : w0.ownsRow w.heap.size 81 2 (.slice (some ⟨w.heap.size, 0, none⟩) 0 0) 0 [] := by rw [hw0]; exact ownsRow_empty _ _ _
  have HB0 := Lib.hid hb0
  have HO0 := Lib.hid ho0
  have HW0 := Lib.hid hw0
  clear hb0 ho0 hw0
  go_enter Tryz.func117, Tryz.ntmps117
  go_wp2
  rw [← HW0.out]
  go_loopw [4, 5, 6] (fun x y i wr => ∃ k : Nat, k ≤ l.length ∧ i = .int .i64 k ∧ x = .int .i64 (minTo Cl.x l k) ∧ y = .int .i64 (minTo Cl.y l k) ∧ w0 = wr) (fun _ _ i _ => l.length - (intOf i).toNat)
  case atStart => exact ⟨0, by omega, rfl, rfl, rfl, rfl⟩
  case round =>
    obtain ⟨k, hk, rfl, rfl, rfl, rfl⟩ := hrel
    by_cases hlt : k < l.length
    · obtain ⟨g, off, rfl, hg, hcc⟩ := cl_open (HC.out.below HB0.out) (by omega)
      obtain ⟨x0, x1⟩ := hcc k hlt
      have hx0 : minTo Cl.x l (k + 1) = if k = 0 then l[k].x else min (minTo Cl.x l k) l[k].x := by
        split
        · rename_i e; subst e; rw [minTo_one, getDG hlt]
        · rw [minTo_succ (by omega), getDG hlt]
      have hy0 : minTo Cl.y l (k + 1) = if k = 0 then l[k].y else min (minTo Cl.y l k) l[k].y := by
        split
        · rename_i e; subst e; rw [minTo_one, getDG hlt]
        · rw [minTo_succ (by omega), getDG hlt]
      clear hcc
      generalize l[k] = d at x0 x1 hx0 hy0
      obtain ⟨dx, dy⟩ := d
      simp only at x0 x1 hx0 hy0
      by_cases hk0 : k = 0
      · have b0 : ((k : Int) == 0) = true := by simp [hk0]
        rw [if_pos hk0] at hx0 hy0
        have HX := Lib.hid hx0
        have HY := Lib.hid hy0
        clear hx0 hy0 hk0
        go_wp2
        go_roundw
        case rel => exact ⟨k + 1, by omega, by go_num, by rw [HX.out], by rw [HY.out], trivial⟩
        case measure => simp [intOf]; omega
      · have b0 : ((k : Int) == 0) = false := by simp [hk0]
        rw [if_neg hk0] at hx0 hy0
        generalize minTo Cl.x l k = mx at hx0 ⊢
        generalize minTo Cl.y l k = my at hy0 ⊢
        by_cases h1 : dx < mx
        · have d1 : decide (dx < mx) = true := decide_eq_true h1
          have HX := Lib.hid (hx0.trans (show min mx dx = dx by omega))
          by_cases h2 : dy < my
          · have d2 : decide (dy < my) = true := decide_eq_true h2
            have HY := Lib.hid (hy0.trans (show min my dy = dy by omega))
            clear hx0 hy0 hk0
            go_wp2
            go_roundw
            case rel => exact ⟨k + 1, by omega, by go_num, by rw [HX.out], by rw [HY.out], trivial⟩
            case measure => simp [intOf]; omega
          · have d2 : decide (dy < my) = false := decide_eq_false h2
            have HY := Lib.hid (hy0.trans (show min my dy = my by omega))
            clear hx0 hy0 hk0
            go_wp2
            go_roundw
            case rel => exact ⟨k + 1, by omega, by go_num, by rw [HX.out], by rw [HY.out], trivial⟩
            case measure => simp [intOf]; omega
        · have d1 : decide (dx < mx) = false := decide_eq_false h1
          have HX := Lib.hid (hx0.trans (show min mx dx = mx by omega))
          by_cases h2 : dy < my
          · have d2 : decide (dy < my) = true := decide_eq_true h2
            have HY := Lib.hid (hy0.trans (show min my dy = dy by omega))
            clear hx0 hy0 hk0
            go_wp2
            go_roundw
            case rel => exact ⟨k + 1, by omega, by go_num, by rw [HX.out], by rw [HY.out], trivial⟩
            case measure => simp [intOf]; omega
          · have d2 : decide (dy < my) = false := decide_eq_false h2
            have HY := Lib.hid (hy0.trans (show min my dy = my by omega))
            clear hx0 hy0 hk0
            go_wp2
            go_roundw
            case rel => exact ⟨k + 1, by omega, by go_num, by rw [HX.out], by rw [HY.out], trivial⟩
            case measure => simp [intOf]; omega
    · obtain rfl : k = l.length := by omega
      obtain ⟨mx, hmx⟩ : ∃ mx, mx = minTo Cl.x l l.length := ⟨_, rfl⟩
      obtain ⟨my, hmy⟩ : ∃ my, my = minTo Cl.y l l.length := ⟨_, rfl⟩
      have hbx : 0 < l.length → -1000 ≤ mx ∧ mx ≤ 1000 := fun h => by rw [hmx]; exact minTo_bd (fun d hd => (HBD.out d hd).1) _ h (Nat.le_refl _)
      have hby : 0 < l.length → -1000 ≤ my ∧ my ≤ 1000 := fun h => by rw [hmy]; exact minTo_bd (fun d hd => (HBD.out d hd).2) _ h (Nat.le_refl _)
      have hfin : cornL l = shift l mx my := by rw [hmx, hmy]; rfl
      rw [← hmx, ← hmy]
      have HF := Lib.hid hfin
      clear hmx hmy hfin
      go_wp2
      go_loopw [3, 7] (fun s i wr => ∃ k : Nat, k ≤ l.length ∧ i = .int .i64 k ∧ wr.ownsRow w.heap.size 81 2 s k (cls (shift (l.take k) mx my)) ∧ Below w.heap.size w wr) (fun _ i _ => l.length - (intOf i).toNat)
      case atStart => exact ⟨0, by omega, rfl, by simpa [shift, cls] using HO0.out, HB0.out⟩
      case round =>
        obtain ⟨k, hk, rfl, hown, hb⟩ := hrel
        have HW := Lib.hid hown
        have HB := Lib.hid hb
        have hszr := hb.size
        clear hown hb
        by_cases hlt : k < l.length
        · obtain ⟨g, off, rfl, hg, hcc⟩ := cl_open HC.out (by omega)
          obtain ⟨v0, v1⟩ := hcc k hlt
          have x0 := (HB.out.cell (p := ⟨g, off + k * 2, none⟩) hg).trans v0
          have x1 := (HB.out.cell (p := ⟨g, off + k * 2 + 1, none⟩) hg).trans v1
          clear v0 v1
          obtain ⟨bx1, bx2⟩ := hbx (by omega)
          obtain ⟨by1, by2⟩ := hby (by omega)
          obtain ⟨⟨dd1, dd2⟩, dd3, dd4⟩ := HBD.out _ (List.getElem_mem hlt)
          have HST := Lib.hid (shift_take l mx my k hlt)
          clear hcc hbx hby
          generalize l[k] = d at x0 x1 HST dd1 dd2 dd3 dd4
          obtain ⟨dx, dy⟩ := d
          simp only at x0 x1 HST dd1 dd2 dd3 dd4
          have i1 : (k : Int) < (l.length : Int) := by omega
          go_wp2
          have t1 : IntKind.i64.wrap (dx - mx) = dx - mx := IntWalk.i64_in _ (by omega)
          have t2 : IntKind.i64.wrap (dy - my) = dy - my := IntWalk.i64_in _ (by omega)
          go_region_held3 (fun w' => w'.cell? ⟨g, off + k * 2, none⟩ = some (.int .i64 dx) ∧ w'.cell? ⟨g, off + k * 2 + 1, none⟩ = some (.int .i64 dy))
            (first | go_keep | exact ⟨(q2.cell (p := ⟨g, off + k * 2, none⟩) hg).trans x0, (q2.cell (p := ⟨g, off + k * 2 + 1, none⟩) hg).trans x1⟩ | trivial)
            ((refine step_app1 (by rfl) (.tmp 53) (.tmp 69) 61 (by rfl) w.heap.size 81 _ 2 16 Tryz.elemCl _ k _ _ _ _ (by rfl) (by rfl) rfl HW.out (by rfl) (by simp [Value.oneCell']) (by unfold maxLen; omega) (by omega) (by omega) ?_; intro g' cap w3 q1 q2 q3 q4 q5 q6))
          go_wp2
          go_roundw
          case rel =>
            refine ⟨k + 1, by omega, by go_num, ?_, HB.out.trans q2⟩
            rw [HST.out, cls_append]
            exact q1
          case measure => simp [intOf]; omega
        · obtain rfl : k = l.length := by omega
          go_wp2
          go_ret
          obtain ⟨ad', c', rfl, _⟩ := ownsRow_cells HW.out
          have h2 := HW.out
          rw [List.take_length] at h2
          rw [HF.out, shift_length]
          exact ⟨ad', c', rfl, h2, HB.out⟩
end Go.Proofs.YtcoggnoeafpgbaaGreat
