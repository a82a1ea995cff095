/- Moved: the walks of the program's moved and extent. -/
import Derived.Test.YtcoggnoeafpgbaaCorner
import Derived.BigQuiet
import Derived.BigRegion
import Derived.IntWalk
import Derived.Deep.DrawnRows
namespace Go.Proofs.Ytcoggnoeafpgbaa
open Go.RowKit

attribute [local go_sem ↓] Go.wp_at_zero Go.wp_at_succ

def plusL (l : List Cl) (a b : Int) : List Cl := l.map fun c => ⟨c.x + a, c.y + b⟩
theorem plusL_length (l : List Cl) (a b : Int) : (plusL l a b).length = l.length := by simp [plusL]
theorem plusL_shift (l : List Cl) (a b : Int) : plusL l (-a) (-b) = shift l a b := by
  unfold plusL shift shiftC
  rfl
theorem plusL_take (l : List Cl) (a b : Int) (k : Nat) (hk : k < l.length) : plusL (l.take (k + 1)) a b = plusL (l.take k) a b ++ [⟨l[k].x + a, l[k].y + b⟩] := by
  unfold plusL
  rw [List.take_succ_eq_append_getElem hk, List.map_append]
  rfl

set_option maxRecDepth 100000 in
set_option maxHeartbeats 3200000 in
theorem implMoved (ad : Option Addr) (c : Nat) (l : List Cl) (a b : Int) (w : World) (hl : l.length ≤ 1000) (hb : ∀ d ∈ l, (-1000 ≤ d.x ∧ d.x ≤ 1000) ∧ -1000 ≤ d.y ∧ d.y ≤ 1000)
    (ha : -1000 ≤ a ∧ a ≤ 1000) (hb' : -1000 ≤ b ∧ b ≤ 1000) (hc : CellsAt w ad (cls l)) :
    Calls Try.prog 65 #[.slice ad l.length c, .int .i64 a, .int .i64 b] w fun e w' => ∃ ad' c', e = .returned (.slice ad' (plusL l a b).length c') ∧ w'.ownsRow w.heap.size 39 2 (.slice ad' (plusL l a b).length c') (plusL l a b).length (cls (plusL l a b)) ∧ Below w.heap.size w w' := by
  have HC := Lib.hid hc
  have HBD := Lib.hid hb
  obtain ⟨a1, a2⟩ := ha
  obtain ⟨b1, b2⟩ := hb'
  clear hc hb
  go_enter Try.func65, Try.ntmps65
  go_wp2
  go_loopw [7, 12] (fun s i wr => ∃ k : Nat, k ≤ l.length ∧ i = .int .i64 k ∧ wr.ownsRow w.heap.size 39 2 s k (cls (plusL (l.take k) a b)) ∧ Below w.heap.size w wr) (fun _ i _ => l.length - (intOf i).toNat)
  case atStart => exact ⟨0, by omega, rfl, by simpa [plusL, cls] using World.ownsRow_nil _ _ _ _, Below.refl _ _⟩
  case round =>
    obtain ⟨k, hk, rfl, hown, hb⟩ := hrel
    have hszr := hb.size
    have HW := Lib.hid hown
    have HB := Lib.hid hb
    clear hown hb
    by_cases hlt : k < l.length
    · obtain ⟨g, off, rfl, hg, hcc⟩ := cl_open HC.out (by omega)
      obtain ⟨v0, v1⟩ := hcc k hlt
      have x0 := (HB.out.cell (p := ⟨g, off + k * 2, none⟩) hg).trans v0
      have x1 := (HB.out.cell (p := ⟨g, off + k * 2 + 1, none⟩) hg).trans v1
      obtain ⟨⟨dd1, dd2⟩, dd3, dd4⟩ := HBD.out _ (List.getElem_mem hlt)
      have HST := Lib.hid (plusL_take l a b k hlt)
      clear hcc v0 v1
      generalize l[k] = d at x0 x1 HST dd1 dd2 dd3 dd4
      obtain ⟨dx, dy⟩ := d
      simp only at x0 x1 HST dd1 dd2 dd3 dd4
      have i1 : (k : Int) < (l.length : Int) := by omega
      have t1 : IntKind.i64.wrap (dx + a) = dx + a := IntWalk.i64_in _ (by omega)
      have t2 : IntKind.i64.wrap (dy + b) = dy + b := IntWalk.i64_in _ (by omega)
      have hbW : Below wr.heap.size wr (wr.alloc (.cells #[.int .i64 dx, .int .i64 dy] 39)) := (Below.refl _ _).alloc (Nat.le_refl _) _
      have hzW : (wr.alloc (.cells #[.int .i64 dx, .int .i64 dy] 39)).heap.size = wr.heap.size + 1 := by simp
      have hbox := cl_box (heap_alloc_new wr (.cells #[.int .i64 dx, .int .i64 dy] 39))
      have HBW := Lib.hid hbW
      have HZW := Lib.hid hzW
      have HBOX := Lib.hid hbox
      clear hbW hzW hbox
      go_upto_region 5 with (fail)
      generalize wr.alloc (.cells #[.int .i64 dx, .int .i64 dy] 39) = wb at HBW HZW HBOX ⊢
      obtain ⟨z0, z1⟩ := HBOX.out
      have hzb := HZW.out
      have HFAR := Lib.hid (ownsRow_far_below HW.out HBW.out (Nat.le_refl _))
      go_wp2_with (at_builtin; refine wpList_app1 rfl (.tmp 16) (.tmp 26) 36 rfl w.heap.size 39 _ 2 16 Try.elemCl _ k _ _ _ _ rfl rfl hzb HFAR.out (by rfl) (by simp [Value.oneCell']) (by unfold maxLen; omega) (by omega) (by omega) ?_; intro g' cap w3 q1 q2 q3 q4 q5 q6)
      go_roundw
      case rel =>
        refine ⟨k + 1, by omega, by go_num, ?_, HB.out.trans ((HBW.out.mono hszr).trans q2)⟩
        rw [HST.out, cls_append]
        exact q1
      case measure => simp [intOf]; omega
    · obtain rfl : k = l.length := by omega
      go_wp2
      go_ret
      obtain ⟨ad', c', rfl, _⟩ := ownsRow_cells HW.out
      have h2 := HW.out
      rw [List.take_length] at h2
      rw [plusL_length]
      exact ⟨ad', c', rfl, h2, HB.out⟩

end Go.Proofs.Ytcoggnoeafpgbaa
