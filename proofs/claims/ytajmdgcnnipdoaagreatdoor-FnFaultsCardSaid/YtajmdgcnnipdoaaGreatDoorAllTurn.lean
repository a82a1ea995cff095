/- AllTurn: parts laid together: Moved, CornG, Turned, Orient. -/
import Derived.Test.YtajmdgcnnipdoaaGreatDoorAllPut0
import Derived.BigQuiet
import Derived.BigRegion
import Derived.IntWalk
import Derived.Deep.DrawnRows
import Derived.Test.YtajmdgcnnipdoaaGreatDoorAllSort
import Derived.Test.YtajmdgcnnipdoaaGreatDoorAllReg
import Derived.Test.YtajmdgcnnipdoaaGreatDoorCarry
import Derived.Test.YtajmdgcnnipdoaaGreatDoorSpecSort
import Derived.Test.YtajmdgcnnipdoaaGreatDoorAllPutS

/- Moved: the walks of the program's moved and extent. -/
namespace Go.Proofs.YtajmdgcnnipdoaaGreatDoor
open Go.RowKit

attribute [local go_sem ↓] Go.wp_at_zero Go.wp_at_succ

def plusL (l : List Cl) (a b : Int) : List Cl := l.map fun c => ⟨c.x + a, c.y + b⟩
theorem plusL_length (l : List Cl) (a b : Int) : (plusL l a b).length = l.length := by simp [plusL]
theorem plusL_shift (l : List Cl) (a b : Int) : plusL l (-a) (-b) = shift l a b := by
  unfold plusL shift shiftC
  rfl
theorem plusL_take (l : List Cl) (a b : Int) (k : Nat) (hk : k < l.length) : plusL (l.take (k + 1)) a b = plusL (l.take k) a b ++ [⟨l[k].x + a, l[k].y + b⟩] := by
  unfold plusL
  rw [List.take_succ_eq_append_getElem hk, List.map_append]
  rfl

set_option maxRecDepth 100000 in
set_option maxHeartbeats 3200000 in
theorem implMoved (ad : Option Addr) (c : Nat) (l : List Cl) (a b : Int) (w : World) (hl : l.length ≤ 1000) (hb : ∀ d ∈ l, (-1000 ≤ d.x ∧ d.x ≤ 1000) ∧ -1000 ≤ d.y ∧ d.y ≤ 1000)
    (ha : -1000 ≤ a ∧ a ≤ 1000) (hb' : -1000 ≤ b ∧ b ≤ 1000) (hc : CellsAt w ad (cls l)) :
    Calls Tryz.prog 151 #[.slice ad l.length c, .int .i64 a, .int .i64 b] w fun e w' => ∃ ad' c', e = .returned (.slice ad' (plusL l a b).length c') ∧ w'.ownsRow w.heap.size 91 2 (.slice ad' (plusL l a b).length c') (plusL l a b).length (cls (plusL l a b)) ∧ Below w.heap.size w w' := by
  have HC := Lib.hid hc
  have HBD := Lib.hid hb
  obtain ⟨a1, a2⟩ := ha
  obtain ⟨b1, b2⟩ := hb'
  clear hc hb
  go_enter Tryz.func151, Tryz.ntmps151
  go_wp2
  go_loopw [7, 12] (fun s i wr => ∃ k : Nat, k ≤ l.length ∧ i = .int .i64 k ∧ wr.ownsRow w.heap.size 91 2 s k (cls (plusL (l.take k) a b)) ∧ Below w.heap.size w wr) (fun _ i _ => l.length - (intOf i).toNat)
  case atStart => exact ⟨0, by omega, rfl, by simpa [plusL, cls] using World.ownsRow_nil _ _ _ _, Below.refl _ _⟩
  case round =>
    obtain ⟨k, hk, rfl, hown, hb⟩ := hrel
    have hszr := hb.size
    have HW := Lib.hid hown
    have HB := Lib.hid hb
    clear hown hb
    by_cases hlt : k < l.length
    · obtain ⟨g, off, rfl, hg, hcc⟩ := cl_open HC.out (by omega)
      obtain ⟨v0, v1⟩ := hcc k hlt
      have x0 := (HB.out.cell (p := ⟨g, off + k * 2, none⟩) hg).trans v0
      have x1 := (HB.out.cell (p := ⟨g, off + k * 2 + 1, none⟩) hg).trans v1
      obtain ⟨⟨dd1, dd2⟩, dd3, dd4⟩ := HBD.out _ (List.getElem_mem hlt)
      have HST := Lib.hid (plusL_take l a b k hlt)
      clear hcc v0 v1
      generalize l[k] = d at x0 x1 HST dd1 dd2 dd3 dd4
      obtain ⟨dx, dy⟩ := d
      simp only at x0 x1 HST dd1 dd2 dd3 dd4
      have i1 : (k : Int) < (l.length : Int) := by omega
      have t1 : IntKind.i64.wrap (dx + a) = dx + a := IntWalk.i64_in _ (by omega)
      have t2 : IntKind.i64.wrap (dy + b) = dy + b := IntWalk.i64_in _ (by omega)
      have hbW : Below wr.heap.size wr (wr.alloc (.cells #[.int .i64 dx, .int .i64 dy] 91)) := (Below.refl _ _).alloc (Nat.le_refl _) _
      have hzW : (wr.alloc (.cells #[.int .i64 dx, .int .i64 dy] 91)).heap.size = wr.heap.size + 1 := by simp
      have hbox := cl_box (heap_alloc_new wr (.cells #[.int .i64 dx, .int .i64 dy] 91))
      have HBW := Lib.hid hbW
      have HZW := Lib.hid hzW
      have HBOX := Lib.hid hbox
      clear hbW hzW hbox
      go_upto_region 5 with (fail)
      generalize wr.alloc (.cells #[.int .i64 dx, .int .i64 dy] 91) = wb at HBW HZW HBOX ⊢
      obtain ⟨z0, z1⟩ := HBOX.out
      have hzb := HZW.out
      have HFAR := Lib.hid (ownsRow_far_below HW.out HBW.out (Nat.le_refl _))
      go_wp2_with (at_builtin; refine wpList_app1 rfl (.tmp 16) (.tmp 26) 40 rfl w.heap.size 91 _ 2 16 Tryz.elemCl _ k _ _ _ _ rfl rfl hzb HFAR.out (by rfl) (by simp [Value.oneCell']) (by unfold maxLen; omega) (by omega) (by omega) ?_; intro g' cap w3 q1 q2 q3 q4 q5 q6)
      go_roundw
      case rel =>
        refine ⟨k + 1, by omega, by go_num, ?_, HB.out.trans ((HBW.out.mono hszr).trans q2)⟩
        rw [HST.out, cls_append]
        exact q1
      case measure => simp [intOf]; omega
    · obtain rfl : k = l.length := by omega
      go_wp2
      go_ret
      obtain ⟨ad', c', rfl, _⟩ := ownsRow_cells HW.out
      have h2 := HW.out
      rw [List.take_length] at h2
      rw [plusL_length]
      exact ⟨ad', c', rfl, h2, HB.out⟩

end Go.Proofs.YtajmdgcnnipdoaaGreatDoor

/- CornG: the walk of the program's corner over cells in whatever order. -/
namespace Go.Proofs.YtajmdgcnnipdoaaGreatDoor
open Go.RowKit

attribute [local go_sem ↓] Go.wp_at_zero Go.wp_at_succ

theorem minUp (f : Cl → Int) (l : List Cl) (k : Nat) (hk : k < l.length) : minTo f l (max (k + 1) 1) = min (minTo f l (max k 1)) (f l[k]) := by
  by_cases h : k = 0
  · subst h
    show minTo f l 1 = min (minTo f l 1) _
    rw [minTo_one, getDG hk]
    omega
  · rw [show max (k + 1) 1 = k + 1 by omega, show max k 1 = k by omega, minTo_succ (by omega), getDG hk]

set_option maxRecDepth 100000 in
set_option maxHeartbeats 3200000 in
theorem implCornG (ad : Option Addr) (c : Nat) (l : List Cl) (w : World) (h0l : 0 < l.length) (hl8 : l.length ≤ 12) (hbd : ∀ d ∈ l, In 7 d) (hc : CellsAt w ad (cls l)) :
    Calls Tryz.prog 152 #[.slice ad l.length c] w fun e w' => ∃ ad' c', e = .returned (.slice ad' (putAllG ltC (cornL l)).length c') ∧ w'.ownsRow w.heap.size 91 2 (.slice ad' (putAllG ltC (cornL l)).length c') (putAllG ltC (cornL l)).length (cls (putAllG ltC (cornL l))) ∧ Below w.heap.size w w' := by
  have HC := Lib.hid hc
  have HBD := Lib.hid (show ∀ d ∈ l, (-1000 ≤ d.x ∧ d.x ≤ 1000) ∧ -1000 ≤ d.y ∧ d.y ≤ 1000 from fun d hd => by have := hbd d hd; unfold In at this; omega)
  have hfin : cornL l = shift l (minTo Cl.x l l.length) (minTo Cl.y l l.length) := rfl
  have HF := Lib.hid hfin
  have hlen : (cornL l).length = l.length := cornL_length l
  have HLEN := Lib.hid hlen
  have hbx := minTo_bd (f := Cl.x) (a := -7) (b := 7) (fun d hd => (hbd d hd).1) l.length h0l (Nat.le_refl _)
  have hby := minTo_bd (f := Cl.y) (a := -7) (b := 7) (fun d hd => (hbd d hd).2) l.length h0l (Nat.le_refl _)
  have HBX := Lib.hid hbx
  have HBY := Lib.hid hby
  obtain ⟨g, off, rfl, hg, hcc⟩ := cl_open hc h0l
  obtain ⟨f0, f1⟩ := hcc 0 h0l
  have e0 : minTo Cl.x l (max 0 1) = l[0].x := by show minTo Cl.x l 1 = _; rw [minTo_one, getDG h0l]
  have e1 : minTo Cl.y l (max 0 1) = l[0].y := by show minTo Cl.y l 1 = _; rw [minTo_one, getDG h0l]
  have HE0 := Lib.hid e0
  have HE1 := Lib.hid e1
  have HCC := Lib.hid hcc
  have i0 : (0 : Int) < (l.length : Int) := by omega
  simp only [Nat.zero_mul, Nat.add_zero] at f0 f1
  clear hc hfin hlen hbx hby hcc hbd e0 e1
  go_enter Tryz.func152, Tryz.ntmps152
  go_wp2
  go_big_quiet (fail)
  go_wp2
  generalize hw1 : w.drewN _ = w1
  have hb1 : Below w.heap.size w w1 := by rw [← hw1]; exact below_drewN (Below.refl _ _) _
  have HB1 := Lib.hid hb1
  have hsz1 := hb1.size
  clear hb1 hw1
  go_loopw [3, 4, 17] (fun x y i wr => ∃ k : Nat, k ≤ l.length ∧ i = .int .i64 k ∧ x = .int .i64 (minTo Cl.x l (max k 1)) ∧ y = .int .i64 (minTo Cl.y l (max k 1)) ∧ Below w1.heap.size w1 wr) (fun _ _ i _ => l.length - (intOf i).toNat)
  case atStart => exact ⟨0, by omega, rfl, by rw [HE0.out], by rw [HE1.out], Below.refl _ _⟩
  case round =>
    obtain ⟨k, hk, rfl, rfl, rfl, hb⟩ := hrel
    have hszr := hb.size
    have HB := Lib.hid (HB1.out.trans (hb.mono hsz1))
    have HBr := Lib.hid hb
    clear hb
    by_cases hlt : k < l.length
    · obtain ⟨v0, v1⟩ := HCC.out k hlt
      have x0 := (HB.out.cell (p := ⟨g, off + k * 2, none⟩) hg).trans v0
      have x1 := (HB.out.cell (p := ⟨g, off + k * 2 + 1, none⟩) hg).trans v1
      have ex := minUp Cl.x l k hlt
      have ey := minUp Cl.y l k hlt
      generalize l[k] = d at x0 x1 ex ey
      obtain ⟨dx, dy⟩ := d
      simp only at x0 x1 ex ey
      have EX := Lib.hid ex
      have EY := Lib.hid ey
      have i1 : (k : Int) < (l.length : Int) := by omega
      clear ex ey v0 v1
      generalize minTo Cl.x l (max k 1) = mx at EX ⊢
      generalize minTo Cl.y l (max k 1) = my at EY ⊢
      have hbW : Below wr.heap.size wr (wr.alloc (.cells #[.int .i64 dx, .int .i64 dy] 91)) := (Below.refl _ _).alloc (Nat.le_refl _) _
      have hbox := cl_box (heap_alloc_new wr (.cells #[.int .i64 dx, .int .i64 dy] 91))
      have HBW := Lib.hid hbW
      have HBOX := Lib.hid hbox
      clear hbW hbox
      go_upto_region 5 with (fail)
      generalize wr.alloc (.cells #[.int .i64 dx, .int .i64 dy] 91) = wb at HBW HBOX ⊢
      obtain ⟨z0, z1⟩ := HBOX.out
      go_big_quiet (fail)
      go_wp2
      go_roundw
      case rel => exact ⟨k + 1, by omega, by go_num, by rw [EX.out], by rw [EY.out], below_drewN (HBr.out.trans (HBW.out.mono hszr)) _⟩
      case measure => simp [intOf]; omega
    · obtain rfl : k = l.length := by omega
      rw [show max l.length 1 = l.length by omega]
      have hbx := HBX.out
      have hby := HBY.out
      have hsh := HF.out
      generalize minTo Cl.x l l.length = mx at hbx hsh ⊢
      generalize minTo Cl.y l l.length = my at hby hsh ⊢
      obtain ⟨nx, hnx⟩ : ∃ nx, nx = -mx := ⟨_, rfl⟩
      obtain ⟨ny, hny⟩ : ∃ ny, ny = -my := ⟨_, rfl⟩
      have hpl : plusL l nx ny = cornL l := by rw [hnx, hny, plusL_shift, hsh]
      have HPL := Lib.hid hpl
      obtain ⟨bx1, bx2⟩ := hbx
      obtain ⟨by1, by2⟩ := hby
      have n1 : -mx = nx := hnx.symm
      have n2 : -my = ny := hny.symm
      have nx1 : -1000 ≤ nx ∧ nx ≤ 1000 := by omega
      have ny1 : -1000 ≤ ny ∧ ny ≤ 1000 := by omega
      have s1 : IntKind.i64.wrap nx = nx := IntWalk.i64_in _ (by omega)
      have s2 : IntKind.i64.wrap ny = ny := IntWalk.i64_in _ (by omega)
      clear hpl hsh hnx hny
      have HMV := Lib.hid (implMoved (some ⟨g, off, none⟩) c l nx ny wr (by omega) HBD.out nx1 ny1 (HC.out.below HB.out))
      rw [HPL.out] at HMV
      go_wp2_with fail
      refine HMV.out.mono ?_
      rintro e w2 ⟨a2, c2, rfl, ho2, hb2⟩
      have HO2 := Lib.hid ho2
      have HB2 := Lib.hid (HB.out.trans (hb2.mono HB.out.size))
      have hsz2 := HB2.out.size
      clear ho2 hb2
      have HSO := Lib.hid (implSortC a2 c2 (cornL l) w2 (by rw [HLEN.out]; omega) (by rw [HLEN.out]; omega) (ownsRow_le_cap HO2.out).2 (ownsRow_cellsAt HO2.out))
      go_wp2_with fail
      refine HSO.out.mono ?_
      rintro e w3 ⟨a3, c3, rfl, ho3, hb3⟩
      have HO3 := Lib.hid ho3
      have HB3 := Lib.hid (HB2.out.trans (hb3.mono hsz2))
      clear ho3 hb3
      go_wp2
      go_ret
      exact ⟨a3, c3, rfl, ownsRow_rebase HO3.out hsz2, HB3.out⟩
end Go.Proofs.YtajmdgcnnipdoaaGreatDoor

/- Turned: the walks of the reference's l3Turn and of the program's turned: a shape by a motion, in its corner. -/
namespace Go.Proofs.YtajmdgcnnipdoaaGreatDoor
open Go.RowKit

attribute [local go_sem ↓] Go.wp_at_zero Go.wp_at_succ

theorem in7_bd {l : List Cl} (h : ∀ d ∈ l, In 7 d) : ∀ d ∈ l, (-1000 ≤ d.x ∧ d.x ≤ 1000) ∧ -1000 ≤ d.y ∧ d.y ≤ 1000 := fun d hd => by
  have := h d hd
  unfold In at this
  omega
theorem in7_1000 {c : Cl} (h : In 7 c) : In 1000 c := by unfold In at *; omega

set_option maxRecDepth 100000 in
set_option maxHeartbeats 3200000 in
theorem specTurn (ad : Option Addr) (c : Nat) (l : List Cl) (m : Nat) (w : World) (hm : m < 8) (h0 : 0 < l.length) (h8 : l.length ≤ 8) (hin : ∀ d ∈ l, In 7 d) (hc : CellsAt w ad (cls l)) :
    Calls Tryz.prog 144 #[.slice ad l.length c, .int .i64 m] w fun e w' => ∃ ad' c', e = .returned (.slice ad' (tcorn l m).length c') ∧ w'.ownsRow w.heap.size 91 2 (.slice ad' (tcorn l m).length c') (tcorn l m).length (cls (tcorn l m)) ∧ Below w.heap.size w w' := by
  have HC := Lib.hid hc
  have HIN := Lib.hid hin
  have hbdp := in7_bd (fun d hd => in_turnL hin m d ((mem_putAllG wholeC _ d).1 hd))
  have hlp := putAllG_length (lt := ltC) (turnL l m)
  rw [turnL_length] at hlp
  have HBDP := Lib.hid hbdp
  have htc : tcorn l m = cornL (putAllG ltC (turnL l m)) := rfl
  have HTC := Lib.hid htc
  have htl := turnL_length l m
  have HTL := Lib.hid htl
  clear hc hin hbdp htc htl
  obtain ⟨w0, hw0⟩ : ∃ w0, w0 = w.alloc (.cells #[] 91) := ⟨_, rfl⟩
  have hb0 : Below w.heap.size w w0 := by rw [hw0]; exact (Below.refl _ _).alloc (Nat.le_refl _) _
  have ho0 : w0.ownsRow w.heap.size 91 2 (.slice (some ⟨w.heap.size, 0, none⟩) 0 0) 0 [] := by rw [hw0]; exact ownsRow_empty _ _ _
  have HB0 := Lib.hid hb0
  have HO0 := Lib.hid ho0
  have HW0 := Lib.hid hw0
  clear hb0 ho0 hw0
  go_enter Tryz.func144, Tryz.ntmps144
  go_wp2
  rw [← HW0.out]
  go_loopw [5, 6] (fun s i wr => ∃ k : Nat, k ≤ l.length ∧ i = .int .i64 k ∧ wr.ownsRow w.heap.size 91 2 s k (cls (turnL (l.take k) m)) ∧ Below w.heap.size w wr) (fun _ i _ => l.length - (intOf i).toNat)
  case atStart => exact ⟨0, by omega, rfl, by simpa [turnL, cls] using HO0.out, HB0.out⟩
  case round =>
    obtain ⟨k, hk, rfl, hown, hb⟩ := hrel
    have hszr := hb.size
    have HW := Lib.hid hown
    have HB := Lib.hid hb
    clear hown hb
    by_cases hlt : k < l.length
    · obtain ⟨g, off, rfl, hg, hcc⟩ := cl_open HC.out (by omega)
      obtain ⟨v0, v1⟩ := hcc k hlt
      have x0 := (HB.out.cell (p := ⟨g, off + k * 2, none⟩) hg).trans v0
      have x1 := (HB.out.cell (p := ⟨g, off + k * 2 + 1, none⟩) hg).trans v1
      have hdi := in7_1000 (HIN.out _ (List.getElem_mem hlt))
      have HST := Lib.hid (turnL_take l m k hlt)
      have i1 : (k : Int) < (l.length : Int) := by omega
      clear v0 v1 hcc
      generalize l[k] = d at x0 x1 hdi HST
      have HCA := Lib.hid (specApply d m wr hm hdi)
      generalize hcd : carryC m d = q at HST HCA
      clear hcd hdi
      obtain ⟨dx, dy⟩ := d
      obtain ⟨qx, qy⟩ := q
      simp only at x0 x1 HST HCA
      go_wp2_with fail
      refine HCA.out.mono ?_
      rintro e w2 ⟨rfl, hb2⟩
      have hz2 := hb2.size
      have HFAR := Lib.hid (ownsRow_far_below HW.out hb2 (Nat.le_refl _))
      have HB2 := Lib.hid (HB.out.trans (hb2.mono hszr))
      clear hb2
      go_wp2_with (at_builtin; refine wpList_app1 rfl (.tmp 14) (.tmp 21) 40 rfl w.heap.size 91 _ 2 16 Tryz.elemCl _ k _ _ _ _ rfl rfl rfl HFAR.out (by rfl) (by simp [Value.oneCell']) (by unfold maxLen; omega) (by omega) (by omega) ?_; intro g' cap w4 q1 q2 q3 q4 q5 q6)
      go_roundw
      case rel =>
        refine ⟨k + 1, by omega, by go_num, ?_, HB2.out.trans q2⟩
        rw [HST.out, cls_append]
        exact q1
      case measure => simp [intOf]; omega
    · obtain rfl : k = l.length := by omega
      rw [List.take_length] at HW
      obtain ⟨a2, c2, rfl, _⟩ := ownsRow_cells HW.out
      have hso := specSort a2 c2 (turnL l m) wr (by rw [HTL.out]; omega) (ownsRow_cellsAt HW.out)
      rw [HTL.out] at hso
      have HSO := Lib.hid hso
      clear hso
      go_wp2_with fail
      refine HSO.out.mono ?_
      rintro e w3 ⟨a3, c3, rfl, ho3, hb3⟩
      have HB3 := Lib.hid (HB.out.trans (hb3.mono hszr))
      have hsz3 := HB3.out.size
      have hco := specCorner a3 c3 (putAllG ltC (turnL l m)) w3 (by omega) HBDP.out (ownsRow_cellsAt ho3)
      rw [← HTC.out] at hco
      have HCO := Lib.hid hco
      clear hco ho3 hb3
      generalize (putAllG ltC (turnL l m)).length = np at HCO ⊢
      go_wp2_with fail
      refine HCO.out.mono ?_
      rintro e w4 ⟨a4, c4, rfl, ho4, hb4⟩
      have HO4 := Lib.hid ho4
      have HB4 := Lib.hid (HB3.out.trans (hb4.mono hsz3))
      clear ho4 hb4
      go_wp2
      go_ret
      exact ⟨a4, c4, rfl, ownsRow_rebase HO4.out hsz3, HB4.out⟩

set_option maxRecDepth 100000 in
set_option maxHeartbeats 3200000 in
theorem implTurn (ad : Option Addr) (c : Nat) (l : List Cl) (m : Nat) (w : World) (hm : m < 8) (h0 : 0 < l.length) (h8 : l.length ≤ 8) (hin : ∀ d ∈ l, In 7 d) (hc : CellsAt w ad (cls l)) :
    Calls Tryz.prog 140 #[.slice ad l.length c, .int .i64 m] w fun e w' => ∃ ad' c', e = .returned (.slice ad' (tcorn l m).length c') ∧ w'.ownsRow w.heap.size 91 2 (.slice ad' (tcorn l m).length c') (tcorn l m).length (cls (tcorn l m)) ∧ Below w.heap.size w w' := by
  have HC := Lib.hid hc
  have HIN := Lib.hid hin
  have HTI := Lib.hid (in_turnL hin m)
  have htl := turnL_length l m
  have HTC := Lib.hid (show putAllG ltC (cornL (turnL l m)) = tcorn l m from corn_putAll (by rw [htl]; exact h0))
  have HTL := Lib.hid htl
  clear hc hin htl
  go_enter Tryz.func140, Tryz.ntmps140
  go_wp2
  go_loopw [5, 10] (fun s i wr => ∃ k : Nat, k ≤ l.length ∧ i = .int .i64 k ∧ wr.ownsRow w.heap.size 91 2 s k (cls (turnL (l.take k) m)) ∧ Below w.heap.size w wr) (fun _ i _ => l.length - (intOf i).toNat)
  case atStart => exact ⟨0, by omega, rfl, World.ownsRow_nil _ _ _ _, Below.refl _ _⟩
  case round =>
    obtain ⟨k, hk, rfl, hown, hb⟩ := hrel
    have hszr := hb.size
    have HW := Lib.hid hown
    have HB := Lib.hid hb
    clear hown hb
    by_cases hlt : k < l.length
    · obtain ⟨g, off, rfl, hg, hcc⟩ := cl_open HC.out (by omega)
      obtain ⟨v0, v1⟩ := hcc k hlt
      have x0 := (HB.out.cell (p := ⟨g, off + k * 2, none⟩) hg).trans v0
      have x1 := (HB.out.cell (p := ⟨g, off + k * 2 + 1, none⟩) hg).trans v1
      have hdi := in7_1000 (HIN.out _ (List.getElem_mem hlt))
      have HST := Lib.hid (turnL_take l m k hlt)
      have i1 : (k : Int) < (l.length : Int) := by omega
      clear v0 v1 hcc
      generalize l[k] = d at x0 x1 hdi HST
      have HCA := Lib.hid (fun w' => implCarry d m w' hm hdi)
      generalize hcd : carryC m d = q at HST HCA
      clear hcd hdi
      obtain ⟨dx, dy⟩ := d
      obtain ⟨qx, qy⟩ := q
      simp only at x0 x1 HST HCA
      have hbB : Below wr.heap.size wr (wr.alloc (.cells #[.int .i64 dx, .int .i64 dy] 91)) := (Below.refl _ _).alloc (Nat.le_refl _) _
      have hzB : (wr.alloc (.cells #[.int .i64 dx, .int .i64 dy] 91)).heap.size = wr.heap.size + 1 := by simp
      have hbox := cl_box (heap_alloc_new wr (.cells #[.int .i64 dx, .int .i64 dy] 91))
      have HBB := Lib.hid hbB
      have HZB := Lib.hid hzB
      have HBOX := Lib.hid hbox
      clear hbB hzB hbox
      go_upto_region 5 with (fail)
      generalize wr.alloc (.cells #[.int .i64 dx, .int .i64 dy] 91) = wb at HBB HZB HBOX ⊢
      obtain ⟨z0, z1⟩ := HBOX.out
      have hzb := HBB.out.size
      go_wp2_with fail
      refine (HCA.out wb).mono ?_
      rintro e w2 ⟨rfl, hb2⟩
      have hz2 := hb2.size
      have hb22 := HBB.out.trans (hb2.mono hzb)
      have HFAR := Lib.hid (ownsRow_far_below HW.out hb22 (Nat.le_refl _))
      have HB2 := Lib.hid (HB.out.trans (hb22.mono hszr))
      clear hb2 hb22
      go_wp2_with (at_builtin; refine wpList_app1 rfl (.tmp 14) (.tmp 18) 40 rfl w.heap.size 91 _ 2 16 Tryz.elemCl _ k _ _ _ _ rfl rfl rfl HFAR.out (by rfl) (by simp [Value.oneCell']) (by unfold maxLen; omega) (by omega) (by omega) ?_; intro g' cap w4 q1 q2 q3 q4 q5 q6)
      go_roundw
      case rel =>
        refine ⟨k + 1, by omega, by go_num, ?_, HB2.out.trans q2⟩
        rw [HST.out, cls_append]
        exact q1
      case measure => simp [intOf]; omega
    · obtain rfl : k = l.length := by omega
      rw [List.take_length] at HW
      obtain ⟨a2, c2, rfl, _⟩ := ownsRow_cells HW.out
      have hco := implCornG a2 c2 (turnL l m) wr (by rw [HTL.out]; omega) (by rw [HTL.out]; omega) HTI.out (ownsRow_cellsAt HW.out)
      rw [HTC.out, HTL.out] at hco
      have HCO := Lib.hid hco
      clear hco
      go_wp2_with fail
      refine HCO.out.mono ?_
      rintro e w4 ⟨a4, c4, rfl, ho4, hb4⟩
      have HO4 := Lib.hid ho4
      have HB4 := Lib.hid (HB.out.trans (hb4.mono hszr))
      clear ho4 hb4
      go_wp2
      go_ret
      exact ⟨a4, c4, rfl, ownsRow_rebase HO4.out hszr, HB4.out⟩
end Go.Proofs.YtajmdgcnnipdoaaGreatDoor

/- Orient: the walks of OrientationsOf, the reference's and the program's: all motions' results, in order, each once. -/
namespace Go.Proofs.YtajmdgcnnipdoaaGreatDoor
open Go.RowKit

attribute [local go_sem ↓] Go.wp_at_zero Go.wp_at_succ

theorem orientTo_short {l : List Cl} (h : Shape l) {k : Nat} (hk : k ≤ 8) : ∀ r ∈ orientTo l k, r.length ≤ 1000 := fun r hr => by
  obtain ⟨m, hm, rfl⟩ := mem_orientTo hr
  have := (shape_tcorn h (m := m) (by omega)).2.2
  omega

set_option maxRecDepth 100000 in
set_option maxHeartbeats 3200000 in
theorem specOrient (ad : Option Addr) (c : Nat) (l : List Cl) (w : World) (hn : l.length ≤ 1048576) (hc : CellsAt w ad (cls l)) :
    Calls Tryz.prog 107 #[.slice ad l.length c] w fun e w' => ∃ ad' c', e = .returned (.slice ad' (orientL l).length c') ∧ ShpsAt w' ad' (orientL l) ∧ Below w.heap.size w w' := by
  have HC := Lib.hid hc
  clear hc
  obtain ⟨w0, hw0⟩ : ∃ w0, w0 = w.alloc (.cells #[] 40) := ⟨_, rfl⟩
  have hb0 : Below w.heap.size w w0 := by rw [hw0]; exact (Below.refl _ _).alloc (Nat.le_refl _) _
  have ho0 : w0.ownsRow w.heap.size 40 1 (.slice (some ⟨w.heap.size, 0, none⟩) 0 0) 0 [] := by rw [hw0]; exact ownsRow_empty _ _ _
  have hsz0 := hb0.size
  have HB0 := Lib.hid hb0
  have HO0 := Lib.hid ho0
  have HW0 := Lib.hid hw0
  clear hb0 ho0 hw0
  by_cases hs : Shape l
  · have hor : orientL l = orientTo l 8 := by unfold orientL; rw [if_pos hs]
    have HOR := Lib.hid hor
    have HSH := Lib.hid (fun w' hc' => (specShape ad c l w' hn hc').mono (fun e w'' (q : _ ∧ _) => (⟨by rw [q.1, decide_eq_true hs], q.2⟩ : e = .returned (.bool true) ∧ Below w'.heap.size w' w'')))
    have HTU := Lib.hid (fun (m : Nat) hm w' hc' => specTurn ad c l m w' hm hs.2.1 hs.2.2 (shape_in hs) hc')
    have HSHRT := Lib.hid (fun (k : Nat) (hk : k ≤ 8) => orientTo_short hs hk)
    have HTL := Lib.hid (fun (m : Nat) (hm : m < 8) => (shape_tcorn hs hm).2.2)
    clear hs hor
    go_enter Tryz.func107, Tryz.ntmps107
    go_wp2
    rw [← HW0.out]
    go_loopw [3, 4] (fun s i wr => ∃ k g c' vals, k ≤ 8 ∧ i = .int .i64 (k : Nat) ∧ s = .slice (some ⟨g, 0, none⟩) (orientTo l k).length c' ∧ wr.ownsRow w.heap.size 40 1 (.slice (some ⟨g, 0, none⟩) (orientTo l k).length c') (orientTo l k).length vals ∧ ShapesIn wr w.heap.size vals (orientTo l k) ∧ Below w.heap.size w wr) (fun _ i _ => 8 - (intOf i).toNat)
    case atStart => exact ⟨0, w.heap.size, 0, [], by omega, rfl, rfl, HO0.out, trivial, HB0.out⟩
    case round =>
      obtain ⟨k, g, c', vals, hk, rfl, rfl, hown, hin, hb⟩ := hrel
      have hszr := hb.size
      have hkl := orientTo_length l k
      have HB := Lib.hid hb
      have HW := Lib.hid hown
      have HIN := Lib.hid hin
      clear hb hown hin
      by_cases hlt : k < 8
      · have i1 : (k : Int) < 8 := by omega
        have hst : orientTo l (k + 1) = putG ltS (orientTo l k) (tcorn l k) := rfl
        have HST := Lib.hid hst
        have hshr := HSHRT.out k hk
        have htl := HTL.out k hlt
        clear hst
        generalize orientTo l k = rows at HW HIN HST hshr hkl ⊢
        have HSHR := Lib.hid hshr
        clear hshr
        go_wp2_with fail
        refine (HSH.out wr (HC.out.below HB.out)).mono ?_
        rintro e w1 ⟨rfl, hb1⟩
        have HB1 := Lib.hid (HB.out.trans (hb1.mono hszr))
        have hsz1 := HB1.out.size
        have HW1 := Lib.hid (ownsRow_far_below HW.out hb1 (Nat.le_refl _))
        have HIN1 := Lib.hid (HIN.out.below hb1)
        clear hb1
        go_wp2_with fail
        refine (HTU.out k hlt w1 (HC.out.below HB1.out)).mono ?_
        rintro e w2 ⟨a2, c2, rfl, ho2, hb2⟩
        have HB2 := Lib.hid (HB1.out.trans (hb2.mono hsz1))
        have hsz2 := HB2.out.size
        have hpu := l3Put_any w.heap.size g c' rows vals a2 c2 (tcorn l k) w2 (by omega) HSHR.out (by omega) hsz2 (ownsRow_far_below HW1.out hb2 (Nat.le_refl _)) (HIN1.out.below hb2) (ownsRow_rebase ho2 hsz1)
        rw [← HST.out] at hpu
        have HPU := Lib.hid hpu
        clear ho2 hb2 hpu
        generalize tcorn l k = t at HPU htl ⊢
        generalize hro : orientTo l (k + 1) = rows' at HPU
        have HRO := Lib.hid hro
        clear hro
        go_wp2_with fail
        refine HPU.out.mono ?_
        rintro e w3 ⟨g3, c3, rfl, vals3, ho3, hin3, hb3⟩
        have HO3 := Lib.hid ho3
        have HIN3 := Lib.hid hin3
        have HB3 := Lib.hid (HB2.out.trans (hb3.mono hsz2))
        clear ho3 hin3 hb3
        go_wp2
        go_roundw
        case rel =>
          refine ⟨k + 1, g3, c3, vals3, by omega, by go_num, by rw [HRO.out], ?_, ?_, HB3.out⟩
          · rw [HRO.out]; exact HO3.out
          · rw [HRO.out]; exact HIN3.out
        case measure => simp [intOf]; omega
      · obtain rfl : k = 8 := by omega
        go_wp2
        go_ret
        rw [HOR.out]
        exact ⟨_, c', rfl, ShpsAt.of HW.out HIN.out, HB.out⟩
  · have hor : orientL l = [] := by unfold orientL; rw [if_neg hs]
    have HOR := Lib.hid hor
    have HSH := Lib.hid (fun w' hc' => (specShape ad c l w' hn hc').mono (fun e w'' (q : _ ∧ _) => (⟨by rw [q.1, decide_eq_false hs], q.2⟩ : e = .returned (.bool false) ∧ Below w'.heap.size w' w'')))
    clear hs hor
    go_enter Tryz.func107, Tryz.ntmps107
    go_wp2
    rw [← HW0.out]
    go_loopw [3, 4] (fun s i wr => s = .slice (some ⟨w.heap.size, 0, none⟩) 0 0 ∧ i = .int .i64 0 ∧ w0 = wr) (fun _ i _ => 8 - (intOf i).toNat)
    case atStart => exact ⟨rfl, rfl, rfl⟩
    case round =>
      obtain ⟨rfl, rfl, rfl⟩ := hrel
      go_wp2_with fail
      refine (HSH.out w0 (HC.out.below HB0.out)).mono ?_
      rintro e w1 ⟨rfl, hb1⟩
      have HB1 := Lib.hid (HB0.out.trans (hb1.mono hsz0))
      clear hb1
      go_wp2
      go_ret
      rw [HOR.out]
      exact ⟨_, 0, rfl, ⟨[], CellsAt.nil _ _, trivial⟩, HB1.out⟩

set_option maxRecDepth 100000 in
set_option maxHeartbeats 3200000 in
theorem implOrient (ad : Option Addr) (c : Nat) (l : List Cl) (w : World) (hn : l.length ≤ 1048576) (hc : CellsAt w ad (cls l)) :
    Calls Tryz.prog 105 #[.slice ad l.length c] w fun e w' => ∃ ad' c', e = .returned (.slice ad' (orientL l).length c') ∧ ShpsAt w' ad' (orientL l) ∧ Below w.heap.size w w' := by
  have HC := Lib.hid hc
  clear hc
  by_cases hs : Shape l
  · have hor : orientL l = orientTo l 8 := by unfold orientL; rw [if_pos hs]
    have HOR := Lib.hid hor
    have HSH := Lib.hid (fun w' hc' => (implShape ad c l w' hn hc').mono (fun e w'' (q : _ ∧ _) => (⟨by rw [q.1, decide_eq_true hs], q.2⟩ : e = .returned (.bool true) ∧ Below w'.heap.size w' w'')))
    have HTU := Lib.hid (fun (m : Nat) hm w' hc' => implTurn ad c l m w' hm hs.2.1 hs.2.2 (shape_in hs) hc')
    have HSHRT := Lib.hid (fun (k : Nat) (hk : k ≤ 8) => orientTo_short hs hk)
    clear hs hor
    go_enter Tryz.func105, Tryz.ntmps105
    go_wp2_with fail
    refine (HSH.out w HC.out).mono ?_
    rintro e w1 ⟨rfl, hb1⟩
    have HB1 := Lib.hid hb1
    clear hb1
    go_wp2
    go_loopw [3, 8] (fun s i wr => ∃ k ad' c' vals, k ≤ 8 ∧ i = .int .i64 (k : Nat) ∧ s = .slice ad' (orientTo l k).length c' ∧ wr.ownsRow w.heap.size 40 1 (.slice ad' (orientTo l k).length c') (orientTo l k).length vals ∧ ShapesIn wr w.heap.size vals (orientTo l k) ∧ Below w.heap.size w wr) (fun _ i _ => 8 - (intOf i).toNat)
    case atStart => exact ⟨0, none, 0, [], by omega, rfl, rfl, World.ownsRow_nil _ _ _ _, trivial, HB1.out⟩
    case round =>
      obtain ⟨k, a', c', vals, hk, rfl, rfl, hown, hin, hb⟩ := hrel
      have hszr := hb.size
      have hkl := orientTo_length l k
      have HB := Lib.hid hb
      have HW := Lib.hid hown
      have HIN := Lib.hid hin
      clear hb hown hin
      by_cases hlt : k < 8
      · have i1 : (k : Int) < 8 := by omega
        have hst : orientTo l (k + 1) = putG ltS (orientTo l k) (tcorn l k) := rfl
        have HST := Lib.hid hst
        have HASC := Lib.hid (orientTo_asc l k)
        have hshr := HSHRT.out k hk
        clear hst
        generalize orientTo l k = rows at HW HIN HST HASC hshr hkl ⊢
        have HSHR := Lib.hid hshr
        clear hshr
        go_wp2_with fail
        refine (HTU.out k hlt wr (HC.out.below HB.out)).mono ?_
        rintro e w2 ⟨a2, c2, rfl, ho2, hb2⟩
        have HB2 := Lib.hid (HB.out.trans (hb2.mono hszr))
        have hsz2 := HB2.out.size
        have how2 := ownsRow_far_below HW.out hb2 (Nat.le_refl _)
        have HLT2 := Lib.hid (fun q hq => (how2.lt q hq).1)
        have hpu := putShape_any w.heap.size a' c' rows vals a2 c2 (tcorn l k) w2 (by omega) HSHR.out HASC.out hsz2 how2 (HIN.out.below hb2) (ownsRow_rebase ho2 hszr)
        rw [← HST.out] at hpu
        have HPU := Lib.hid hpu
        clear ho2 hb2 hpu how2
        generalize tcorn l k = t at HPU ⊢
        generalize hro : orientTo l (k + 1) = rows' at HPU
        have HRO := Lib.hid hro
        clear hro
        go_wp2_with fail
        refine HPU.out.mono ?_
        rintro e w3 ⟨a3, c3, rfl, vals3, ho3, hin3, hg3⟩
        have HO3 := Lib.hid ho3
        have HIN3 := Lib.hid hin3
        have HB3 := Lib.hid (HB2.out.grown hg3 hsz2 HLT2.out)
        clear ho3 hin3 hg3
        go_wp2
        go_roundw
        case rel =>
          refine ⟨k + 1, a3, c3, vals3, by omega, by go_num, by rw [HRO.out], ?_, ?_, HB3.out⟩
          · rw [HRO.out]; exact HO3.out
          · rw [HRO.out]; exact HIN3.out
        case measure => simp [intOf]; omega
      · obtain rfl : k = 8 := by omega
        go_wp2
        go_ret
        rw [HOR.out]
        exact ⟨a', c', rfl, ShpsAt.of HW.out HIN.out, HB.out⟩
  · have hor : orientL l = [] := by unfold orientL; rw [if_neg hs]
    have HOR := Lib.hid hor
    have HSH := Lib.hid (fun w' hc' => (implShape ad c l w' hn hc').mono (fun e w'' (q : _ ∧ _) => (⟨by rw [q.1, decide_eq_false hs], q.2⟩ : e = .returned (.bool false) ∧ Below w'.heap.size w' w'')))
    clear hs hor
    go_enter Tryz.func105, Tryz.ntmps105
    go_wp2_with fail
    refine (HSH.out w HC.out).mono ?_
    rintro e w1 ⟨rfl, hb1⟩
    have HB1 := Lib.hid hb1
    clear hb1
    go_wp2
    go_ret
    rw [HOR.out]
    exact ⟨none, 0, rfl, ⟨[], CellsAt.nil _ _, trivial⟩, HB1.out⟩
end Go.Proofs.YtajmdgcnnipdoaaGreatDoor
