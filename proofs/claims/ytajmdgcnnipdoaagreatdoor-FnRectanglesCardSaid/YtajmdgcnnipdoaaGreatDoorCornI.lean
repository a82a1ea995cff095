/- CornI: the walks of the program's corner, CornerShape, SizeOf and IsRectangle. -/
import Derived.Test.YtajmdgcnnipdoaaGreatDoorAllSort
import Derived.Test.YtajmdgcnnipdoaaGreatDoorAllTurn
import Derived.Deep.DrawnRows
namespace Go.Proofs.YtajmdgcnnipdoaaGreatDoor
open Go.RowKit

attribute [local go_sem ↓] Go.wp_at_zero Go.wp_at_succ

theorem minUpI (f : Cl → Int) (l : List Cl) (k : Nat) (hk : k < l.length) : minTo f l (max (k + 1) 1) = min (minTo f l (max k 1)) (f l[k]) := by
  by_cases h : k = 0
  · subst h
    show minTo f l 1 = min (minTo f l 1) _
    rw [minTo_one, getDG hk]
    omega
  · rw [show max (k + 1) 1 = k + 1 by omega, show max k 1 = k by omega, minTo_succ (by omega), getDG hk]

set_option maxRecDepth 100000 in
set_option maxHeartbeats 3200000 in
theorem implCorner (ad : Option Addr) (c : Nat) (l : List Cl) (w : World) (hs : Shape l) (hc : CellsAt w ad (cls l)) :
    Calls Tryz.prog 152 #[.slice ad l.length c] w fun e w' => ∃ ad' c', e = .returned (.slice ad' (cornL l).length c') ∧ w'.ownsRow w.heap.size 91 2 (.slice ad' (cornL l).length c') (cornL l).length (cls (cornL l)) ∧ Below w.heap.size w w' := by
  have HC := Lib.hid hc
  obtain ⟨hl1, hl8⟩ := shape_len hs
  have h0l : 0 < l.length := hl1
  have HBD := Lib.hid (shape_bd hs)
  have HASC := Lib.hid (asc_cornL hs.1.1)
  have hIN := fun d (hd : d ∈ l) => hs.1.2 d hd
  have HIN := Lib.hid hIN
  have hfin : cornL l = shift l (minTo Cl.x l l.length) (minTo Cl.y l l.length) := rfl
  have HF := Lib.hid hfin
  have hlen : (cornL l).length = l.length := cornL_length l
  have HLEN := Lib.hid hlen
  have hbx := minTo_bd (f := Cl.x) (a := 0) (b := 7) (fun d hd => (hIN d hd).1) l.length hl1 (Nat.le_refl _)
  have hby := minTo_bd (f := Cl.y) (a := 0) (b := 7) (fun d hd => (hIN d hd).2) l.length hl1 (Nat.le_refl _)
  have HBX := Lib.hid hbx
  have HBY := Lib.hid hby
  obtain ⟨g, off, rfl, hg, hcc⟩ := cl_open hc h0l
  obtain ⟨f0, f1⟩ := hcc 0 h0l
  have e0 : minTo Cl.x l (max 0 1) = l[0].x := by show minTo Cl.x l 1 = _; rw [minTo_one, getDG h0l]
  have e1 : minTo Cl.y l (max 0 1) = l[0].y := by show minTo Cl.y l 1 = _; rw [minTo_one, getDG h0l]
  have HE0 := Lib.hid e0
  have HE1 := Lib.hid e1
  have HCC := Lib.hid hcc
  have i0 : (0 : Int) < (l.length : Int) := by omega
  simp only [Nat.zero_mul, Nat.add_zero] at f0 f1
  clear hc hs hfin hlen hbx hby hcc hIN e0 e1
  go_enter Tryz.func152, Tryz.ntmps152
  go_wp2
  go_big_quiet (fail)
  go_wp2
  generalize hw1 : w.drewN _ = w1
  have hb1 : Below w.heap.size w w1 := by rw [← hw1]; exact below_drewN (Below.refl _ _) _
  have HB1 := Lib.hid hb1
  have hsz1 := hb1.size
  clear hb1 hw1
  go_loopw [3, 4, 17] (fun x y i wr => ∃ k : Nat, k ≤ l.length ∧ i = .int .i64 k ∧ x = .int .i64 (minTo Cl.x l (max k 1)) ∧ y = .int .i64 (minTo Cl.y l (max k 1)) ∧ Below w1.heap.size w1 wr) (fun _ _ i _ => l.length - (intOf i).toNat)
  case atStart => exact ⟨0, by omega, rfl, by rw [HE0.out], by rw [HE1.out], Below.refl _ _⟩
  case round =>
    obtain ⟨k, hk, rfl, rfl, rfl, hb⟩ := hrel
    have hszr := hb.size
    have HB := Lib.hid (HB1.out.trans (hb.mono hsz1))
    have HBr := Lib.hid hb
    clear hb
    by_cases hlt : k < l.length
    · obtain ⟨v0, v1⟩ := HCC.out k hlt
      have x0 := (HB.out.cell (p := ⟨g, off + k * 2, none⟩) hg).trans v0
      have x1 := (HB.out.cell (p := ⟨g, off + k * 2 + 1, none⟩) hg).trans v1
      have ex := minUpI Cl.x l k hlt
      have ey := minUpI Cl.y l k hlt
      generalize l[k] = d at x0 x1 ex ey
      obtain ⟨dx, dy⟩ := d
      simp only at x0 x1 ex ey
      have EX := Lib.hid ex
      have EY := Lib.hid ey
      have i1 : (k : Int) < (l.length : Int) := by omega
      clear ex ey v0 v1
      generalize minTo Cl.x l (max k 1) = mx at EX ⊢
      generalize minTo Cl.y l (max k 1) = my at EY ⊢
      have hbW : Below wr.heap.size wr (wr.alloc (.cells #[.int .i64 dx, .int .i64 dy] 91)) := (Below.refl _ _).alloc (Nat.le_refl _) _
      have hbox := cl_box (heap_alloc_new wr (.cells #[.int .i64 dx, .int .i64 dy] 91))
      have HBW := Lib.hid hbW
      have HBOX := Lib.hid hbox
      clear hbW hbox
      go_upto_region 5 with (fail)
      generalize wr.alloc (.cells #[.int .i64 dx, .int .i64 dy] 91) = wb at HBW HBOX ⊢
      obtain ⟨z0, z1⟩ := HBOX.out
      go_big_quiet (fail)
      go_wp2
      go_roundw
      case rel => exact ⟨k + 1, by omega, by go_num, by rw [EX.out], by rw [EY.out], below_drewN (HBr.out.trans (HBW.out.mono hszr)) _⟩
      case measure => simp [intOf]; omega
    · obtain rfl : k = l.length := by omega
      rw [show max l.length 1 = l.length by omega]
      have hbx := HBX.out
      have hby := HBY.out
      have hsh := HF.out
      generalize minTo Cl.x l l.length = mx at hbx hsh ⊢
      generalize minTo Cl.y l l.length = my at hby hsh ⊢
      obtain ⟨nx, hnx⟩ : ∃ nx, nx = -mx := ⟨_, rfl⟩
      obtain ⟨ny, hny⟩ : ∃ ny, ny = -my := ⟨_, rfl⟩
      have hpl : plusL l nx ny = cornL l := by rw [hnx, hny, plusL_shift, hsh]
      have HPL := Lib.hid hpl
      obtain ⟨bx1, bx2⟩ := hbx
      obtain ⟨by1, by2⟩ := hby
      have n1 : -mx = nx := hnx.symm
      have n2 : -my = ny := hny.symm
      have nx1 : -1000 ≤ nx ∧ nx ≤ 1000 := by omega
      have ny1 : -1000 ≤ ny ∧ ny ≤ 1000 := by omega
      have s1 : IntKind.i64.wrap nx = nx := IntWalk.i64_in _ (by omega)
      have s2 : IntKind.i64.wrap ny = ny := IntWalk.i64_in _ (by omega)
      clear hpl hsh hnx hny
      have HMV := Lib.hid (implMoved (some ⟨g, off, none⟩) c l nx ny wr (by omega) HBD.out nx1 ny1 (HC.out.below HB.out))
      rw [HPL.out] at HMV
      go_wp2_with fail
      refine HMV.out.mono ?_
      rintro e w2 ⟨a2, c2, rfl, ho2, hb2⟩
      have HO2 := Lib.hid ho2
      have HB2 := Lib.hid (HB.out.trans (hb2.mono HB.out.size))
      have hsz2 := HB2.out.size
      clear ho2 hb2
      have HSO := Lib.hid (implSortAsc a2 c2 (cornL l) w2 (by rw [HLEN.out]; omega) (by rw [HLEN.out]; omega) HASC.out (ownsRow_le_cap HO2.out).2 (ownsRow_cellsAt HO2.out))
      go_wp2_with fail
      refine HSO.out.mono ?_
      rintro e w3 ⟨a3, c3, rfl, ho3, hb3⟩
      have HO3 := Lib.hid ho3
      have HB3 := Lib.hid (HB2.out.trans (hb3.mono hsz2))
      clear ho3 hb3
      go_wp2
      go_ret
      exact ⟨a3, c3, rfl, ownsRow_rebase HO3.out hsz2, HB3.out⟩
end Go.Proofs.YtajmdgcnnipdoaaGreatDoor
