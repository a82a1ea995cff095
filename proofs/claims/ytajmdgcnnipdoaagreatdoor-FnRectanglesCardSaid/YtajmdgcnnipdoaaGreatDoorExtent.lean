/- Extent: the walk of the program's extent. -/
import Derived.Test.YtajmdgcnnipdoaaGreatDoorAllTurn
import Derived.Deep.DrawnRows
namespace Go.Proofs.YtajmdgcnnipdoaaGreatDoor
open Go.RowKit

attribute [local go_sem ↓] Go.wp_at_zero Go.wp_at_succ

set_option maxRecDepth 100000 in
set_option maxHeartbeats 3200000 in
theorem implExtent (ad : Option Addr) (c : Nat) (l : List Cl) (w : World) (hl : l.length ≤ 1000) (hb : ∀ d ∈ l, (0 ≤ d.x ∧ d.x ≤ 7) ∧ 0 ≤ d.y ∧ d.y ≤ 7) (hc : CellsAt w ad (cls l)) :
    Calls Tryz.prog 127 #[.slice ad l.length c] w fun e w' => e = .returned (.tuple #[.int .i64 (maxTo Cl.x l l.length), .int .i64 (maxTo Cl.y l l.length)]) ∧ Below w.heap.size w w' := by
  have HC := Lib.hid hc
  have HIN := Lib.hid hb
  clear hc hb
  go_enter Tryz.func127, Tryz.ntmps127
  go_wp2
  go_loopw [4, 5, 10] (fun x y i wr => ∃ k : Nat, k ≤ l.length ∧ i = .int .i64 k ∧ x = .int .i64 (maxTo Cl.x l k) ∧ y = .int .i64 (maxTo Cl.y l k) ∧ Below w.heap.size w wr) (fun _ _ i _ => l.length - (intOf i).toNat)
  case atStart => exact ⟨0, by omega, rfl, rfl, rfl, Below.refl _ _⟩
  case round =>
    obtain ⟨k, hk, rfl, rfl, rfl, hb⟩ := hrel
    have hszr := hb.size
    have HB := Lib.hid hb
    clear hb
    have bx := maxTo_bd (f := Cl.x) (l := l) (b := 8) (by omega) (fun d hd => by have := (HIN.out d hd).1; omega) k hk
    have by' := maxTo_bd (f := Cl.y) (l := l) (b := 8) (by omega) (fun d hd => by have := (HIN.out d hd).2; omega) k hk
    by_cases hlt : k < l.length
    · obtain ⟨g, off, rfl, hg, hcc⟩ := cl_open HC.out (by omega)
      obtain ⟨v0, v1⟩ := hcc k hlt
      have x0 := (HB.out.cell (p := ⟨g, off + k * 2, none⟩) hg).trans v0
      have x1 := (HB.out.cell (p := ⟨g, off + k * 2 + 1, none⟩) hg).trans v1
      have hd := HIN.out l[k] (List.getElem_mem hlt)
      have ex := show maxTo Cl.x l (k + 1) = max (maxTo Cl.x l k) ((l.getD k default).x + 1) from rfl
      have ey := show maxTo Cl.y l (k + 1) = max (maxTo Cl.y l k) ((l.getD k default).y + 1) from rfl
      rw [getDG hlt] at ex ey
      clear hcc v0 v1
      generalize l[k] = d at x0 x1 hd ex ey
      obtain ⟨dx, dy⟩ := d
      simp only at x0 x1 hd ex ey
      obtain ⟨⟨d1, d2⟩, d3, d4⟩ := hd
      obtain ⟨e1, he1⟩ : ∃ e1, e1 = dx + 1 := ⟨_, rfl⟩
      obtain ⟨e2, he2⟩ : ∃ e2, e2 = dy + 1 := ⟨_, rfl⟩
      rw [← he1] at ex
      rw [← he2] at ey
      have EX := Lib.hid ex
      have EY := Lib.hid ey
      have i1 : (k : Int) < (l.length : Int) := by omega
      have s1 : IntKind.i64.wrap e1 = e1 := IntWalk.i64_in _ (by omega)
      have s2 : IntKind.i64.wrap e2 = e2 := IntWalk.i64_in _ (by omega)
      have s3 : dx + 1 = e1 := he1.symm
      have s4 : dy + 1 = e2 := he2.symm
      clear ex ey he1 he2
      generalize maxTo Cl.x l k = mx at bx EX ⊢
      generalize maxTo Cl.y l k = my at by' EY ⊢
      obtain ⟨b1, b2⟩ := bx
      obtain ⟨b3, b4⟩ := by'
      have hbW : Below wr.heap.size wr (wr.alloc (.cells #[.int .i64 dx, .int .i64 dy] 91)) := (Below.refl _ _).alloc (Nat.le_refl _) _
      have hbox := cl_box (heap_alloc_new wr (.cells #[.int .i64 dx, .int .i64 dy] 91))
      have HBW := Lib.hid hbW
      have HBOX := Lib.hid hbox
      clear hbW hbox
      go_upto_region 5 with (fail)
      generalize wr.alloc (.cells #[.int .i64 dx, .int .i64 dy] 91) = wb at HBW HBOX ⊢
      obtain ⟨z0, z1⟩ := HBOX.out
      go_big_quiet (fail)
      go_wp2
      go_roundw
      case rel => exact ⟨k + 1, by omega, by go_num, by first | (rw [EX.out]; go_num; done) | rw [EX.out], by first | (rw [EY.out]; go_num; done) | rw [EY.out], below_drewN (HB.out.trans (HBW.out.mono hszr)) _⟩
      case measure => simp [intOf]; omega
    · obtain rfl : k = l.length := by omega
      go_wp2
      go_ret2
      exact ⟨rfl, HB.out⟩
end Go.Proofs.YtajmdgcnnipdoaaGreatDoor
