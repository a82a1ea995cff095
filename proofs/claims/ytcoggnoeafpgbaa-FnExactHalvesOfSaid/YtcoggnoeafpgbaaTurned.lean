/- Turned: the walks of the reference's l3Turn and of the program's turned: a shape by a motion, in its corner. -/
import Derived.Test.YtcoggnoeafpgbaaCarry
import Derived.Test.YtcoggnoeafpgbaaSpecSort
import Derived.Test.YtcoggnoeafpgbaaCornG
import Derived.Deep.DrawnRows
namespace Go.Proofs.Ytcoggnoeafpgbaa
open Go.RowKit

attribute [local go_sem ↓] Go.wp_at_zero Go.wp_at_succ

theorem in7_bd {l : List Cl} (h : ∀ d ∈ l, In 7 d) : ∀ d ∈ l, (-1000 ≤ d.x ∧ d.x ≤ 1000) ∧ -1000 ≤ d.y ∧ d.y ≤ 1000 := fun d hd => by
  have := h d hd
  unfold In at this
  omega
theorem in7_1000 {c : Cl} (h : In 7 c) : In 1000 c := by unfold In at *; omega

set_option maxRecDepth 100000 in
set_option maxHeartbeats 3200000 in
theorem specTurn (ad : Option Addr) (c : Nat) (l : List Cl) (m : Nat) (w : World) (hm : m < 8) (h0 : 0 < l.length) (h8 : l.length ≤ 8) (hin : ∀ d ∈ l, In 7 d) (hc : CellsAt w ad (cls l)) :
    Calls Try.prog 52 #[.slice ad l.length c, .int .i64 m] w fun e w' => ∃ ad' c', e = .returned (.slice ad' (tcorn l m).length c') ∧ w'.ownsRow w.heap.size 39 2 (.slice ad' (tcorn l m).length c') (tcorn l m).length (cls (tcorn l m)) ∧ Below w.heap.size w w' := by
  have HC := Lib.hid hc
  have HIN := Lib.hid hin
  have hbdp := in7_bd (fun d hd => in_turnL hin m d ((mem_putAllG wholeC _ d).1 hd))
  have hlp := putAllG_length (lt := ltC) (turnL l m)
  rw [turnL_length] at hlp
  have HBDP := Lib.hid hbdp
  have htc : tcorn l m = cornL (putAllG ltC (turnL l m)) := rfl
  have HTC := Lib.hid htc
  have htl := turnL_length l m
  have HTL := Lib.hid htl
  clear hc hin hbdp htc htl
  obtain ⟨w0, hw0⟩ : ∃ w0, w0 = w.alloc (.cells #[] 39) := ⟨_, rfl⟩
  have hb0 : Below w.heap.size w w0 := by rw [hw0]; exact (Below.refl _ _).alloc (Nat.le_refl _) _
  have ho0 : w0.ownsRow w.heap.size 39 2 (.slice (some ⟨w.heap.size, 0, none⟩) 0 0) 0 [] := by rw [hw0]; exact ownsRow_empty _ _ _
  have HB0 := Lib.hid hb0
  have HO0 := Lib.hid ho0
  have HW0 := Lib.hid hw0
  clear hb0 ho0 hw0
  go_enter Try.func52, Try.ntmps52
  go_wp2
  rw [← HW0.out]
  go_loopw [5, 6] (fun s i wr => ∃ k : Nat, k ≤ l.length ∧ i = .int .i64 k ∧ wr.ownsRow w.heap.size 39 2 s k (cls (turnL (l.take k) m)) ∧ Below w.heap.size w wr) (fun _ i _ => l.length - (intOf i).toNat)
  case atStart => exact ⟨0, by omega, rfl, by simpa [turnL, cls] using HO0.out, HB0.out⟩
  case round =>
    obtain ⟨k, hk, rfl, hown, hb⟩ := hrel
    have hszr := hb.size
    have HW := Lib.hid hown
    have HB := Lib.hid hb
    clear hown hb
    by_cases hlt : k < l.length
    · obtain ⟨g, off, rfl, hg, hcc⟩ := cl_open HC.out (by omega)
      obtain ⟨v0, v1⟩ := hcc k hlt
      have x0 := (HB.out.cell (p := ⟨g, off + k * 2, none⟩) hg).trans v0
      have x1 := (HB.out.cell (p := ⟨g, off + k * 2 + 1, none⟩) hg).trans v1
      have hdi := in7_1000 (HIN.out _ (List.getElem_mem hlt))
      have HST := Lib.hid (turnL_take l m k hlt)
      have i1 : (k : Int) < (l.length : Int) := by omega
      clear v0 v1 hcc
      generalize l[k] = d at x0 x1 hdi HST
      have HCA := Lib.hid (specApply d m wr hm hdi)
      generalize hcd : carryC m d = q at HST HCA
      clear hcd hdi
      obtain ⟨dx, dy⟩ := d
      obtain ⟨qx, qy⟩ := q
      simp only at x0 x1 HST HCA
      go_wp2_with fail
      refine HCA.out.mono ?_
      rintro e w2 ⟨rfl, hb2⟩
      have hz2 := hb2.size
      have HFAR := Lib.hid (ownsRow_far_below HW.out hb2 (Nat.le_refl _))
      have HB2 := Lib.hid (HB.out.trans (hb2.mono hszr))
      clear hb2
      go_wp2_with (at_builtin; refine wpList_app1 rfl (.tmp 14) (.tmp 21) 36 rfl w.heap.size 39 _ 2 16 Try.elemCl _ k _ _ _ _ rfl rfl rfl HFAR.out (by rfl) (by simp [Value.oneCell']) (by unfold maxLen; omega) (by omega) (by omega) ?_; intro g' cap w4 q1 q2 q3 q4 q5 q6)
      go_roundw
      case rel =>
        refine ⟨k + 1, by omega, by go_num, ?_, HB2.out.trans q2⟩
        rw [HST.out, cls_append]
        exact q1
      case measure => simp [intOf]; omega
    · obtain rfl : k = l.length := by omega
      rw [List.take_length] at HW
      obtain ⟨a2, c2, rfl, _⟩ := ownsRow_cells HW.out
      have hso := specSort a2 c2 (turnL l m) wr (by rw [HTL.out]; omega) (ownsRow_cellsAt HW.out)
      rw [HTL.out] at hso
      have HSO := Lib.hid hso
      clear hso
      go_wp2_with fail
      refine HSO.out.mono ?_
      rintro e w3 ⟨a3, c3, rfl, ho3, hb3⟩
      have HB3 := Lib.hid (HB.out.trans (hb3.mono hszr))
      have hsz3 := HB3.out.size
      have hco := specCorner a3 c3 (putAllG ltC (turnL l m)) w3 (by omega) HBDP.out (ownsRow_cellsAt ho3)
      rw [← HTC.out] at hco
      have HCO := Lib.hid hco
      clear hco ho3 hb3
      generalize (putAllG ltC (turnL l m)).length = np at HCO ⊢
      go_wp2_with fail
      refine HCO.out.mono ?_
      rintro e w4 ⟨a4, c4, rfl, ho4, hb4⟩
      have HO4 := Lib.hid ho4
      have HB4 := Lib.hid (HB3.out.trans (hb4.mono hsz3))
      clear ho4 hb4
      go_wp2
      go_ret
      exact ⟨a4, c4, rfl, ownsRow_rebase HO4.out hsz3, HB4.out⟩

set_option maxRecDepth 100000 in
set_option maxHeartbeats 3200000 in
theorem implTurn (ad : Option Addr) (c : Nat) (l : List Cl) (m : Nat) (w : World) (hm : m < 8) (h0 : 0 < l.length) (h8 : l.length ≤ 8) (hin : ∀ d ∈ l, In 7 d) (hc : CellsAt w ad (cls l)) :
    Calls Try.prog 54 #[.slice ad l.length c, .int .i64 m] w fun e w' => ∃ ad' c', e = .returned (.slice ad' (tcorn l m).length c') ∧ w'.ownsRow w.heap.size 39 2 (.slice ad' (tcorn l m).length c') (tcorn l m).length (cls (tcorn l m)) ∧ Below w.heap.size w w' := by
  have HC := Lib.hid hc
  have HIN := Lib.hid hin
  have HTI := Lib.hid (in_turnL hin m)
  have htl := turnL_length l m
  have HTC := Lib.hid (show putAllG ltC (cornL (turnL l m)) = tcorn l m from corn_putAll (by rw [htl]; exact h0))
  have HTL := Lib.hid htl
  clear hc hin htl
  go_enter Try.func54, Try.ntmps54
  go_wp2
  go_loopw [5, 10] (fun s i wr => ∃ k : Nat, k ≤ l.length ∧ i = .int .i64 k ∧ wr.ownsRow w.heap.size 39 2 s k (cls (turnL (l.take k) m)) ∧ Below w.heap.size w wr) (fun _ i _ => l.length - (intOf i).toNat)
  case atStart => exact ⟨0, by omega, rfl, World.ownsRow_nil _ _ _ _, Below.refl _ _⟩
  case round =>
    obtain ⟨k, hk, rfl, hown, hb⟩ := hrel
    have hszr := hb.size
    have HW := Lib.hid hown
    have HB := Lib.hid hb
    clear hown hb
    by_cases hlt : k < l.length
    · obtain ⟨g, off, rfl, hg, hcc⟩ := cl_open HC.out (by omega)
      obtain ⟨v0, v1⟩ := hcc k hlt
      have x0 := (HB.out.cell (p := ⟨g, off + k * 2, none⟩) hg).trans v0
      have x1 := (HB.out.cell (p := ⟨g, off + k * 2 + 1, none⟩) hg).trans v1
      have hdi := in7_1000 (HIN.out _ (List.getElem_mem hlt))
      have HST := Lib.hid (turnL_take l m k hlt)
      have i1 : (k : Int) < (l.length : Int) := by omega
      clear v0 v1 hcc
      generalize l[k] = d at x0 x1 hdi HST
      have HCA := Lib.hid (fun w' => implCarry d m w' hm hdi)
      generalize hcd : carryC m d = q at HST HCA
      clear hcd hdi
      obtain ⟨dx, dy⟩ := d
      obtain ⟨qx, qy⟩ := q
      simp only at x0 x1 HST HCA
      have hbB : Below wr.heap.size wr (wr.alloc (.cells #[.int .i64 dx, .int .i64 dy] 39)) := (Below.refl _ _).alloc (Nat.le_refl _) _
      have hzB : (wr.alloc (.cells #[.int .i64 dx, .int .i64 dy] 39)).heap.size = wr.heap.size + 1 := by simp
      have hbox := cl_box (heap_alloc_new wr (.cells #[.int .i64 dx, .int .i64 dy] 39))
      have HBB := Lib.hid hbB
      have HZB := Lib.hid hzB
      have HBOX := Lib.hid hbox
      clear hbB hzB hbox
      go_upto_region 5 with (fail)
      generalize wr.alloc (.cells #[.int .i64 dx, .int .i64 dy] 39) = wb at HBB HZB HBOX ⊢
      obtain ⟨z0, z1⟩ := HBOX.out
      have hzb := HBB.out.size
      go_wp2_with fail
      refine (HCA.out wb).mono ?_
      rintro e w2 ⟨rfl, hb2⟩
      have hz2 := hb2.size
      have hb22 := HBB.out.trans (hb2.mono hzb)
      have HFAR := Lib.hid (ownsRow_far_below HW.out hb22 (Nat.le_refl _))
      have HB2 := Lib.hid (HB.out.trans (hb22.mono hszr))
      clear hb2 hb22
      go_wp2_with (at_builtin; refine wpList_app1 rfl (.tmp 14) (.tmp 18) 36 rfl w.heap.size 39 _ 2 16 Try.elemCl _ k _ _ _ _ rfl rfl rfl HFAR.out (by rfl) (by simp [Value.oneCell']) (by unfold maxLen; omega) (by omega) (by omega) ?_; intro g' cap w4 q1 q2 q3 q4 q5 q6)
      go_roundw
      case rel =>
        refine ⟨k + 1, by omega, by go_num, ?_, HB2.out.trans q2⟩
        rw [HST.out, cls_append]
        exact q1
      case measure => simp [intOf]; omega
    · obtain rfl : k = l.length := by omega
      rw [List.take_length] at HW
      obtain ⟨a2, c2, rfl, _⟩ := ownsRow_cells HW.out
      have hco := implCornG a2 c2 (turnL l m) wr (by rw [HTL.out]; omega) (by rw [HTL.out]; omega) HTI.out (ownsRow_cellsAt HW.out)
      rw [HTC.out, HTL.out] at hco
      have HCO := Lib.hid hco
      clear hco
      go_wp2_with fail
      refine HCO.out.mono ?_
      rintro e w4 ⟨a4, c4, rfl, ho4, hb4⟩
      have HO4 := Lib.hid ho4
      have HB4 := Lib.hid (HB.out.trans (hb4.mono hszr))
      clear ho4 hb4
      go_wp2
      go_ret
      exact ⟨a4, c4, rfl, ownsRow_rebase HO4.out hszr, HB4.out⟩
end Go.Proofs.Ytcoggnoeafpgbaa
