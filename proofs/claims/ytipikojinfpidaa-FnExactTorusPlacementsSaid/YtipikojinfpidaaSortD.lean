/- SortD: the walk of the program's SortCells over cells that ascend. -/
import Derived.Test.YtipikojinfpidaaSortS
import Derived.Test.YtipikojinfpidaaApp
import Derived.BigQuiet
import Derived.Laws.StructEq
namespace Go.Proofs.Ytipikojinfpidaa
open Go.RowKit

theorem cellEq (ax ay bx by' : Int) (w : World) : Sem.run Try.prog (Op.equalIn 10000 47 (.agg #[.int .i64 ax, .int .i64 ay]) (.agg #[.int .i64 bx, .int .i64 by'])) w = .ok (ax == bx && ay == by') w := by
  have u3 := Try.underlying3
  have a3 := Try.isAgg3
  have z3 := Try.sizeOf3
  have hS : Try.prog.underlying 47 = some (.struct (Try.prog.fieldsOf 47)) := by kernel_rfl
  have hp : Try.prog.stoodInHeld 47 = false := by kernel_rfl
  rw [show (10000 : Nat) = 9999 + 1 from rfl, run_equalIn_agg w 9999 47 _ _ hS hp]
  simp only [Program.fieldsOf, Try.underlying47]
  go_simp
  by_cases h1 : ax = bx <;> by_cases h2 : ay = by' <;> simp [h1, h2]
theorem cellNe {a b : Cl} (h : ltC a b = true) (w : World) : Sem.run Try.prog (Op.equalIn 10000 47 (.agg #[.int .i64 a.x, .int .i64 a.y]) (.agg #[.int .i64 b.x, .int .i64 b.y])) w = .ok false w := by
  rw [cellEq]
  rw [ltC_iff] at h
  cases q : (a.x == b.x && a.y == b.y) with
  | false => rfl
  | true => simp at q; omega
theorem cls_take_succ (l : List Cl) (k : Nat) (hk : k < l.length) : cls (l.take (k + 1)) = cls (l.take k) ++ [.int .i64 l[k].x, .int .i64 l[k].y] := by
  rw [List.take_succ_eq_append_getElem hk, cls_append]
  rfl

set_option maxRecDepth 100000 in
set_option maxHeartbeats 3200000 in
theorem implSortAsc (ad : Option Addr) (c : Nat) (l : List Cl) (w : World) (hn : l.length ≤ 12) (h0 : 0 < l.length) (hasc : AscG ltC l) (hnil : ad = none → c = 0) (hc : CellsAt w ad (cls l)) :
    Calls Try.prog 80 #[.slice ad l.length c] w fun e w' => ∃ ad' c', e = .returned (.slice ad' l.length c') ∧ w'.ownsRow w.heap.size 47 2 (.slice ad' l.length c') l.length (cls l) ∧ Below w.heap.size w w' := by
  have hcl := cls_length l
  have HC := Lib.hid hc
  have HN := Lib.hid hnil
  have HASC := Lib.hid hasc
  clear hc hnil hasc
  go_enter Try.func80, Try.ntmps80
  go_upto_region 2 with (at_builtin; refine wpList_appN rfl (.const (.slice none 0 0)) (.tmp 7) 26 rfl w.heap.size 47 _ 2 16 Try.elemCl _ 0 [] rfl (World.ownsRow_nil _ _ _ _) ad l.length c (cls l) rfl HN.out (by omega) HC.out (cls_one l) (by unfold maxLen; omega) (by omega) (Nat.le_refl _) ?_; intro a1 c1 w1 q1 q2 q3; simp only [Nat.zero_add, List.nil_append] at q1; clear q3)
  have HQ1 := Lib.hid q1
  have HQ2 := Lib.hid q2
  have hsz1 := q2.size
  obtain ⟨g, off, rfl, hg, hcc⟩ := cl_open (ownsRow_cellsAt q1) h0
  have hbW : Below w1.heap.size w1 (w1.alloc (.cells #[.slice (some ⟨g, off, none⟩) l.length c1] 26)) := (Below.refl _ _).alloc (Nat.le_refl _) _
  have hzW : (w1.alloc (.cells #[.slice (some ⟨g, off, none⟩) l.length c1] 26)).heap.size = w1.heap.size + 1 := by simp
  have hp2 := cell_of_one (heap_alloc_new w1 (.cells #[.slice (some ⟨g, off, none⟩) l.length c1] 26))
  generalize w1.alloc (.cells #[.slice (some ⟨g, off, none⟩) l.length c1] 26) = w2 at hbW hzW hp2 ⊢
  have hc2 := (ownsRow_cellsAt q1).below hbW
  have HS := Lib.hid (sliceAsc w1.heap.size g off c1 l w2 hn HASC.out (by omega) hp2 hc2)
  have HBW := Lib.hid hbW
  have HP2 := Lib.hid hp2
  have HC2 := Lib.hid hc2
  have hg2 : g < w2.heap.size := by omega
  clear q1 q2 hcc hc2
  go_wp2_with (go_at_call 84; refine HS.out.mono ?_; rintro e w3 ⟨rfl, hb3⟩; have hy3 := (hb3.cell (p := ⟨w1.heap.size, 0, none⟩) (by simp; omega)).trans HP2.out)
  have HB3 := Lib.hid hb3
  have hsz3 := hb3.size
  have HP3 := Lib.hid hy3
  have HC3 := Lib.hid (HC2.out.below hb3)
  clear hb3 hp2 hbW hy3
  go_loopw [4, 15] (fun s i wr => ∃ k : Nat, k ≤ l.length ∧ i = .int .i64 k ∧ wr.ownsRow w3.heap.size 47 2 s k (cls (l.take k)) ∧ Below w3.heap.size w3 wr) (fun _ i _ => l.length - (intOf i).toNat)
  case atStart => exact ⟨0, by omega, rfl, World.ownsRow_nil _ _ _ _, Below.refl _ _⟩
  case round =>
    obtain ⟨k, hk, rfl, hown, hb⟩ := hrel
    have hszr := hb.size
    have HW := Lib.hid hown
    have HB := Lib.hid hb
    clear hown hb
    by_cases hlt : k < l.length
    · obtain ⟨g', off', he, hg', hcc⟩ := cl_open HC3.out h0
      cases he
      obtain ⟨v0, v1⟩ := hcc k hlt
      have x0 := (HB.out.cell (p := ⟨g, off + k * 2, none⟩) (by simp; omega)).trans v0
      have x1 := (HB.out.cell (p := ⟨g, off + k * 2 + 1, none⟩) (by simp; omega)).trans v1
      have y0 := (HB.out.cell (p := ⟨w1.heap.size, 0, none⟩) (by simp; omega)).trans HP3.out
      have HST := Lib.hid (cls_take_succ l k hlt)
      have i1 : (k : Int) < (l.length : Int) := by omega
      have HCC := Lib.hid hcc
      clear v0 v1 hcc
      by_cases hk0 : k = 0
      · have b0 : ((k : Int) == 0) = true := by simp [hk0]
        clear hk0
        generalize l[k] = d at x0 x1 HST
        obtain ⟨dx, dy⟩ := d
        simp only at x0 x1 HST
        have hbB : Below wr.heap.size wr (wr.alloc (.cells #[.int .i64 dx, .int .i64 dy] 47)) := (Below.refl _ _).alloc (Nat.le_refl _) _
        have hzB : (wr.alloc (.cells #[.int .i64 dx, .int .i64 dy] 47)).heap.size = wr.heap.size + 1 := by simp
        have hbox := cl_box (heap_alloc_new wr (.cells #[.int .i64 dx, .int .i64 dy] 47))
        have HBB := Lib.hid hbB
        have HZB := Lib.hid hzB
        have HBOX := Lib.hid hbox
        clear hbB hzB hbox
        go_upto_region 7 with (fail)
        generalize wr.alloc (.cells #[.int .i64 dx, .int .i64 dy] 47) = wb at HBB HZB HBOX ⊢
        obtain ⟨z0, z1⟩ := HBOX.out
        go_big_quiet (fail)
        have hzb := HZB.out
        have HFAR := Lib.hid (ownsRow_far_below HW.out HBB.out (Nat.le_refl _))
        go_wp2_with (at_builtin; refine wpList_app1 rfl (.tmp 31) (.tmp 33) 26 rfl w3.heap.size 47 _ 2 16 Try.elemCl _ k _ _ _ _ rfl rfl (by simpa using hzb) (ownsRow_drewN HFAR.out _) (by rfl) (by simp [Value.oneCell']) (by unfold maxLen; omega) (by omega) (by omega) ?_; intro g' cap w4 q1 q2 q3 q4 q5 q6)
        go_roundw
        case rel =>
          refine ⟨k + 1, by omega, by go_num, ?_, HB.out.trans ((below_drewN (HBB.out.mono hszr) _).trans q2)⟩
          rw [HST.out]
          exact q1
        case measure => simp [intOf]; omega
      · have b0 : ((k : Int) == 0) = false := by simp [hk0]
        obtain ⟨m, hm⟩ : ∃ m, m = k - 1 := ⟨_, rfl⟩
        have hml : m < l.length := by omega
        obtain ⟨v0, v1⟩ := HCC.out m hml
        have p0 := (HB.out.cell (p := ⟨g, off + m * 2, none⟩) (by simp; omega)).trans v0
        have p1 := (HB.out.cell (p := ⟨g, off + m * 2 + 1, none⟩) (by simp; omega)).trans v1
        have hq := cellNe (List.pairwise_iff_getElem.1 HASC.out m k hml hlt (by omega))
        have i2 : (k : Int) - 1 = (m : Int) := by omega
        have i3 : IntKind.i64.wrap (m : Int) = (m : Int) := IntWalk.i64_in _ (by omega)
        have i4 : (m : Int) < (l.length : Int) := by omega
        clear hk0 v0 v1 hm
        generalize l[k] = d at x0 x1 HST hq
        generalize l[m] = q at p0 p1 hq
        obtain ⟨dx, dy⟩ := d
        obtain ⟨px, py⟩ := q
        simp only at x0 x1 HST p0 p1 hq
        have hbB : Below wr.heap.size wr (wr.alloc (.cells #[.int .i64 dx, .int .i64 dy] 47)) := (Below.refl _ _).alloc (Nat.le_refl _) _
        have hzB : (wr.alloc (.cells #[.int .i64 dx, .int .i64 dy] 47)).heap.size = wr.heap.size + 1 := by simp
        have hbox := cl_box (heap_alloc_new wr (.cells #[.int .i64 dx, .int .i64 dy] 47))
        have HBB := Lib.hid hbB
        have HZB := Lib.hid hzB
        have HBOX := Lib.hid hbox
        clear hbB hzB hbox
        go_upto_region 7 with (fail)
        generalize wr.alloc (.cells #[.int .i64 dx, .int .i64 dy] 47) = wb at HBB HZB HBOX ⊢
        obtain ⟨z0, z1⟩ := HBOX.out
        have r0 := (HBB.out.cell (p := ⟨g, off + m * 2, none⟩) (by simp; omega)).trans p0
        have r1 := (HBB.out.cell (p := ⟨g, off + m * 2 + 1, none⟩) (by simp; omega)).trans p1
        have r2 := (HBB.out.cell (p := ⟨w1.heap.size, 0, none⟩) (by simp; omega)).trans y0
        go_big_quiet (fail)
        have hzb := HZB.out
        have HFAR := Lib.hid (ownsRow_far_below HW.out HBB.out (Nat.le_refl _))
        go_wp2_with (at_builtin; refine wpList_app1 rfl (.tmp 31) (.tmp 33) 26 rfl w3.heap.size 47 _ 2 16 Try.elemCl _ k _ _ _ _ rfl rfl (by simpa using hzb) (ownsRow_drewN HFAR.out _) (by rfl) (by simp [Value.oneCell']) (by unfold maxLen; omega) (by omega) (by omega) ?_; intro g' cap w4 q1 q2 q3 q4 q5 q6)
        go_roundw
        case rel =>
          refine ⟨k + 1, by omega, by go_num, ?_, HB.out.trans ((below_drewN (HBB.out.mono hszr) _).trans q2)⟩
          rw [HST.out]
          exact q1
        case measure => simp [intOf]; omega
    · obtain rfl : k = l.length := by omega
      go_wp2
      go_ret
      obtain ⟨ad', c', rfl, _⟩ := ownsRow_cells HW.out
      have h2 := HW.out
      rw [List.take_length] at h2
      exact ⟨ad', c', rfl, ownsRow_rebase h2 (by omega), HQ2.out.trans ((HBW.out.mono hsz1).trans ((HB3.out.mono (by omega)).trans (HB.out.mono (by omega))))⟩
end Go.Proofs.Ytipikojinfpidaa
