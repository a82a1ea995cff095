/- AllSort: parts laid together: SortC, SortP, SortS, SortD, SortG0, SortG, SortH, SortI. -/
import Derived.Test.YtajmdgcnnipdoaaGreatDoorAllPut0
import Derived.Test.YtajmdgcnnipdoaaGreatDoorAllFrame
import Derived.StillTailTactics
import Derived.Laws.EntriesVeiled
import Derived.LoopN
import Derived.Test.YtajmdgcnnipdoaaGreatDoorShelf
import Derived.Shelf.GgSortFunc.Slice
import Derived.Test.YtajmdgcnnipdoaaGreatDoorAllBase
import Derived.BigQuiet
import Derived.Laws.StructEq
import Derived.Shelf.GgSortFunc.InsertionK
import Derived.Shelf.GgSortFunc.SmallK

/- SortC: the order that the program's SortCells hands to sort.Slice; the sort's own walk over cells that ascend: nothing is swapped. -/
namespace Go.Proofs.YtajmdgcnnipdoaaGreatDoor
open Go.RowKit

theorem callFunc_less (args : Array Value) (w : World) : Sem.run Tryz.prog (callFunc 177 args) w = .ok (.enter 177 args) w := by kernel_rfl
theorem ltC_not {a b : Cl} (h : ltC a b = true) : ltC b a = false := by
  cases q : ltC b a with
  | false => rfl
  | true => rw [ltC_iff] at h q; omega

set_option maxRecDepth 100000 in
set_option maxHeartbeats 1600000 in
theorem lessCells (p g off c i j : Nat) (l : List Cl) (w : World) (hn : l.length ≤ 1048576) (hp : w.cell? ⟨p, 0, none⟩ = some (.slice (some ⟨g, off, none⟩) l.length c)) (hc : CellsAt w (some ⟨g, off, none⟩) (cls l)) (hi : i < l.length) (hj : j < l.length) :
    Calls Tryz.prog 177 #[.int .i64 i, .int .i64 j, .pointer (some ⟨p, 0, none⟩)] w fun e w' => e = .returned (.bool (ltC l[i] l[j])) ∧ Below w.heap.size w w' := by
  obtain ⟨g', off', he, hg, hcc⟩ := cl_open hc (by omega)
  cases he
  obtain ⟨x0, x1⟩ := hcc i hi
  obtain ⟨y0, y1⟩ := hcc j hj
  clear hcc hc
  generalize l[i] = a at x0 x1 ⊢
  generalize l[j] = b at y0 y1 ⊢
  obtain ⟨ax, ay⟩ := a
  obtain ⟨bx, by'⟩ := b
  simp only at x0 x1 y0 y1
  have i1 : (i : Int) < (l.length : Int) := by omega
  have j1 : (j : Int) < (l.length : Int) := by omega
  go_enter Tryz.func177, Tryz.ntmps177
  go_wp2
  go_still_tail 8, (by kernel_rfl)
  go_wp2_with fail
  refine (implBefore ax ay bx by' w.drew).mono ?_
  rintro e w' ⟨rfl, hb⟩
  have HB := Lib.hid hb
  clear hb
  go_wp2
  go_ret
  exact ⟨rfl, (Below.refl _ _).drew.trans (HB.out.mono (Nat.le_refl _))⟩

set_option maxRecDepth 100000 in
set_option maxHeartbeats 3200000 in
theorem insAsc (p g off c : Nat) (l : List Cl) (sl : Fn) (sa sb : Array Value) (w : World) (hn : l.length ≤ 1000) (hasc : AscG ltC l) (hpw : p < w.heap.size)
    (hp : w.cell? ⟨p, 0, none⟩ = some (.slice (some ⟨g, off, none⟩) l.length c)) (hc : CellsAt w (some ⟨g, off, none⟩) (cls l)) :
    Calls Tryz.prog 208 #[.agg #[.func (.func 177) #[] #[.pointer (some ⟨p, 0, none⟩)], .func sl sa sb], .int .i64 0, .int .i64 l.length] w fun e w' => e = .returned (.tuple #[]) ∧ Below w.heap.size w w' := by
  have HC := Lib.hid hc
  have HP := Lib.hid hp
  have HASC := Lib.hid hasc
  obtain ⟨w0, hw0⟩ : ∃ w0, w0 = w.alloc (.cells #[.func (.func 177) #[] #[.pointer (some ⟨p, 0, none⟩)], .func sl sa sb] 170) := ⟨_, rfl⟩
  have hb0 : Below w.heap.size w w0 := by rw [hw0]; exact (Below.refl _ _).alloc (Nat.le_refl _) _
  have hz0 : w0.heap.size = w.heap.size + 1 := by rw [hw0]; simp
  have hbox : w0.cell? ⟨w.heap.size, 0, none⟩ = some (.func (.func 177) #[] #[.pointer (some ⟨p, 0, none⟩)]) := by rw [hw0, cell_of_row _ _ 0 _ _ _ (heap_alloc_new w _)]; rfl
  have HB0 := Lib.hid hb0
  have HBOX := Lib.hid hbox
  have HW0 := Lib.hid hw0
  clear hc hp hasc hb0 hbox hw0
  go_enter Tryz.func208, Tryz.ntmps208
  go_wp2
  rw [← HW0.out]
  go_loopw [6] (fun i wr => ∃ k : Nat, 1 ≤ k ∧ i = .int .i64 k ∧ (k = 1 ∨ k ≤ l.length) ∧ Below w0.heap.size w0 wr) (fun i _ => l.length - (intOf i).toNat)
  case atStart => exact ⟨1, by omega, rfl, Or.inl rfl, Below.refl _ _⟩
  case round =>
    obtain ⟨k, hk1, rfl, hk, hb⟩ := hrel
    have hszr := hb.size
    have HB := Lib.hid hb
    clear hb
    by_cases hlt : k < l.length
    · obtain ⟨m, hm⟩ : ∃ m, m = k - 1 := ⟨_, rfl⟩
      have hml : m < l.length := by omega
      have hno : ltC l[k] l[m] = false := ltC_not (List.pairwise_iff_getElem.1 HASC.out m k hml hlt (by omega))
      have b1 : wr.cell? ⟨w.heap.size, 0, none⟩ = some (.func (.func 177) #[] #[.pointer (some ⟨p, 0, none⟩)]) := (HB.out.cell (p := ⟨w.heap.size, 0, none⟩) (by rw [hz0]; simp)).trans HBOX.out
      have hbw : Below w.heap.size w wr := HB0.out.trans (HB.out.mono HB0.out.size)
      have hpp : wr.cell? ⟨p, 0, none⟩ = some (.slice (some ⟨g, off, none⟩) l.length c) := (hbw.cell (p := ⟨p, 0, none⟩) hpw).trans HP.out
      have HL := Lib.hid (lessCells p g off c k m l wr (by omega) hpp (HC.out.below hbw) hlt hml)
      rw [hno] at HL
      have d1 : decide ((0 : Int) < (k : Int)) = true := by simp; omega
      have d2 : decide (0 < k) = true := by simp; omega
      have i1 : (k : Int) < (l.length : Int) := by omega
      have i2 : (k : Int) - 1 = (m : Int) := by omega
      have i3 : IntKind.i64.wrap (m : Int) = (m : Int) := IntWalk.i64_in _ (by omega)
      have hcf := callFunc_less
      clear hno hpp hbw hm
      go_wp2
      refine wp_loop_rounds 1 ?_
      rw [rounds_succ]
      go_wp2_with (go_at_call 177; refine HL.out.mono ?_; rintro e w' ⟨rfl, hb2⟩)
      go_roundw
      case rel => exact ⟨k + 1, by omega, by go_num, Or.inr (by omega), HB.out.trans (hb2.mono hszr)⟩
      case measure => simp [intOf]; omega
    · have i1 : ¬ (k : Int) < (l.length : Int) := by omega
      go_wp2
      go_end0
      exact ⟨rfl, HB0.out.trans (HB.out.mono HB0.out.size)⟩
end Go.Proofs.YtajmdgcnnipdoaaGreatDoor

/- SortP: pdqsort_func over at most twelve cells that ascend. -/
namespace Go.Proofs.YtajmdgcnnipdoaaGreatDoor
open Go.RowKit

set_option maxRecDepth 100000 in
set_option maxHeartbeats 3200000 in
theorem pdqAsc (p g off c : Nat) (l : List Cl) (sl : Fn) (sa sb : Array Value) (lim : Int) (w : World) (hn : l.length ≤ 12) (hasc : AscG ltC l) (hpw : p < w.heap.size)
    (hp : w.cell? ⟨p, 0, none⟩ = some (.slice (some ⟨g, off, none⟩) l.length c)) (hc : CellsAt w (some ⟨g, off, none⟩) (cls l)) :
    Calls Tryz.prog 192 #[.agg #[.func (.func 177) #[] #[.pointer (some ⟨p, 0, none⟩)], .func sl sa sb], .int .i64 0, .int .i64 l.length, .int .i64 lim] w fun e w' => e = .returned (.tuple #[]) ∧ Below w.heap.size w w' := by
  obtain ⟨w0, hw0⟩ : ∃ w0, w0 = w.alloc (.cells #[.func (.func 177) #[] #[.pointer (some ⟨p, 0, none⟩)], .func sl sa sb] 170) := ⟨_, rfl⟩
  have hb0 : Below w.heap.size w w0 := by rw [hw0]; exact (Below.refl _ _).alloc (Nat.le_refl _) _
  have hz0 : w0.heap.size = w.heap.size + 1 := by rw [hw0]; simp
  have b0 : w0.cell? ⟨w.heap.size, 0, none⟩ = some (.func (.func 177) #[] #[.pointer (some ⟨p, 0, none⟩)]) := by rw [hw0, cell_of_row _ _ 0 _ _ _ (heap_alloc_new w _)]; rfl
  have b1 : w0.cell? ⟨w.heap.size, 1, none⟩ = some (.func sl sa sb) := by rw [hw0, cell_of_row _ _ 1 _ _ _ (heap_alloc_new w _)]; rfl
  have HI := Lib.hid (insAsc p g off c l sl sa sb w0 (by omega) hasc (by omega) ((hb0.cell (p := ⟨p, 0, none⟩) hpw).trans hp) (hc.below hb0))
  have HB0 := Lib.hid hb0
  have HW0 := Lib.hid hw0
  have i1 : (l.length : Int) ≤ 12 := by omega
  have s1 : IntKind.i64.wrap (l.length : Int) = (l.length : Int) := IntWalk.i64_in _ (by omega)
  clear hc hp hasc hb0 hw0
  go_enter Tryz.func192, Tryz.ntmps192
  go_wp2
  rw [← HW0.out]
  refine wp_loop_rounds 1 ?_
  rw [rounds_succ]
  go_wp2_with (go_at_call 208; refine HI.out.mono ?_; rintro e w' ⟨rfl, hb2⟩)
  (try simp only [Exit.inBlock, Exit.then])
  refine bodyPost_ret (results_none rfl _ _ _) rfl ?_
  exact ⟨rfl, HB0.out.trans (hb2.mono HB0.out.size)⟩
end Go.Proofs.YtajmdgcnnipdoaaGreatDoor

/- SortS: sort.Slice over at most twelve cells that ascend: they stay as they lie. -/
namespace Go.Proofs.YtajmdgcnnipdoaaGreatDoor
open Go.RowKit Go.Lib

theorem swapperK_cell (n : Nat) (ie : TypeInfo) (h1 : ie.hasPointers = false) (h2 : ie.bytes = 16) : swapperK n ie 25 = if n = 0 then 1 else if n = 1 then 2 else 9 := by
  unfold swapperK
  by_cases a : n = 0
  · simp [a]
  · by_cases b : n = 1
    · simp [b]
    · simp [a, b, h1, h2]
theorem swapper_there (k : Nat) (h : k = 1 ∨ k = 2 ∨ k = 9) : ∃ f, Tryz.prog.funcs.findIdx? (·.name == "internal/reflectlite" ++ ".Swapper$" ++ toString k) = some f := by
  rcases h with rfl | rfl | rfl
  · exact ⟨199, by kernel_rfl⟩
  · exact ⟨200, by kernel_rfl⟩
  · exact ⟨207, by kernel_rfl⟩

set_option maxRecDepth 100000 in
set_option maxHeartbeats 1600000 in
theorem sliceAsc (p g off c : Nat) (l : List Cl) (w : World) (hn : l.length ≤ 12) (hasc : AscG ltC l) (hpw : p < w.heap.size)
    (hp : w.cell? ⟨p, 0, none⟩ = some (.slice (some ⟨g, off, none⟩) l.length c)) (hc : CellsAt w (some ⟨g, off, none⟩) (cls l)) :
    Calls Tryz.prog 176 #[.iface 40 (.slice (some ⟨g, off, none⟩) l.length c), .func (.func 177) #[] #[.pointer (some ⟨p, 0, none⟩)]] w fun e w' => e = .returned (.tuple #[]) ∧ Below w.heap.size w w' := by
  obtain ⟨ie, hie, hpt, hby⟩ : ∃ ie, Tryz.prog.info? 91 = some ie ∧ ie.hasPointers = false ∧ ie.bytes = 16 := by
    have h : (Tryz.prog.info? 91).map (fun i => (i.hasPointers, i.bytes)) = some (false, 16) := by kernel_rfl
    cases q : Tryz.prog.info? 91 with
    | none => rw [q] at h; cases h
    | some i => rw [q] at h; simp at h; exact ⟨i, rfl, h.1, h.2⟩
  obtain ⟨i, hi, hd⟩ : ∃ i, Tryz.prog.info? 40 = some i ∧ i.desc = .slice 91 := by
    have h : (Tryz.prog.info? 40).map (fun i => i.desc) = some (.slice 91) := by kernel_rfl
    cases q : Tryz.prog.info? 40 with
    | none => rw [q] at h; cases h
    | some i => rw [q] at h; simp at h; exact ⟨i, rfl, h⟩
  obtain ⟨f, hf⟩ := swapper_there (swapperK l.length ie 25) (by rw [swapperK_cell _ _ hpt hby]; split; exact .inl rfl; split; exact .inr (.inl rfl); exact .inr (.inr rfl))
  have hbW : Below w.heap.size w (sliceWorld Tryz.prog Tryz.laysGg6_ren 40 (some ⟨g, off, none⟩) l.length c w) := ((Below.refl _ _).alloc (Nat.le_refl _) _).alloc (by simp) _
  have h1 := pdqAsc p g off c l (.func f) #[] (sliceBound Tryz.prog 91 ie 25 (some ⟨g, off, none⟩) l.length c) (Lib.bitLen l.length) (sliceWorld Tryz.prog Tryz.laysGg6_ren 40 (some ⟨g, off, none⟩) l.length c w)
    hn hasc (Nat.lt_of_lt_of_le hpw hbW.size) ((hbW.cell (p := ⟨p, 0, none⟩) hpw).trans hp) (hc.below hbW)
  exact Any.sort_Slice_of_pdq Tryz.laysGg6 40 91 i ie hi hd (by kernel_rfl) hie 25 (fun _ => by kernel_rfl) (some ⟨g, off, none⟩) l.length c (by omega) f hf (.func 177) #[] #[.pointer (some ⟨p, 0, none⟩)] w
    (fun w' => Below w.heap.size w w') (h1.mono fun e w' ⟨h2, h3⟩ => ⟨h2, hbW.trans (h3.mono hbW.size)⟩)
end Go.Proofs.YtajmdgcnnipdoaaGreatDoor

/- SortD: the walk of the program's SortCells over cells that ascend. -/
namespace Go.Proofs.YtajmdgcnnipdoaaGreatDoor
open Go.RowKit

theorem cellEq (ax ay bx by' : Int) (w : World) : Sem.run Tryz.prog (Op.equalIn 10000 91 (.agg #[.int .i64 ax, .int .i64 ay]) (.agg #[.int .i64 bx, .int .i64 by'])) w = .ok (ax == bx && ay == by') w := by
  have u3 := Tryz.underlying3
  have a3 := Tryz.isAgg3
  have z3 := Tryz.sizeOf3
  have hS : Tryz.prog.underlying 91 = some (.struct (Tryz.prog.fieldsOf 91)) := by kernel_rfl
  have hp : Tryz.prog.stoodInHeld 91 = false := by kernel_rfl
  rw [show (10000 : Nat) = 9999 + 1 from rfl, run_equalIn_agg w 9999 91 _ _ hS hp]
  simp only [Program.fieldsOf, Tryz.underlying91]
  go_simp
  by_cases h1 : ax = bx <;> by_cases h2 : ay = by' <;> simp [h1, h2]
theorem cellNe {a b : Cl} (h : ltC a b = true) (w : World) : Sem.run Tryz.prog (Op.equalIn 10000 91 (.agg #[.int .i64 a.x, .int .i64 a.y]) (.agg #[.int .i64 b.x, .int .i64 b.y])) w = .ok false w := by
  rw [cellEq]
  rw [ltC_iff] at h
  cases q : (a.x == b.x && a.y == b.y) with
  | false => rfl
  | true => simp at q; omega
theorem cls_take_succ (l : List Cl) (k : Nat) (hk : k < l.length) : cls (l.take (k + 1)) = cls (l.take k) ++ [.int .i64 l[k].x, .int .i64 l[k].y] := by
  rw [List.take_succ_eq_append_getElem hk, cls_append]
  rfl

set_option maxRecDepth 100000 in
set_option maxHeartbeats 3200000 in
theorem implSortAsc (ad : Option Addr) (c : Nat) (l : List Cl) (w : World) (hn : l.length ≤ 12) (h0 : 0 < l.length) (hasc : AscG ltC l) (hnil : ad = none → c = 0) (hc : CellsAt w ad (cls l)) :
    Calls Tryz.prog 170 #[.slice ad l.length c] w fun e w' => ∃ ad' c', e = .returned (.slice ad' l.length c') ∧ w'.ownsRow w.heap.size 91 2 (.slice ad' l.length c') l.length (cls l) ∧ Below w.heap.size w w' := by
  have hcl := cls_length l
  have HC := Lib.hid hc
  have HN := Lib.hid hnil
  have HASC := Lib.hid hasc
  clear hc hnil hasc
  go_enter Tryz.func170, Tryz.ntmps170
  go_upto_region 2 with (at_builtin; refine wpList_appN rfl (.const (.slice none 0 0)) (.tmp 7) 40 rfl w.heap.size 91 _ 2 16 Tryz.elemCl _ 0 [] rfl (World.ownsRow_nil _ _ _ _) ad l.length c (cls l) rfl HN.out (by omega) HC.out (cls_one l) (by unfold maxLen; omega) (by omega) (Nat.le_refl _) ?_; intro a1 c1 w1 q1 q2 q3; simp only [Nat.zero_add, List.nil_append] at q1; clear q3)
  have HQ1 := Lib.hid q1
  have HQ2 := Lib.hid q2
  have hsz1 := q2.size
  obtain ⟨g, off, rfl, hg, hcc⟩ := cl_open (ownsRow_cellsAt q1) h0
  have hbW : Below w1.heap.size w1 (w1.alloc (.cells #[.slice (some ⟨g, off, none⟩) l.length c1] 40)) := (Below.refl _ _).alloc (Nat.le_refl _) _
  have hzW : (w1.alloc (.cells #[.slice (some ⟨g, off, none⟩) l.length c1] 40)).heap.size = w1.heap.size + 1 := by simp
  have hp2 := cell_of_one (heap_alloc_new w1 (.cells #[.slice (some ⟨g, off, none⟩) l.length c1] 40))
  generalize w1.alloc (.cells #[.slice (some ⟨g, off, none⟩) l.length c1] 40) = w2 at hbW hzW hp2 ⊢
  have hc2 := (ownsRow_cellsAt q1).below hbW
  have HS := Lib.hid (sliceAsc w1.heap.size g off c1 l w2 hn HASC.out (by omega) hp2 hc2)
  have HBW := Lib.hid hbW
  have HP2 := Lib.hid hp2
  have HC2 := Lib.hid hc2
  have hg2 : g < w2.heap.size := by omega
  clear q1 q2 hcc hc2
  go_wp2_with (go_at_call 176; refine HS.out.mono ?_; rintro e w3 ⟨rfl, hb3⟩; have hy3 := (hb3.cell (p := ⟨w1.heap.size, 0, none⟩) (by simp; omega)).trans HP2.out)
  have HB3 := Lib.hid hb3
  have hsz3 := hb3.size
  have HP3 := Lib.hid hy3
  have HC3 := Lib.hid (HC2.out.below hb3)
  clear hb3 hp2 hbW hy3
  go_loopw [4, 15] (fun s i wr => ∃ k : Nat, k ≤ l.length ∧ i = .int .i64 k ∧ wr.ownsRow w3.heap.size 91 2 s k (cls (l.take k)) ∧ Below w3.heap.size w3 wr) (fun _ i _ => l.length - (intOf i).toNat)
  case atStart => exact ⟨0, by omega, rfl, World.ownsRow_nil _ _ _ _, Below.refl _ _⟩
  case round =>
    obtain ⟨k, hk, rfl, hown, hb⟩ := hrel
    have hszr := hb.size
    have HW := Lib.hid hown
    have HB := Lib.hid hb
    clear hown hb
    by_cases hlt : k < l.length
    · obtain ⟨g', off', he, hg', hcc⟩ := cl_open HC3.out h0
      cases he
      obtain ⟨v0, v1⟩ := hcc k hlt
      have x0 := (HB.out.cell (p := ⟨g, off + k * 2, none⟩) (by simp; omega)).trans v0
      have x1 := (HB.out.cell (p := ⟨g, off + k * 2 + 1, none⟩) (by simp; omega)).trans v1
      have y0 := (HB.out.cell (p := ⟨w1.heap.size, 0, none⟩) (by simp; omega)).trans HP3.out
      have HST := Lib.hid (cls_take_succ l k hlt)
      have i1 : (k : Int) < (l.length : Int) := by omega
      have HCC := Lib.hid hcc
      clear v0 v1 hcc
      by_cases hk0 : k = 0
      · have b0 : ((k : Int) == 0) = true := by simp [hk0]
        clear hk0
        generalize l[k] = d at x0 x1 HST
        obtain ⟨dx, dy⟩ := d
        simp only at x0 x1 HST
        have hbB : Below wr.heap.size wr (wr.alloc (.cells #[.int .i64 dx, .int .i64 dy] 91)) := (Below.refl _ _).alloc (Nat.le_refl _) _
        have hzB : (wr.alloc (.cells #[.int .i64 dx, .int .i64 dy] 91)).heap.size = wr.heap.size + 1 := by simp
        have hbox := cl_box (heap_alloc_new wr (.cells #[.int .i64 dx, .int .i64 dy] 91))
        have HBB := Lib.hid hbB
        have HZB := Lib.hid hzB
        have HBOX := Lib.hid hbox
        clear hbB hzB hbox
        go_upto_region 7 with (fail)
        generalize wr.alloc (.cells #[.int .i64 dx, .int .i64 dy] 91) = wb at HBB HZB HBOX ⊢
        obtain ⟨z0, z1⟩ := HBOX.out
        go_big_quiet (fail)
        have hzb := HZB.out
        have HFAR := Lib.hid (ownsRow_far_below HW.out HBB.out (Nat.le_refl _))
        go_wp2_with (at_builtin; refine wpList_app1 rfl (.tmp 31) (.tmp 33) 40 rfl w3.heap.size 91 _ 2 16 Tryz.elemCl _ k _ _ _ _ rfl rfl (by simpa using hzb) (ownsRow_drewN HFAR.out _) (by rfl) (by simp [Value.oneCell']) (by unfold maxLen; omega) (by omega) (by omega) ?_; intro g' cap w4 q1 q2 q3 q4 q5 q6)
        go_roundw
        case rel =>
          refine ⟨k + 1, by omega, by go_num, ?_, HB.out.trans ((below_drewN (HBB.out.mono hszr) _).trans q2)⟩
          rw [HST.out]
          exact q1
        case measure => simp [intOf]; omega
      · have b0 : ((k : Int) == 0) = false := by simp [hk0]
        obtain ⟨m, hm⟩ : ∃ m, m = k - 1 := ⟨_, rfl⟩
        have hml : m < l.length := by omega
        obtain ⟨v0, v1⟩ := HCC.out m hml
        have p0 := (HB.out.cell (p := ⟨g, off + m * 2, none⟩) (by simp; omega)).trans v0
        have p1 := (HB.out.cell (p := ⟨g, off + m * 2 + 1, none⟩) (by simp; omega)).trans v1
        have hq := cellNe (List.pairwise_iff_getElem.1 HASC.out m k hml hlt (by omega))
        have i2 : (k : Int) - 1 = (m : Int) := by omega
        have i3 : IntKind.i64.wrap (m : Int) = (m : Int) := IntWalk.i64_in _ (by omega)
        have i4 : (m : Int) < (l.length : Int) := by omega
        clear hk0 v0 v1 hm
        generalize l[k] = d at x0 x1 HST hq
        generalize l[m] = q at p0 p1 hq
        obtain ⟨dx, dy⟩ := d
        obtain ⟨px, py⟩ := q
        simp only at x0 x1 HST p0 p1 hq
        have hbB : Below wr.heap.size wr (wr.alloc (.cells #[.int .i64 dx, .int .i64 dy] 91)) := (Below.refl _ _).alloc (Nat.le_refl _) _
        have hzB : (wr.alloc (.cells #[.int .i64 dx, .int .i64 dy] 91)).heap.size = wr.heap.size + 1 := by simp
        have hbox := cl_box (heap_alloc_new wr (.cells #[.int .i64 dx, .int .i64 dy] 91))
        have HBB := Lib.hid hbB
        have HZB := Lib.hid hzB
        have HBOX := Lib.hid hbox
        clear hbB hzB hbox
        go_upto_region 7 with (fail)
        generalize wr.alloc (.cells #[.int .i64 dx, .int .i64 dy] 91) = wb at HBB HZB HBOX ⊢
        obtain ⟨z0, z1⟩ := HBOX.out
        have r0 := (HBB.out.cell (p := ⟨g, off + m * 2, none⟩) (by simp; omega)).trans p0
        have r1 := (HBB.out.cell (p := ⟨g, off + m * 2 + 1, none⟩) (by simp; omega)).trans p1
        have r2 := (HBB.out.cell (p := ⟨w1.heap.size, 0, none⟩) (by simp; omega)).trans y0
        go_big_quiet (fail)
        have hzb := HZB.out
        have HFAR := Lib.hid (ownsRow_far_below HW.out HBB.out (Nat.le_refl _))
        go_wp2_with (at_builtin; refine wpList_app1 rfl (.tmp 31) (.tmp 33) 40 rfl w3.heap.size 91 _ 2 16 Tryz.elemCl _ k _ _ _ _ rfl rfl (by simpa using hzb) (ownsRow_drewN HFAR.out _) (by rfl) (by simp [Value.oneCell']) (by unfold maxLen; omega) (by omega) (by omega) ?_; intro g' cap w4 q1 q2 q3 q4 q5 q6)
        go_roundw
        case rel =>
          refine ⟨k + 1, by omega, by go_num, ?_, HB.out.trans ((below_drewN (HBB.out.mono hszr) _).trans q2)⟩
          rw [HST.out]
          exact q1
        case measure => simp [intOf]; omega
    · obtain rfl : k = l.length := by omega
      go_wp2
      go_ret
      obtain ⟨ad', c', rfl, _⟩ := ownsRow_cells HW.out
      have h2 := HW.out
      rw [List.take_length] at h2
      exact ⟨ad', c', rfl, ownsRow_rebase h2 (by omega), HQ2.out.trans ((HBW.out.mono hsz1).trans ((HB3.out.mono (by omega)).trans (HB.out.mono (by omega))))⟩
end Go.Proofs.YtajmdgcnnipdoaaGreatDoor

/- SortG0: cells in an array while they are sorted: the array's swap in the row, the sort's result as a list; plain. -/
namespace Go.Proofs.YtajmdgcnnipdoaaGreatDoor
open Go.RowKit

def encC (c : Cl) : List Value := [.int .i64 c.x, .int .i64 c.y]
theorem encC_len (c : Cl) : (encC c).length = 2 := rfl
theorem encC_one (c : Cl) : ∀ v ∈ encC c, v.oneCell' = true := by
  intro v hv
  unfold encC at hv
  simp only [List.mem_cons, List.not_mem_nil, or_false] at hv
  rcases hv with rfl | rfl <;> rfl
theorem cls_cons (c : Cl) (l : List Cl) : cls (c :: l) = .int .i64 c.x :: .int .i64 c.y :: cls l := rfl
theorem cls_put (x y : Int) : ∀ (l : List Cl) (k : Nat), ((cls l).set (k * 2) (.int .i64 x)).set (k * 2 + 1) (.int .i64 y) = cls (l.set k ⟨x, y⟩)
  | [], k => by simp [cls]
  | c :: l, 0 => by rw [cls_cons]; rfl
  | c :: l, k + 1 => by
    rw [cls_cons, List.set_cons_succ, cls_cons, ← cls_put x y l k, show (k + 1) * 2 = k * 2 + 1 + 1 from by omega]
    rfl
theorem swp_toList (d : Array Cl) (i j : Nat) : (Go.Sort.swp d i j).toList = (d.toList.set i d[j]!).set j d[i]! := by
  unfold Go.Sort.swp
  rw [Array.toList_setIfInBounds, Array.toList_setIfInBounds]
theorem cls_swp (d : Array Cl) (i j : Nat) : (((((cls d.toList).set (i * 2) (.int .i64 d[j]!.x)).set (i * 2 + 1) (.int .i64 d[j]!.y)).set (j * 2) (.int .i64 d[i]!.x)).set (j * 2 + 1) (.int .i64 d[i]!.y)) = cls (Go.Sort.swp d i j).toList := by
  rw [cls_put, cls_put, swp_toList]
theorem cls_arr_length (d : Array Cl) : (cls d.toList).length = d.size * 2 := by rw [cls_length, Array.length_toList]
/-- The row's cells are the array's, flat. -/
theorem cls_flat (d : Array Cl) (t : Nat) (h : t < d.size * 2) : (cls d.toList)[t]? = some (Go.Sort.flatK encC 2 d)[t]! := by
  rw [Go.Sort.get_flatK encC 2 d t h]
  have hk : t / 2 < d.toList.length := by rw [Array.length_toList]; omega
  obtain ⟨h1, h2⟩ := cls_at d.toList (t / 2) hk
  have e : d.toList[t / 2] = d[t / 2]! := by
    rw [Array.getElem_toList, getElem!_pos d (t / 2) (by rw [Array.length_toList] at hk; exact hk)]
  rw [e] at h1 h2
  rcases Nat.mod_two_eq_zero_or_one t with q | q
  · rw [q, show t = t / 2 * 2 from by omega, h1, show t / 2 * 2 / 2 = t / 2 from by omega]; rfl
  · rw [q]
    have : t = t / 2 * 2 + 1 := by omega
    rw [this, h2, show (t / 2 * 2 + 1) / 2 = t / 2 from by omega]; rfl
theorem holdsK_of {w : World} {base g n c : Nat} {d : Array Cl} (hs : d.size = n) (h : w.ownsRow base 91 2 (.slice (some ⟨g, 0, none⟩) n c) n (cls d.toList)) : Go.Sort.HoldsK encC 2 w g 0 d := by
  intro t ht
  rw [Go.Sort.size_flatK] at ht
  refine ⟨?_, ?_⟩
  · rw [Nat.zero_add, h.cellAt t (by omega), cls_flat d t ht]
    rfl
  · rw [Nat.zero_add]
    exact h.frozenAt t
theorem swoC : Go.Sort.SWO ltC where
  irrefl a := wholeC.irr a
  trans a b c h1 h2 := wholeC.tr a b c h1 h2
  ntrans a b c h1 h2 := by
    cases q : ltC a c with
    | false => rfl
    | true =>
      rw [ltC_iff] at q
      have n1 : ¬ (a.y < b.y ∨ (a.y = b.y ∧ a.x < b.x)) := fun r => by rw [ltC_iff.2 r] at h1; cases h1
      have n2 : ¬ (b.y < c.y ∨ (b.y = c.y ∧ b.x < c.x)) := fun r => by rw [ltC_iff.2 r] at h2; cases h2
      omega
/-- What the sort leaves, as a list: the same cells, none ahead of a lesser one. -/
theorem sorted_list (l : List Cl) : ∃ s : List Cl, s = (Go.Sort.insertionSort ltC l.toArray 0 l.length).toList ∧ s.length = l.length ∧ (∀ x, x ∈ s ↔ x ∈ l) ∧ s.Pairwise (fun a b => ltC b a = false) := by
  obtain ⟨⟨h1, _, h2⟩, h3⟩ := Go.Sort.insertionSort_holds swoC l.toArray 0 l.length (Nat.zero_le _) (by simp)
  generalize Go.Sort.insertionSort ltC l.toArray 0 l.length = d at h1 h2 h3
  have hs : d.size = l.length := by rw [h1]; simp
  have e1 : (d.extract 0 l.length) = d := by rw [← hs]; exact Array.extract_size
  have e2 : (l.toArray.extract 0 l.length).toList = l := by simp
  rw [e1, e2] at h2
  refine ⟨d.toList, rfl, by rw [Array.length_toList, hs], fun x => h2.mem_iff, ?_⟩
  rw [List.pairwise_iff_getElem]
  intro i j hi hj hij
  rw [Array.length_toList] at hi hj
  have := h3 i j (Nat.zero_le _) hij (by omega)
  rw [getElem!_pos d i hi, getElem!_pos d j hj] at this
  exact this
theorem dedC_hit {l : List Cl} {i : Nat} (h : i = 0 ∨ l.getD (i - 1) default ≠ l.getD i default) : dedToG l (i + 1) = dedToG l i ++ [l.getD i default] := by
  rw [dedToG, if_pos h]
theorem dedC_miss {l : List Cl} {i : Nat} (h : ¬ (i = 0 ∨ l.getD (i - 1) default ≠ l.getD i default)) : dedToG l (i + 1) = dedToG l i := by
  rw [dedToG, if_neg h]
end Go.Proofs.YtajmdgcnnipdoaaGreatDoor

/- SortG: sort.insertionSort_func over cells in whatever order, the order being that of the program's SortCells. -/
namespace Go.Proofs.YtajmdgcnnipdoaaGreatDoor
open Go.RowKit

theorem lessArr (p g c i j n : Nat) (d : Array Cl) (w : World) (hs : d.size = n) (hn : n ≤ 1000) (hp : w.cell? ⟨p, 0, none⟩ = some (.slice (some ⟨g, 0, none⟩) n c)) (hc : CellsAt w (some ⟨g, 0, none⟩) (cls d.toList)) (hi : i < n) (hj : j < n) :
    Calls Tryz.prog 177 #[.int .i64 i, .int .i64 j, .pointer (some ⟨p, 0, none⟩)] w fun e w' => e = .returned (.bool (ltC d[i]! d[j]!)) ∧ Below w.heap.size w w' := by
  subst hs
  have h := lessCells p g 0 c i j d.toList w (by rw [Array.length_toList]; omega) (by rw [Array.length_toList]; exact hp) hc (by rw [Array.length_toList]; exact hi) (by rw [Array.length_toList]; exact hj)
  rw [Array.getElem_toList, Array.getElem_toList] at h
  rw [getElem!_pos d i hi, getElem!_pos d j hj]
  exact h
theorem setCells_two (w : World) (g o : Nat) (x y : Value) : w.setCells g o [x, y] = (w.setCell ⟨g, o, none⟩ x).setCell ⟨g, o + 1, none⟩ y := rfl
theorem swapped_row {w : World} {base g n c : Nat} {d : Array Cl} {i j : Nat} (h : w.ownsRow base 91 2 (.slice (some ⟨g, 0, none⟩) n c) n (cls d.toList)) :
    ((w.setCells g (i * 2) (encC d[j]!)).setCells g (j * 2) (encC d[i]!)).ownsRow base 91 2 (.slice (some ⟨g, 0, none⟩) n c) n (cls (Go.Sort.swp d i j).toList) ∧
      w.grownBy ((w.setCells g (i * 2) (encC d[j]!)).setCells g (j * 2) (encC d[i]!)) (some g) := by
  unfold encC
  rw [setCells_two, setCells_two]
  have h1 := h.stored (i * 2) (.int .i64 d[j]!.x)
  have h2 := h1.1.stored (i * 2 + 1) (.int .i64 d[j]!.y)
  have h3 := h2.1.stored (j * 2) (.int .i64 d[i]!.x)
  have h4 := h3.1.stored (j * 2 + 1) (.int .i64 d[i]!.y)
  have h5 := h4.1
  rw [cls_swp] at h5
  exact ⟨h5, grownBy_trans h1.2 (grownBy_trans h2.2 (grownBy_trans h3.2 h4.2))⟩
theorem grown_below {w w' : World} (h : Below w.heap.size w w') (row : Option Nat) : w.grownBy w' row := ⟨h.os, h.tape, h.output, h.size, fun k hk _ => h.block k hk⟩

set_option maxRecDepth 100000 in
set_option maxHeartbeats 3200000 in
theorem insG (base p g c sf : Nat) (sb : Array Value) (d : Array Cl) (w : World) (hn : d.size ≤ 1000) (hpw : p < w.heap.size) (hpg : g ≠ p)
    (hp : w.cell? ⟨p, 0, none⟩ = some (.slice (some ⟨g, 0, none⟩) d.size c))
    (ho : w.ownsRow base 91 2 (.slice (some ⟨g, 0, none⟩) d.size c) d.size (cls d.toList)) (hsw : SwapSwapsK Tryz.prog sf sb encC 2 g 0 d.size) :
    Calls Tryz.prog 208 #[.agg #[.func (.func 177) #[] #[.pointer (some ⟨p, 0, none⟩)], .func (.func sf) #[] sb], .int .i64 0, .int .i64 d.size] w fun e w' =>
      e = .returned (.tuple #[]) ∧ w'.ownsRow base 91 2 (.slice (some ⟨g, 0, none⟩) d.size c) d.size (cls (Go.Sort.insertionSort ltC d 0 d.size).toList) ∧ w.grownBy w' (some g) := by
  have hg1 := (ho.lt g rfl).2
  have HO := Lib.hid ho
  have HP := Lib.hid hp
  have HSW := Lib.hid hsw
  obtain ⟨w0, hw0⟩ : ∃ w0, w0 = w.alloc (.cells #[.func (.func 177) #[] #[.pointer (some ⟨p, 0, none⟩)], .func (.func sf) #[] sb] 170) := ⟨_, rfl⟩
  have hb0 : Below w.heap.size w w0 := by rw [hw0]; exact (Below.refl _ _).alloc (Nat.le_refl _) _
  have hz0 : w0.heap.size = w.heap.size + 1 := by rw [hw0]; simp
  have hbox : w0.cell? ⟨w.heap.size, 0, none⟩ = some (.func (.func 177) #[] #[.pointer (some ⟨p, 0, none⟩)]) := by rw [hw0, cell_of_row _ _ 0 _ _ _ (heap_alloc_new w _)]; rfl
  have hbox1 : w0.cell? ⟨w.heap.size, 1, none⟩ = some (.func (.func sf) #[] sb) := by rw [hw0, cell_of_row _ _ 1 _ _ _ (heap_alloc_new w _)]; rfl
  have HO0 := Lib.hid (ownsRow_far_below ho hb0 (Nat.le_refl _))
  have HP0 := Lib.hid ((hb0.cell (p := ⟨p, 0, none⟩) hpw).trans hp)
  have HB0 := Lib.hid hb0
  have HBOX := Lib.hid hbox
  have HBOX1 := Lib.hid hbox1
  have HW0 := Lib.hid hw0
  clear hp ho hsw hb0 hbox hbox1 hw0
  go_enter Tryz.func208, Tryz.ntmps208
  go_wp2
  rw [← HW0.out]
  go_loopw [6] (fun vi wr => ∃ (i : Nat) (dk : Array Cl), vi = .int .i64 i ∧ 0 < i ∧ i ≤ d.size + 1 ∧ dk.size = d.size ∧ wr.ownsRow base 91 2 (.slice (some ⟨g, 0, none⟩) d.size c) d.size (cls dk.toList) ∧ w0.grownBy wr (some g) ∧ Go.Sort.insOuter ltC 0 d.size i dk = Go.Sort.insOuter ltC 0 d.size 1 d) (fun vi _ => d.size + 1 - (intOf vi).toNat)
  case atStart => exact ⟨1, d, rfl, by omega, by omega, rfl, HO0.out, grownBy_refl _ _, rfl⟩
  case round =>
    obtain ⟨i, dk, rfl, hi0, hi1, hsk, hok, hgk, heq⟩ := hrel
    have HOK := Lib.hid hok
    have HGK := Lib.hid hgk
    have HEQ := Lib.hid heq
    clear hok hgk heq
    by_cases hlt : i < d.size
    · have i1 : (i : Int) < (d.size : Int) := by omega
      go_wp2
      go_loopw [7] (fun vj wr2 => ∃ (j : Nat) (dj : Array Cl), vj = .int .i64 j ∧ j ≤ i ∧ dj.size = d.size ∧ wr2.ownsRow base 91 2 (.slice (some ⟨g, 0, none⟩) d.size c) d.size (cls dj.toList) ∧ w0.grownBy wr2 (some g) ∧ Go.Sort.insInner ltC 0 j dj = Go.Sort.insInner ltC 0 i dk) (fun vj _ => (intOf vj).toNat)
      case atStart => exact ⟨i, dk, rfl, Nat.le_refl _, hsk, HOK.out, HGK.out, rfl⟩
      case round =>
        obtain ⟨j, dj, rfl, hji, hsj, hoj, hgj, hin⟩ := hrel
        have hszj := hgj.size
        have HOJ := Lib.hid hoj
        have HGJ := Lib.hid hgj
        have HIN := Lib.hid hin
        clear hoj hgj hin
        by_cases hj0 : 0 < j
        · obtain ⟨m, hm⟩ : ∃ m, m = j - 1 := ⟨_, rfl⟩
          have b1 := HGJ.out.cell HBOX.out (by simp; omega)
          have b2 := HGJ.out.cell HBOX1.out (by simp; omega)
          have hpp := HGJ.out.cell HP0.out (by simp; omega)
          have hl := lessArr p g c j m d.size dj wr hsj hn hpp (ownsRow_cellsAt HOJ.out) (by omega) (by omega)
          have hgo : ltC dj[j]! dj[m]! = true → Go.Sort.insInner ltC 0 j dj = Go.Sort.insInner ltC 0 m (Go.Sort.swp dj j m) := fun q => by
            rw [hm] at q ⊢
            exact Go.Proofs.insInner_go ltC 0 j dj hj0 q
          have hst : ltC dj[j]! dj[m]! = false → Go.Sort.insInner ltC 0 j dj = dj := fun q => by
            rw [hm] at q
            exact Go.Proofs.insInner_stop ltC 0 j dj (.inr q)
          have d1 : decide ((0 : Int) < (j : Int)) = true := by simp; omega
          have d2 : decide (0 < j) = true := by simp; omega
          have i2 : (j : Int) - 1 = (m : Int) := by omega
          have i3 : IntKind.i64.wrap (m : Int) = (m : Int) := IntWalk.i64_in _ (by omega)
          have hjm : m < j := by omega
          have hcf := callFunc_less
          have hswp := HSW.out
          have HGO := Lib.hid hgo
          have HST := Lib.hid hst
          clear hm hgo hst hpp
          cases hlv : ltC dj[j]! dj[m]! with
          | true =>
            rw [hlv] at hl
            have HL := Lib.hid hl
            have HSWP := Lib.hid (fun W (h : Go.Sort.HoldsK encC 2 W g 0 dj) => hswp W dj h hsj j m (by omega) (by omega))
            clear hl hswp
            go_wp2_with (go_at_call 177; refine HL.out.mono ?_; rintro e w' ⟨rfl, hb2⟩; have hoj2 := ownsRow_far_below HOJ.out hb2 (Nat.le_refl _); have b3 := (hb2.cell (p := ⟨w.heap.size, 1, none⟩) (by simp; omega)).trans b2)
            have hs := HSWP.out w' (holdsK_of hsj hoj2)
            rw [hs, Oper.upon_value]
            go_wp2
            go_roundw
            case rel =>
              obtain ⟨q1, q2⟩ := swapped_row (i := j) (j := m) hoj2
              exact ⟨m, Go.Sort.swp dj j m, by go_num, by omega, by rw [Go.Sort.size_swp]; exact hsj, q1, grownBy_trans HGJ.out (grownBy_trans (grown_below hb2 _) q2), by rw [← HIN.out, HGO.out hlv]⟩
            case measure => simp [intOf]; omega
          | false =>
            rw [hlv] at hl
            have HL := Lib.hid hl
            clear hl hswp
            go_wp2_with (go_at_call 177; refine HL.out.mono ?_; rintro e w' ⟨rfl, hb2⟩)
            go_roundw
            case rel => exact ⟨i + 1, dj, by go_num, by omega, by omega, hsj, ownsRow_far_below HOJ.out hb2 (Nat.le_refl _), grownBy_trans HGJ.out (grown_below hb2 _), by rw [← HEQ.out, Go.Proofs.insOuter_go ltC 0 d.size i dk hlt, ← HIN.out, HST.out hlv]⟩
            case measure => simp [intOf]; omega
        · have d1 : decide ((0 : Int) < (j : Int)) = false := by simp; omega
          have d2 : decide (0 < j) = false := by simp; omega
          have hst : Go.Sort.insInner ltC 0 j dj = dj := Go.Proofs.insInner_stop ltC 0 j dj (.inl (by omega))
          have HST := Lib.hid hst
          clear hst
          go_wp2
          go_roundw
          case rel => exact ⟨i + 1, dj, by go_num, by omega, by omega, hsj, HOJ.out, HGJ.out, by rw [← HEQ.out, Go.Proofs.insOuter_go ltC 0 d.size i dk hlt, ← HIN.out, HST.out]⟩
          case measure => simp [intOf]; omega
    · have i1 : ¬ (i : Int) < (d.size : Int) := by omega
      have hfin : Go.Sort.insertionSort ltC d 0 d.size = dk := by
        unfold Go.Sort.insertionSort
        rw [← HEQ.out, Go.Proofs.insOuter_stop ltC 0 d.size i dk hlt]
      have HFIN := Lib.hid hfin
      clear hfin
      go_wp2
      go_end0
      rw [HFIN.out]
      exact ⟨rfl, HOK.out, grownBy_trans (grown_below HB0.out _) HGK.out⟩
end Go.Proofs.YtajmdgcnnipdoaaGreatDoor

/- SortH: pdqsort_func and sort.Slice over at most twelve cells in whatever order. -/
namespace Go.Proofs.YtajmdgcnnipdoaaGreatDoor
open Go.RowKit Go.Lib

set_option maxRecDepth 100000 in
set_option maxHeartbeats 3200000 in
theorem pdqG (base p g c sf : Nat) (sb : Array Value) (lim : Int) (d : Array Cl) (w : World) (hn : d.size ≤ 12) (hpw : p < w.heap.size) (hpg : g ≠ p)
    (hp : w.cell? ⟨p, 0, none⟩ = some (.slice (some ⟨g, 0, none⟩) d.size c))
    (ho : w.ownsRow base 91 2 (.slice (some ⟨g, 0, none⟩) d.size c) d.size (cls d.toList)) (hsw : SwapSwapsK Tryz.prog sf sb encC 2 g 0 d.size) :
    Calls Tryz.prog 192 #[.agg #[.func (.func 177) #[] #[.pointer (some ⟨p, 0, none⟩)], .func (.func sf) #[] sb], .int .i64 0, .int .i64 d.size, .int .i64 lim] w fun e w' =>
      e = .returned (.tuple #[]) ∧ w'.ownsRow base 91 2 (.slice (some ⟨g, 0, none⟩) d.size c) d.size (cls (Go.Sort.insertionSort ltC d 0 d.size).toList) ∧ w.grownBy w' (some g) := by
  obtain ⟨w0, hw0⟩ : ∃ w0, w0 = w.alloc (.cells #[.func (.func 177) #[] #[.pointer (some ⟨p, 0, none⟩)], .func (.func sf) #[] sb] 170) := ⟨_, rfl⟩
  have hb0 : Below w.heap.size w w0 := by rw [hw0]; exact (Below.refl _ _).alloc (Nat.le_refl _) _
  have hz0 : w0.heap.size = w.heap.size + 1 := by rw [hw0]; simp
  have b0 : w0.cell? ⟨w.heap.size, 0, none⟩ = some (.func (.func 177) #[] #[.pointer (some ⟨p, 0, none⟩)]) := by rw [hw0, cell_of_row _ _ 0 _ _ _ (heap_alloc_new w _)]; rfl
  have b1 : w0.cell? ⟨w.heap.size, 1, none⟩ = some (.func (.func sf) #[] sb) := by rw [hw0, cell_of_row _ _ 1 _ _ _ (heap_alloc_new w _)]; rfl
  have HI := Lib.hid (insG base p g c sf sb d w0 (by omega) (by omega) hpg ((hb0.cell (p := ⟨p, 0, none⟩) hpw).trans hp) (ownsRow_far_below ho hb0 (Nat.le_refl _)) hsw)
  have HB0 := Lib.hid hb0
  have HW0 := Lib.hid hw0
  have i1 : (d.size : Int) ≤ 12 := by omega
  have s1 : IntKind.i64.wrap (d.size : Int) = (d.size : Int) := IntWalk.i64_in _ (by omega)
  clear hp ho hsw hb0 hw0
  go_enter Tryz.func192, Tryz.ntmps192
  go_wp2
  rw [← HW0.out]
  refine wp_loop_rounds 1 ?_
  rw [rounds_succ]
  go_wp2_with (go_at_call 208; refine HI.out.mono ?_; rintro e w' ⟨rfl, ho2, hg2⟩)
  (try simp only [Exit.inBlock, Exit.then])
  refine bodyPost_ret (results_none rfl _ _ _) rfl ?_
  exact ⟨rfl, ho2, grownBy_trans (grown_below HB0.out _) hg2⟩

set_option maxRecDepth 100000 in
set_option maxHeartbeats 1600000 in
theorem sliceG (base p g c : Nat) (l : List Cl) (w : World) (h2 : 2 ≤ l.length) (hn : l.length ≤ 12) (hpw : p < w.heap.size) (hpg : g ≠ p)
    (hp : w.cell? ⟨p, 0, none⟩ = some (.slice (some ⟨g, 0, none⟩) l.length c)) (ho : w.ownsRow base 91 2 (.slice (some ⟨g, 0, none⟩) l.length c) l.length (cls l)) :
    Calls Tryz.prog 176 #[.iface 40 (.slice (some ⟨g, 0, none⟩) l.length c), .func (.func 177) #[] #[.pointer (some ⟨p, 0, none⟩)]] w fun e w' => e = .returned (.tuple #[]) ∧
      ∃ s : List Cl, s.length = l.length ∧ (∀ x, x ∈ s ↔ x ∈ l) ∧ s.Pairwise (fun a b => ltC b a = false) ∧ w'.ownsRow base 91 2 (.slice (some ⟨g, 0, none⟩) l.length c) l.length (cls s) ∧ w.grownBy w' (some g) := by
  obtain ⟨ie, hie, hpt, hby, hsz⟩ : ∃ ie, Tryz.prog.info? 91 = some ie ∧ ie.hasPointers = false ∧ ie.bytes = 16 ∧ ie.size = 2 := by
    have h : (Tryz.prog.info? 91).map (fun i => (i.hasPointers, i.bytes, i.size)) = some (false, 16, 2) := by kernel_rfl
    cases q : Tryz.prog.info? 91 with
    | none => rw [q] at h; cases h
    | some i => rw [q] at h; simp at h; exact ⟨i, rfl, h.1, h.2.1, h.2.2⟩
  obtain ⟨i, hi, hd⟩ : ∃ i, Tryz.prog.info? 40 = some i ∧ i.desc = .slice 91 := by
    have h : (Tryz.prog.info? 40).map (fun i => i.desc) = some (.slice 91) := by kernel_rfl
    cases q : Tryz.prog.info? 40 with
    | none => rw [q] at h; cases h
    | some i => rw [q] at h; simp at h; exact ⟨i, rfl, h⟩
  have hf : Tryz.prog.funcs.findIdx? (·.name == "internal/reflectlite" ++ ".Swapper$" ++ toString (swapperK l.length ie 25)) = some 207 := by
    rw [swapperK_cell _ _ hpt hby, if_neg (by omega), if_neg (by omega)]
    kernel_rfl
  have hx : ∀ args W, (callFunc 207 args).run Tryz.prog W = ((Extern.ReflectliteSwapper.swap false args).run Tryz.prog W).andThen fun v w' => .ok (.value v) w' := fun args W => run_callFunc_extern Tryz.func207 (by kernel_rfl) (by kernel_rfl) (by kernel_rfl) (e := Extern.ReflectliteSwapper.swap false) (by kernel_rfl) args W
  have hag : ∀ w, (isAgg 91).run Tryz.prog w = .ok true w := Tryz.isAgg91
  have hsw := swapSwapsK_of_literal false 207 hx 91 ie hie encC 2 encC_len hsz hag encC_one g 0 l.length c
  have hbW : Below w.heap.size w (sliceWorld Tryz.prog Tryz.laysGg6_ren 40 (some ⟨g, 0, none⟩) l.length c w) := ((Below.refl _ _).alloc (Nat.le_refl _) _).alloc (by simp) _
  have hB : sliceBound Tryz.prog 91 ie 25 (some ⟨g, 0, none⟩) l.length c = #[.slice (some ⟨g, 0, none⟩) l.length c, typeHandle Tryz.prog 91] := by
    unfold sliceBound; rw [if_neg (swapperK_gt _ _ _ h2)]
  have hsz' : l.toArray.size = l.length := by simp
  have h1 := pdqG base p g c 207 #[.slice (some ⟨g, 0, none⟩) l.length c, typeHandle Tryz.prog 91] (Lib.bitLen l.length) l.toArray (sliceWorld Tryz.prog Tryz.laysGg6_ren 40 (some ⟨g, 0, none⟩) l.length c w)
    (by rw [hsz']; exact hn) (Nat.lt_of_lt_of_le hpw hbW.size) hpg (by rw [hsz']; exact (hbW.cell (p := ⟨p, 0, none⟩) hpw).trans hp) (by rw [hsz']; exact ownsRow_far_below ho hbW (Nat.le_refl _)) (by rw [hsz']; exact hsw)
  rw [hsz'] at h1
  obtain ⟨s, hs, e1, e2, e3⟩ := sorted_list l
  rw [← hs] at h1
  refine Any.sort_Slice_of_pdq Tryz.laysGg6 40 91 i ie hi hd (by kernel_rfl) hie 25 (fun _ => by kernel_rfl) (some ⟨g, 0, none⟩) l.length c (by omega) 207 hf (.func 177) #[] #[.pointer (some ⟨p, 0, none⟩)] w
    (fun w' => ∃ s : List Cl, s.length = l.length ∧ (∀ x, x ∈ s ↔ x ∈ l) ∧ s.Pairwise (fun a b => ltC b a = false) ∧ w'.ownsRow base 91 2 (.slice (some ⟨g, 0, none⟩) l.length c) l.length (cls s) ∧ w.grownBy w' (some g)) ?_
  rw [hB]
  exact h1.mono fun e w' ⟨q1, q2, q3⟩ => ⟨q1, s, e1, e2, e3, q2, grownBy_trans (grown_below hbW _) q3⟩
end Go.Proofs.YtajmdgcnnipdoaaGreatDoor

/- SortI: the walk of the program's SortCells over at most twelve cells in whatever order. -/
namespace Go.Proofs.YtajmdgcnnipdoaaGreatDoor
open Go.RowKit

theorem row_at {w : World} {base e size n c : Nat} {ad : Option Addr} {xs : List Value} (h : w.ownsRow base e size (.slice ad n c) n xs) (hn : 0 < n) : ∃ g, ad = some ⟨g, 0, none⟩ := by
  rcases h.2 with ⟨h1, h2⟩ | ⟨g, c', cur, h1, _⟩
  · cases h1; omega
  · cases h1; exact ⟨g, rfl⟩

set_option maxRecDepth 100000 in
set_option maxHeartbeats 3200000 in
theorem implSortB (ad : Option Addr) (c : Nat) (l : List Cl) (w : World) (hn : l.length ≤ 12) (h2 : 2 ≤ l.length) (hnil : ad = none → c = 0) (hc : CellsAt w ad (cls l)) :
    Calls Tryz.prog 170 #[.slice ad l.length c] w fun e w' => ∃ ad' c', e = .returned (.slice ad' (putAllG ltC l).length c') ∧ w'.ownsRow w.heap.size 91 2 (.slice ad' (putAllG ltC l).length c') (putAllG ltC l).length (cls (putAllG ltC l)) ∧ Below w.heap.size w w' := by
  have hcl := cls_length l
  have HC := Lib.hid hc
  have HN := Lib.hid hnil
  clear hc hnil
  go_enter Tryz.func170, Tryz.ntmps170
  go_upto_region 2 with (at_builtin; refine wpList_appN rfl (.const (.slice none 0 0)) (.tmp 7) 40 rfl w.heap.size 91 _ 2 16 Tryz.elemCl _ 0 [] rfl (World.ownsRow_nil _ _ _ _) ad l.length c (cls l) rfl HN.out (by omega) HC.out (cls_one l) (by unfold maxLen; omega) (by omega) (Nat.le_refl _) ?_; intro a1 c1 w1 q1 q2 q3; simp only [Nat.zero_add, List.nil_append] at q1; clear q3)
  have HQ2 := Lib.hid q2
  have hsz1 := q2.size
  obtain ⟨g, rfl⟩ := row_at q1 (by omega)
  have hg := (q1.lt g rfl).2
  have hbW : Below w1.heap.size w1 (w1.alloc (.cells #[.slice (some ⟨g, 0, none⟩) l.length c1] 40)) := (Below.refl _ _).alloc (Nat.le_refl _) _
  have hzW : (w1.alloc (.cells #[.slice (some ⟨g, 0, none⟩) l.length c1] 40)).heap.size = w1.heap.size + 1 := by simp
  have hp2 := cell_of_one (heap_alloc_new w1 (.cells #[.slice (some ⟨g, 0, none⟩) l.length c1] 40))
  generalize w1.alloc (.cells #[.slice (some ⟨g, 0, none⟩) l.length c1] 40) = w2 at hbW hzW hp2 ⊢
  have ho2 := ownsRow_far_below q1 hbW (Nat.le_refl _)
  have hgn := (q1.lt g rfl).1
  have HS := Lib.hid (sliceG w.heap.size w1.heap.size g c1 l w2 h2 hn (by omega) (by omega) hp2 ho2)
  have HBW := Lib.hid hbW
  have HP2 := Lib.hid hp2
  have hg2 : g < w2.heap.size := by omega
  clear q1 q2 ho2
  go_wp2_with (go_at_call 176; refine HS.out.mono ?_; rintro e w3 ⟨rfl, s, hsl, hmem, hpw, ho3, hg3⟩; have hy3 := hg3.cell HP2.out (by simp; omega))
  have hb3 : Below w.heap.size w w3 := (HQ2.out.trans (HBW.out.mono hsz1)).grown hg3 (by omega) (fun q hq => by cases hq; exact hgn)
  have HB3 := Lib.hid hb3
  have hsz3 := hg3.size
  have HP3 := Lib.hid hy3
  have hc3 := ownsRow_cellsAt ho3
  have hsl' : s.length ≤ l.length := by omega
  have hls' : l.length ≤ s.length := by omega
  have HDED := Lib.hid (ded_eq wholeC hpw hmem)
  have HSL := Lib.hid hsl
  have HC3 := Lib.hid hc3
  clear hp2 hbW hy3 hmem hpw ho3 hg3 hc3 hsl hb3
  go_loopw [4, 15] (fun sl i wr => ∃ k : Nat, k ≤ l.length ∧ i = .int .i64 k ∧ wr.ownsRow w3.heap.size 91 2 sl (dedToG s k).length (cls (dedToG s k)) ∧ Below w3.heap.size w3 wr) (fun _ i _ => l.length - (intOf i).toNat)
  case atStart => exact ⟨0, by omega, rfl, World.ownsRow_nil _ _ _ _, Below.refl _ _⟩
  case round =>
    obtain ⟨k, hk, rfl, hown, hb⟩ := hrel
    have hszr := hb.size
    have HW := Lib.hid hown
    have HB := Lib.hid hb
    clear hown hb
    have hdl := dedToG_le s k
    by_cases hlt : k < l.length
    · have hls : k < s.length := by omega
      obtain ⟨g', off', he, hg', hcc⟩ := cl_open HC3.out (by omega)
      cases he
      obtain ⟨v0, v1⟩ := hcc k hls
      rw [Nat.zero_add] at v0 v1
      have x0 := (HB.out.cell (p := ⟨g, k * 2, none⟩) (by simp; omega)).trans v0
      have x1 := (HB.out.cell (p := ⟨g, k * 2 + 1, none⟩) (by simp; omega)).trans v1
      have y0 := (HB.out.cell (p := ⟨w1.heap.size, 0, none⟩) (by simp; omega)).trans HP3.out
      have hhit := dedC_hit (l := s) (i := k)
      have hmiss := dedC_miss (l := s) (i := k)
      rw [getDG hls] at hhit hmiss
      have i1 : (k : Int) < (l.length : Int) := by omega
      have HCC := Lib.hid hcc
      clear v0 v1 hcc
      by_cases hk0 : k = 0
      · have b0 : ((k : Int) == 0) = true := by simp [hk0]
        have HST := Lib.hid (hhit (.inl hk0))
        clear hk0 hhit hmiss
        generalize s[k] = d at x0 x1 HST
        obtain ⟨dx, dy⟩ := d
        simp only at x0 x1 HST
        have hbB : Below wr.heap.size wr (wr.alloc (.cells #[.int .i64 dx, .int .i64 dy] 91)) := (Below.refl _ _).alloc (Nat.le_refl _) _
        have hzB : (wr.alloc (.cells #[.int .i64 dx, .int .i64 dy] 91)).heap.size = wr.heap.size + 1 := by simp
        have hbox := cl_box (heap_alloc_new wr (.cells #[.int .i64 dx, .int .i64 dy] 91))
        have HBB := Lib.hid hbB
        have HZB := Lib.hid hzB
        have HBOX := Lib.hid hbox
        clear hbB hzB hbox
        go_upto_region 7 with (fail)
        generalize wr.alloc (.cells #[.int .i64 dx, .int .i64 dy] 91) = wb at HBB HZB HBOX ⊢
        obtain ⟨z0, z1⟩ := HBOX.out
        go_big_quiet (fail)
        have hzb := HZB.out
        have HFAR := Lib.hid (ownsRow_far_below HW.out HBB.out (Nat.le_refl _))
        go_wp2_with (at_builtin; refine wpList_app1 rfl (.tmp 31) (.tmp 33) 40 rfl w3.heap.size 91 _ 2 16 Tryz.elemCl _ (dedToG s k).length _ _ _ _ rfl rfl (by simpa using hzb) (ownsRow_drewN HFAR.out _) (by rfl) (by simp [Value.oneCell']) (by unfold maxLen; omega) (by omega) (by omega) ?_; intro g' cap w4 q1 q2 q3 q4 q5 q6)
        go_roundw
        case rel =>
          refine ⟨k + 1, by omega, by go_num, ?_, HB.out.trans ((below_drewN (HBB.out.mono hszr) _).trans q2)⟩
          rw [HST.out, List.length_append, cls_append]
          exact q1
        case measure => simp [intOf]; omega
      · have b0 : ((k : Int) == 0) = false := by simp [hk0]
        obtain ⟨m, hm⟩ : ∃ m, m = k - 1 := ⟨_, rfl⟩
        have hml : m < s.length := by omega
        rw [← hm, getDG hml] at hhit hmiss
        obtain ⟨v0, v1⟩ := HCC.out m hml
        rw [Nat.zero_add] at v0 v1
        have p0 := (HB.out.cell (p := ⟨g, m * 2, none⟩) (by simp; omega)).trans v0
        have p1 := (HB.out.cell (p := ⟨g, m * 2 + 1, none⟩) (by simp; omega)).trans v1
        have i2 : (k : Int) - 1 = (m : Int) := by omega
        have i3 : IntKind.i64.wrap (m : Int) = (m : Int) := IntWalk.i64_in _ (by omega)
        have i4 : (m : Int) < (l.length : Int) := by omega
        clear v0 v1 hm
        generalize s[k] = d at x0 x1 hhit hmiss
        generalize s[m] = q at p0 p1 hhit hmiss
        by_cases hqd : q = d
        · have hq := cellEq q.x q.y d.x d.y
          have hqt : (q.x == d.x && q.y == d.y) = true := by rw [hqd]; simp
          rw [hqt] at hq
          have HST := Lib.hid (hmiss (by rintro (r | r); exact hk0 r; exact r hqd))
          clear hk0 hhit hmiss hqd hqt
          obtain ⟨dx, dy⟩ := d
          obtain ⟨px, py⟩ := q
          simp only at x0 x1 HST p0 p1 hq
          have hbB : Below wr.heap.size wr (wr.alloc (.cells #[.int .i64 dx, .int .i64 dy] 91)) := (Below.refl _ _).alloc (Nat.le_refl _) _
          have hzB : (wr.alloc (.cells #[.int .i64 dx, .int .i64 dy] 91)).heap.size = wr.heap.size + 1 := by simp
          have hbox := cl_box (heap_alloc_new wr (.cells #[.int .i64 dx, .int .i64 dy] 91))
          have HBB := Lib.hid hbB
          have HZB := Lib.hid hzB
          have HBOX := Lib.hid hbox
          clear hbB hzB hbox
          go_upto_region 7 with (fail)
          generalize wr.alloc (.cells #[.int .i64 dx, .int .i64 dy] 91) = wb at HBB HZB HBOX ⊢
          obtain ⟨z0, z1⟩ := HBOX.out
          have r0 := (HBB.out.cell (p := ⟨g, m * 2, none⟩) (by simp; omega)).trans p0
          have r1 := (HBB.out.cell (p := ⟨g, m * 2 + 1, none⟩) (by simp; omega)).trans p1
          have r2 := (HBB.out.cell (p := ⟨w1.heap.size, 0, none⟩) (by simp; omega)).trans y0
          go_big_quiet (fail)
          have hzb := HZB.out
          have HFAR := Lib.hid (ownsRow_far_below HW.out HBB.out (Nat.le_refl _))
          go_wp2
          go_roundw
          case rel =>
            refine ⟨k + 1, by omega, by go_num, ?_, HB.out.trans (below_drewN (HBB.out.mono hszr) _)⟩
            rw [HST.out]
            exact ownsRow_drewN HFAR.out _
          case measure => simp [intOf]; omega
        · have hq := cellEq q.x q.y d.x d.y
          have hqt : (q.x == d.x && q.y == d.y) = false := by
            cases r : (q.x == d.x && q.y == d.y) with
            | false => rfl
            | true => simp at r; exact absurd (by obtain ⟨a, b⟩ := q; obtain ⟨a', b'⟩ := d; simp at r; rw [r.1, r.2]) hqd
          rw [hqt] at hq
          have HST := Lib.hid (hhit (.inr hqd))
          clear hk0 hhit hmiss hqd hqt
          obtain ⟨dx, dy⟩ := d
          obtain ⟨px, py⟩ := q
          simp only at x0 x1 HST p0 p1 hq
          have hbB : Below wr.heap.size wr (wr.alloc (.cells #[.int .i64 dx, .int .i64 dy] 91)) := (Below.refl _ _).alloc (Nat.le_refl _) _
          have hzB : (wr.alloc (.cells #[.int .i64 dx, .int .i64 dy] 91)).heap.size = wr.heap.size + 1 := by simp
          have hbox := cl_box (heap_alloc_new wr (.cells #[.int .i64 dx, .int .i64 dy] 91))
          have HBB := Lib.hid hbB
          have HZB := Lib.hid hzB
          have HBOX := Lib.hid hbox
          clear hbB hzB hbox
          go_upto_region 7 with (fail)
          generalize wr.alloc (.cells #[.int .i64 dx, .int .i64 dy] 91) = wb at HBB HZB HBOX ⊢
          obtain ⟨z0, z1⟩ := HBOX.out
          have r0 := (HBB.out.cell (p := ⟨g, m * 2, none⟩) (by simp; omega)).trans p0
          have r1 := (HBB.out.cell (p := ⟨g, m * 2 + 1, none⟩) (by simp; omega)).trans p1
          have r2 := (HBB.out.cell (p := ⟨w1.heap.size, 0, none⟩) (by simp; omega)).trans y0
          go_big_quiet (fail)
          have hzb := HZB.out
          have HFAR := Lib.hid (ownsRow_far_below HW.out HBB.out (Nat.le_refl _))
          go_wp2_with (at_builtin; refine wpList_app1 rfl (.tmp 31) (.tmp 33) 40 rfl w3.heap.size 91 _ 2 16 Tryz.elemCl _ (dedToG s k).length _ _ _ _ rfl rfl (by simpa using hzb) (ownsRow_drewN HFAR.out _) (by rfl) (by simp [Value.oneCell']) (by unfold maxLen; omega) (by omega) (by omega) ?_; intro g' cap w4 q1 q2 q3 q4 q5 q6)
          go_roundw
          case rel =>
            refine ⟨k + 1, by omega, by go_num, ?_, HB.out.trans ((below_drewN (HBB.out.mono hszr) _).trans q2)⟩
            rw [HST.out, List.length_append, cls_append]
            exact q1
          case measure => simp [intOf]; omega
    · obtain rfl : k = l.length := by omega
      have hded := HDED.out
      rw [HSL.out] at hded
      rw [hded] at HW
      go_wp2
      go_ret
      obtain ⟨ad', c', rfl, _⟩ := ownsRow_cells HW.out
      exact ⟨ad', c', rfl, ownsRow_rebase HW.out (by omega), HB3.out.trans (HB.out.mono (by omega))⟩

theorem implSortC (ad : Option Addr) (c : Nat) (l : List Cl) (w : World) (hn : l.length ≤ 12) (h0 : 0 < l.length) (hnil : ad = none → c = 0) (hc : CellsAt w ad (cls l)) :
    Calls Tryz.prog 170 #[.slice ad l.length c] w fun e w' => ∃ ad' c', e = .returned (.slice ad' (putAllG ltC l).length c') ∧ w'.ownsRow w.heap.size 91 2 (.slice ad' (putAllG ltC l).length c') (putAllG ltC l).length (cls (putAllG ltC l)) ∧ Below w.heap.size w w' := by
  by_cases h2 : 2 ≤ l.length
  · exact implSortB ad c l w hn h2 hnil hc
  · obtain ⟨a, rfl⟩ : ∃ a, l = [a] := by
      cases l with
      | nil => simp at h0
      | cons a m => cases m with
        | nil => exact ⟨a, rfl⟩
        | cons b r => simp at h2
    have hasc : AscG ltC [a] := List.pairwise_singleton _ _
    rw [putAllG_self wholeC hasc]
    exact implSortAsc ad c [a] w hn h0 hasc hnil hc
end Go.Proofs.YtajmdgcnnipdoaaGreatDoor
