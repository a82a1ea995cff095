/- SortC: the order that the program's SortCells hands to sort.Slice; the sort's own walk over cells that ascend: nothing is swapped. -/
import Derived.Test.YtipikojinfpidaaCorner
import Derived.Test.YtipikojinfpidaaCl0
import Derived.StillTailTactics
import Derived.Laws.EntriesVeiled
import Derived.LoopN
namespace Go.Proofs.Ytipikojinfpidaa
open Go.RowKit

theorem callFunc_less (args : Array Value) (w : World) : Sem.run Try.prog (callFunc 85 args) w = .ok (.enter 85 args) w := by kernel_rfl
theorem ltC_not {a b : Cl} (h : ltC a b = true) : ltC b a = false := by
  cases q : ltC b a with
  | false => rfl
  | true => rw [ltC_iff] at h q; omega

set_option maxRecDepth 100000 in
set_option maxHeartbeats 1600000 in
theorem lessCells (p g off c i j : Nat) (l : List Cl) (w : World) (hn : l.length ≤ 1048576) (hp : w.cell? ⟨p, 0, none⟩ = some (.slice (some ⟨g, off, none⟩) l.length c)) (hc : CellsAt w (some ⟨g, off, none⟩) (cls l)) (hi : i < l.length) (hj : j < l.length) :
    Calls Try.prog 85 #[.int .i64 i, .int .i64 j, .pointer (some ⟨p, 0, none⟩)] w fun e w' => e = .returned (.bool (ltC l[i] l[j])) ∧ Below w.heap.size w w' := by
  obtain ⟨g', off', he, hg, hcc⟩ := cl_open hc (by omega)
  cases he
  obtain ⟨x0, x1⟩ := hcc i hi
  obtain ⟨y0, y1⟩ := hcc j hj
  clear hcc hc
  generalize l[i] = a at x0 x1 ⊢
  generalize l[j] = b at y0 y1 ⊢
  obtain ⟨ax, ay⟩ := a
  obtain ⟨bx, by'⟩ := b
  simp only at x0 x1 y0 y1
  have i1 : (i : Int) < (l.length : Int) := by omega
  have j1 : (j : Int) < (l.length : Int) := by omega
  go_enter Try.func85, Try.ntmps85
  go_wp2
  go_still_tail 8, (by kernel_rfl)
  go_wp2_with fail
  refine (implBefore ax ay bx by' w.drew).mono ?_
  rintro e w' ⟨rfl, hb⟩
  have HB := Lib.hid hb
  clear hb
  go_wp2
  go_ret
  exact ⟨rfl, (Below.refl _ _).drew.trans (HB.out.mono (Nat.le_refl _))⟩

set_option maxRecDepth 100000 in
set_option maxHeartbeats 3200000 in
theorem insAsc (p g off c : Nat) (l : List Cl) (sl : Fn) (sa sb : Array Value) (w : World) (hn : l.length ≤ 1000) (hasc : AscG ltC l) (hpw : p < w.heap.size)
    (hp : w.cell? ⟨p, 0, none⟩ = some (.slice (some ⟨g, off, none⟩) l.length c)) (hc : CellsAt w (some ⟨g, off, none⟩) (cls l)) :
    Calls Try.prog 116 #[.agg #[.func (.func 85) #[] #[.pointer (some ⟨p, 0, none⟩)], .func sl sa sb], .int .i64 0, .int .i64 l.length] w fun e w' => e = .returned (.tuple #[]) ∧ Below w.heap.size w w' := by
  have HC := Lib.hid hc
  have HP := Lib.hid hp
  have HASC := Lib.hid hasc
  obtain ⟨w0, hw0⟩ : ∃ w0, w0 = w.alloc (.cells #[.func (.func 85) #[] #[.pointer (some ⟨p, 0, none⟩)], .func sl sa sb] 100) := ⟨_, rfl⟩
  have hb0 : Below w.heap.size w w0 := by rw [hw0]; exact (Below.refl _ _).alloc (Nat.le_refl _) _
  have hz0 : w0.heap.size = w.heap.size + 1 := by rw [hw0]; simp
  have hbox : w0.cell? ⟨w.heap.size, 0, none⟩ = some (.func (.func 85) #[] #[.pointer (some ⟨p, 0, none⟩)]) := by rw [hw0, cell_of_row _ _ 0 _ _ _ (heap_alloc_new w _)]; rfl
  have HB0 := Lib.hid hb0
  have HBOX := Lib.hid hbox
  have HW0 := Lib.hid hw0
  clear hc hp hasc hb0 hbox hw0
  go_enter Try.func116, Try.ntmps116
  go_wp2
  rw [← HW0.out]
  go_loopw [6] (fun i wr => ∃ k : Nat, 1 ≤ k ∧ i = .int .i64 k ∧ (k = 1 ∨ k ≤ l.length) ∧ Below w0.heap.size w0 wr) (fun i _ => l.length - (intOf i).toNat)
  case atStart => exact ⟨1, by omega, rfl, Or.inl rfl, Below.refl _ _⟩
  case round =>
    obtain ⟨k, hk1, rfl, hk, hb⟩ := hrel
    have hszr := hb.size
    have HB := Lib.hid hb
    clear hb
    by_cases hlt : k < l.length
    · obtain ⟨m, hm⟩ : ∃ m, m = k - 1 := ⟨_, rfl⟩
      have hml : m < l.length := by omega
      have hno : ltC l[k] l[m] = false := ltC_not (List.pairwise_iff_getElem.1 HASC.out m k hml hlt (by omega))
      have b1 : wr.cell? ⟨w.heap.size, 0, none⟩ = some (.func (.func 85) #[] #[.pointer (some ⟨p, 0, none⟩)]) := (HB.out.cell (p := ⟨w.heap.size, 0, none⟩) (by rw [hz0]; simp)).trans HBOX.out
      have hbw : Below w.heap.size w wr := HB0.out.trans (HB.out.mono HB0.out.size)
      have hpp : wr.cell? ⟨p, 0, none⟩ = some (.slice (some ⟨g, off, none⟩) l.length c) := (hbw.cell (p := ⟨p, 0, none⟩) hpw).trans HP.out
      have HL := Lib.hid (lessCells p g off c k m l wr (by omega) hpp (HC.out.below hbw) hlt hml)
      rw [hno] at HL
      have d1 : decide ((0 : Int) < (k : Int)) = true := by simp; omega
      have d2 : decide (0 < k) = true := by simp; omega
      have i1 : (k : Int) < (l.length : Int) := by omega
      have i2 : (k : Int) - 1 = (m : Int) := by omega
      have i3 : IntKind.i64.wrap (m : Int) = (m : Int) := IntWalk.i64_in _ (by omega)
      have hcf := callFunc_less
      clear hno hpp hbw hm
      go_wp2
      refine wp_loop_rounds 1 ?_
      rw [rounds_succ]
      go_wp2_with (go_at_call 85; refine HL.out.mono ?_; rintro e w' ⟨rfl, hb2⟩)
      go_roundw
      case rel => exact ⟨k + 1, by omega, by go_num, Or.inr (by omega), HB.out.trans (hb2.mono hszr)⟩
      case measure => simp [intOf]; omega
    · have i1 : ¬ (k : Int) < (l.length : Int) := by omega
      go_wp2
      go_end0
      exact ⟨rfl, HB0.out.trans (HB.out.mono HB0.out.size)⟩
end Go.Proofs.Ytipikojinfpidaa
