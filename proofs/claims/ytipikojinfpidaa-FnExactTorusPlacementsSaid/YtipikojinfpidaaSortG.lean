/- SortG: sort.insertionSort_func over cells in whatever order, the order being that of the program's SortCells. -/
import Derived.Test.YtipikojinfpidaaSortC
import Derived.Test.YtipikojinfpidaaSortG0
import Derived.Shelf.GgSortFunc.SmallK
namespace Go.Proofs.Ytipikojinfpidaa
open Go.RowKit

theorem lessArr (p g c i j n : Nat) (d : Array Cl) (w : World) (hs : d.size = n) (hn : n ≤ 1000) (hp : w.cell? ⟨p, 0, none⟩ = some (.slice (some ⟨g, 0, none⟩) n c)) (hc : CellsAt w (some ⟨g, 0, none⟩) (cls d.toList)) (hi : i < n) (hj : j < n) :
    Calls Try.prog 85 #[.int .i64 i, .int .i64 j, .pointer (some ⟨p, 0, none⟩)] w fun e w' => e = .returned (.bool (ltC d[i]! d[j]!)) ∧ Below w.heap.size w w' := by
  subst hs
  have h := lessCells p g 0 c i j d.toList w (by rw [Array.length_toList]; omega) (by rw [Array.length_toList]; exact hp) hc (by rw [Array.length_toList]; exact hi) (by rw [Array.length_toList]; exact hj)
  rw [Array.getElem_toList, Array.getElem_toList] at h
  rw [getElem!_pos d i hi, getElem!_pos d j hj]
  exact h
theorem setCells_two (w : World) (g o : Nat) (x y : Value) : w.setCells g o [x, y] = (w.setCell ⟨g, o, none⟩ x).setCell ⟨g, o + 1, none⟩ y := rfl
theorem swapped_row {w : World} {base g n c : Nat} {d : Array Cl} {i j : Nat} (h : w.ownsRow base 47 2 (.slice (some ⟨g, 0, none⟩) n c) n (cls d.toList)) :
    ((w.setCells g (i * 2) (encC d[j]!)).setCells g (j * 2) (encC d[i]!)).ownsRow base 47 2 (.slice (some ⟨g, 0, none⟩) n c) n (cls (Go.Sort.swp d i j).toList) ∧
      w.grownBy ((w.setCells g (i * 2) (encC d[j]!)).setCells g (j * 2) (encC d[i]!)) (some g) := by
  unfold encC
  rw [setCells_two, setCells_two]
  have h1 := h.stored (i * 2) (.int .i64 d[j]!.x)
  have h2 := h1.1.stored (i * 2 + 1) (.int .i64 d[j]!.y)
  have h3 := h2.1.stored (j * 2) (.int .i64 d[i]!.x)
  have h4 := h3.1.stored (j * 2 + 1) (.int .i64 d[i]!.y)
  have h5 := h4.1
  rw [cls_swp] at h5
  exact ⟨h5, grownBy_trans h1.2 (grownBy_trans h2.2 (grownBy_trans h3.2 h4.2))⟩
theorem grown_below {w w' : World} (h : Below w.heap.size w w') (row : Option Nat) : w.grownBy w' row := ⟨h.os, h.tape, h.output, h.size, fun k hk _ => h.block k hk⟩

set_option maxRecDepth 100000 in
set_option maxHeartbeats 3200000 in
theorem insG (base p g c sf : Nat) (sb : Array Value) (d : Array Cl) (w : World) (hn : d.size ≤ 1000) (hpw : p < w.heap.size) (hpg : g ≠ p)
    (hp : w.cell? ⟨p, 0, none⟩ = some (.slice (some ⟨g, 0, none⟩) d.size c))
    (ho : w.ownsRow base 47 2 (.slice (some ⟨g, 0, none⟩) d.size c) d.size (cls d.toList)) (hsw : SwapSwapsK Try.prog sf sb encC 2 g 0 d.size) :
    Calls Try.prog 116 #[.agg #[.func (.func 85) #[] #[.pointer (some ⟨p, 0, none⟩)], .func (.func sf) #[] sb], .int .i64 0, .int .i64 d.size] w fun e w' =>
      e = .returned (.tuple #[]) ∧ w'.ownsRow base 47 2 (.slice (some ⟨g, 0, none⟩) d.size c) d.size (cls (Go.Sort.insertionSort ltC d 0 d.size).toList) ∧ w.grownBy w' (some g) := by
  have hg1 := (ho.lt g rfl).2
  have HO := Lib.hid ho
  have HP := Lib.hid hp
  have HSW := Lib.hid hsw
  obtain ⟨w0, hw0⟩ : ∃ w0, w0 = w.alloc (.cells #[.func (.func 85) #[] #[.pointer (some ⟨p, 0, none⟩)], .func (.func sf) #[] sb] 100) := ⟨_, rfl⟩
  have hb0 : Below w.heap.size w w0 := by rw [hw0]; exact (Below.refl _ _).alloc (Nat.le_refl _) _
  have hz0 : w0.heap.size = w.heap.size + 1 := by rw [hw0]; simp
  have hbox : w0.cell? ⟨w.heap.size, 0, none⟩ = some (.func (.func 85) #[] #[.pointer (some ⟨p, 0, none⟩)]) := by rw [hw0, cell_of_row _ _ 0 _ _ _ (heap_alloc_new w _)]; rfl
  have hbox1 : w0.cell? ⟨w.heap.size, 1, none⟩ = some (.func (.func sf) #[] sb) := by rw [hw0, cell_of_row _ _ 1 _ _ _ (heap_alloc_new w _)]; rfl
  have HO0 := Lib.hid (ownsRow_far_below ho hb0 (Nat.le_refl _))
  have HP0 := Lib.hid ((hb0.cell (p := ⟨p, 0, none⟩) hpw).trans hp)
  have HB0 := Lib.hid hb0
  have HBOX := Lib.hid hbox
  have HBOX1 := Lib.hid hbox1
  have HW0 := Lib.hid hw0
  clear hp ho hsw hb0 hbox hbox1 hw0
  go_enter Try.func116, Try.ntmps116
  go_wp2
  rw [← HW0.out]
  go_loopw [6] (fun vi wr => ∃ (i : Nat) (dk : Array Cl), vi = .int .i64 i ∧ 0 < i ∧ i ≤ d.size + 1 ∧ dk.size = d.size ∧ wr.ownsRow base 47 2 (.slice (some ⟨g, 0, none⟩) d.size c) d.size (cls dk.toList) ∧ w0.grownBy wr (some g) ∧ Go.Sort.insOuter ltC 0 d.size i dk = Go.Sort.insOuter ltC 0 d.size 1 d) (fun vi _ => d.size + 1 - (intOf vi).toNat)
  case atStart => exact ⟨1, d, rfl, by omega, by omega, rfl, HO0.out, grownBy_refl _ _, rfl⟩
  case round =>
    obtain ⟨i, dk, rfl, hi0, hi1, hsk, hok, hgk, heq⟩ := hrel
    have HOK := Lib.hid hok
    have HGK := Lib.hid hgk
    have HEQ := Lib.hid heq
    clear hok hgk heq
    by_cases hlt : i < d.size
    · have i1 : (i : Int) < (d.size : Int) := by omega
      go_wp2
      go_loopw [7] (fun vj wr2 => ∃ (j : Nat) (dj : Array Cl), vj = .int .i64 j ∧ j ≤ i ∧ dj.size = d.size ∧ wr2.ownsRow base 47 2 (.slice (some ⟨g, 0, none⟩) d.size c) d.size (cls dj.toList) ∧ w0.grownBy wr2 (some g) ∧ Go.Sort.insInner ltC 0 j dj = Go.Sort.insInner ltC 0 i dk) (fun vj _ => (intOf vj).toNat)
      case atStart => exact ⟨i, dk, rfl, Nat.le_refl _, hsk, HOK.out, HGK.out, rfl⟩
      case round =>
        obtain ⟨j, dj, rfl, hji, hsj, hoj, hgj, hin⟩ := hrel
        have hszj := hgj.size
        have HOJ := Lib.hid hoj
        have HGJ := Lib.hid hgj
        have HIN := Lib.hid hin
        clear hoj hgj hin
        by_cases hj0 : 0 < j
        · obtain ⟨m, hm⟩ : ∃ m, m = j - 1 := ⟨_, rfl⟩
          have b1 := HGJ.out.cell HBOX.out (by simp; omega)
          have b2 := HGJ.out.cell HBOX1.out (by simp; omega)
          have hpp := HGJ.out.cell HP0.out (by simp; omega)
          have hl := lessArr p g c j m d.size dj wr hsj hn hpp (ownsRow_cellsAt HOJ.out) (by omega) (by omega)
          have hgo : ltC dj[j]! dj[m]! = true → Go.Sort.insInner ltC 0 j dj = Go.Sort.insInner ltC 0 m (Go.Sort.swp dj j m) := fun q => by
            rw [hm] at q ⊢
            exact Go.Proofs.insInner_go ltC 0 j dj hj0 q
          have hst : ltC dj[j]! dj[m]! = false → Go.Sort.insInner ltC 0 j dj = dj := fun q => by
            rw [hm] at q
            exact Go.Proofs.insInner_stop ltC 0 j dj (.inr q)
          have d1 : decide ((0 : Int) < (j : Int)) = true := by simp; omega
          have d2 : decide (0 < j) = true := by simp; omega
          have i2 : (j : Int) - 1 = (m : Int) := by omega
          have i3 : IntKind.i64.wrap (m : Int) = (m : Int) := IntWalk.i64_in _ (by omega)
          have hjm : m < j := by omega
          have hcf := callFunc_less
          have hswp := HSW.out
          have HGO := Lib.hid hgo
          have HST := Lib.hid hst
          clear hm hgo hst hpp
          cases hlv : ltC dj[j]! dj[m]! with
          | true =>
            rw [hlv] at hl
            have HL := Lib.hid hl
            have HSWP := Lib.hid (fun W (h : Go.Sort.HoldsK encC 2 W g 0 dj) => hswp W dj h hsj j m (by omega) (by omega))
            clear hl hswp
            go_wp2_with (go_at_call 85; refine HL.out.mono ?_; rintro e w' ⟨rfl, hb2⟩; have hoj2 := ownsRow_far_below HOJ.out hb2 (Nat.le_refl _); have b3 := (hb2.cell (p := ⟨w.heap.size, 1, none⟩) (by simp; omega)).trans b2)
            have hs := HSWP.out w' (holdsK_of hsj hoj2)
            rw [hs, Oper.upon_value]
            go_wp2
            go_roundw
            case rel =>
              obtain ⟨q1, q2⟩ := swapped_row (i := j) (j := m) hoj2
              exact ⟨m, Go.Sort.swp dj j m, by go_num, by omega, by rw [Go.Sort.size_swp]; exact hsj, q1, grownBy_trans HGJ.out (grownBy_trans (grown_below hb2 _) q2), by rw [← HIN.out, HGO.out hlv]⟩
            case measure => simp [intOf]; omega
          | false =>
            rw [hlv] at hl
            have HL := Lib.hid hl
            clear hl hswp
            go_wp2_with (go_at_call 85; refine HL.out.mono ?_; rintro e w' ⟨rfl, hb2⟩)
            go_roundw
            case rel => exact ⟨i + 1, dj, by go_num, by omega, by omega, hsj, ownsRow_far_below HOJ.out hb2 (Nat.le_refl _), grownBy_trans HGJ.out (grown_below hb2 _), by rw [← HEQ.out, Go.Proofs.insOuter_go ltC 0 d.size i dk hlt, ← HIN.out, HST.out hlv]⟩
            case measure => simp [intOf]; omega
        · have d1 : decide ((0 : Int) < (j : Int)) = false := by simp; omega
          have d2 : decide (0 < j) = false := by simp; omega
          have hst : Go.Sort.insInner ltC 0 j dj = dj := Go.Proofs.insInner_stop ltC 0 j dj (.inl (by omega))
          have HST := Lib.hid hst
          clear hst
          go_wp2
          go_roundw
          case rel => exact ⟨i + 1, dj, by go_num, by omega, by omega, hsj, HOJ.out, HGJ.out, by rw [← HEQ.out, Go.Proofs.insOuter_go ltC 0 d.size i dk hlt, ← HIN.out, HST.out]⟩
          case measure => simp [intOf]; omega
    · have i1 : ¬ (i : Int) < (d.size : Int) := by omega
      have hfin : Go.Sort.insertionSort ltC d 0 d.size = dk := by
        unfold Go.Sort.insertionSort
        rw [← HEQ.out, Go.Proofs.insOuter_stop ltC 0 d.size i dk hlt]
      have HFIN := Lib.hid hfin
      clear hfin
      go_wp2
      go_end0
      rw [HFIN.out]
      exact ⟨rfl, HOK.out, grownBy_trans (grown_below HB0.out _) HGK.out⟩
end Go.Proofs.Ytipikojinfpidaa
