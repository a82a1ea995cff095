/- Cross1: the walks of the program's isMask and of the reference's l15Crosses. -/
import Derived.Test.YtnldmigofmedkaaCellsOf
import Derived.Test.YtnldmigofmedkaaHasCell
namespace Go.Proofs.Ytnldmigofmedkaa
open Go.RowKit

theorem isMaskB_nat (b : Int) (xs : List Int) (m : Nat) : isMaskB b xs (m : Int) = (m - (m &&& regMask b xs) == 0) := by
  unfold isMaskB
  rw [Int.toNat_natCast, decide_eq_true (Int.natCast_nonneg m), Bool.true_and, Bool.eq_iff_iff]
  have : m &&& regMask b xs ≤ m := Nat.and_le_left
  simp
  omega
theorem cast_beq_zero (n : Nat) : (((n : Nat) : Int) == 0) = (n == 0) := by
  rw [Bool.eq_iff_iff]; simp

set_option maxHeartbeats 800000 in
theorem implIsMask (B : Nat) (ad : Option Addr) (c : Nat) (xs : List Int) (v : Int) (w : World) (hr : Reg (B : Int) xs) (hwf : (Lit.int .i64 v).wf = true) (hc : CellsAt w ad (ints xs)) :
    Calls Try.prog 75 #[.agg #[.int .i64 B, .slice ad xs.length c], .int .i64 v] w fun e w' => e = .returned (.bool (isMaskB B xs v)) ∧ Below w.heap.size w w' := by
  have hmask := fun w (h : CellsAt w ad (ints xs)) => implMask B ad c xs w hr h
  have hM := regMask_lt hr
  have hnat := fun m => isMaskB_nat B xs m
  have hneg : v < 0 → isMaskB B xs v = false := fun h => by unfold isMaskB; simp; omega
  obtain ⟨M, hMM⟩ : ∃ M, M = regMask (B : Int) xs := ⟨_, rfl⟩
  rw [← hMM] at hmask hM hnat
  have hb0 : Below w.heap.size w (w.alloc (.cells #[.int .i64 B, .slice ad xs.length c] 44)) := (Below.refl _ _).alloc (Nat.le_refl _) _
  have HB0 := Lib.hid hb0
  have HMASK := Lib.hid hmask
  have HC := Lib.hid hc
  have HNAT := Lib.hid hnat
  obtain ⟨wb1, wb2⟩ := i64_bounds hwf
  clear hr hmask hc hMM hnat hwf hb0
  by_cases h0 : 0 ≤ v
  · have d0 : decide (0 ≤ v) = true := decide_eq_true h0
    obtain ⟨m, rfl⟩ := Int.eq_ofNat_of_zero_le h0
    have hb := Lib.hid ((congrArg (fun x : Int => x == 0) (i64_andNot_nat m M (by omega) (by omega))).trans ((cast_beq_zero _).trans (HNAT.out m).symm))
    clear hneg h0
    go_enter Try.func75, Try.ntmps75
    go_wp2_with fail
    refine (HMASK.out _ (HC.out.below HB0.out)).mono ?_
    rintro e w1 ⟨rfl, hb1⟩
    go_wp2
    go_ret
    refine ⟨?_, HB0.out.trans (hb1.mono HB0.out.size)⟩
    rw [hb.out]; rfl
  · have d0 : decide (0 ≤ v) = false := decide_eq_false h0
    have HNEG := Lib.hid (hneg (by omega))
    clear hneg h0
    go_enter Try.func75, Try.ntmps75
    go_wp2
    go_ret
    rw [HNEG.out]
    exact ⟨rfl, HB0.out⟩

theorem any_take_succ {α : Type} {l : List α} {p : α → Bool} {k : Nat} (hk : k < l.length) (h : (l.take k).any p = false) (hp : p l[k] = false) : (l.take (k + 1)).any p = false := by
  rw [List.take_succ_eq_append_getElem hk, List.any_append, h]
  simp [hp]
theorem any_hit {α : Type} {l : List α} {p : α → Bool} {k : Nat} (hk : k < l.length) (hp : p l[k] = true) : l.any p = true := List.any_eq_true.2 ⟨_, List.getElem_mem hk, hp⟩

set_option maxRecDepth 100000 in
set_option maxHeartbeats 1600000 in
theorem specCrossX (B : Nat) (ad : Option Addr) (c : Nat) (xs : List Int) (v x : Int) (w : World) (hx : 1 ≤ x ∧ x ≤ 6) (hr : Reg (B : Int) xs) (hwf : (Lit.int .i64 v).wf = true) (hc : CellsAt w ad (ints xs)) :
    Calls Try.prog 54 #[.agg #[.int .i64 B, .slice ad xs.length c], .int .i64 v, .int .i64 x, .int .i64 0] w fun e w' => e = .returned (.bool (preX (maskC B xs v) x)) ∧ Below w.heap.size w w' := by
  have hcells := fun w (h : CellsAt w ad (ints xs)) => specCells B ad c xs v w hr hwf h
  have hlen := maskC_length v hr
  obtain ⟨l, hl⟩ : ∃ l, l = maskC (B : Int) xs v := ⟨_, rfl⟩
  rw [← hl] at hcells hlen ⊢
  obtain ⟨hx1, hx2⟩ := hx
  have hb0 : Below w.heap.size w (w.alloc (.cells #[.int .i64 B, .slice ad xs.length c] 44)) := (Below.refl _ _).alloc (Nat.le_refl _) _
  have HB0 := Lib.hid hb0
  have HCE := Lib.hid hcells
  have HC := Lib.hid hc
  have HPX := Lib.hid (show preX l x = l.any (fun c : Cl => decide (c.x = x) && hasC l (x - 1) c.y) from rfl)
  clear hcells hc hb0 hr hwf hl
  go_enter Try.func54, Try.ntmps54
  go_wp2_with fail
  refine (HCE.out _ (HC.out.below HB0.out)).mono ?_
  rintro e w1 ⟨al, cl, rfl, ho1, hb1⟩
  have HL := Lib.hid (ownsRow_cellsAt ho1)
  have HB1 := Lib.hid (HB0.out.trans (hb1.mono HB0.out.size))
  clear ho1 hb1
  go_wp2
  go_loopw [10] (fun i wr => ∃ k : Nat, k ≤ l.length ∧ i = .int .i64 k ∧ (l.take k).any (fun c : Cl => decide (c.x = x) && hasC l (x - 1) c.y) = false ∧ w1 = wr) (fun i _ => l.length - (intOf i).toNat)
  case atStart => exact ⟨0, by omega, rfl, by simp, rfl⟩
  case round =>
    obtain ⟨k, hk, rfl, ht, rfl⟩ := hrel
    have HT := Lib.hid ht
    clear ht
    by_cases hlt : k < l.length
    · obtain ⟨g, off, rfl, hg, hcc⟩ := cl_open HL.out (by omega)
      obtain ⟨x0, x1⟩ := hcc k hlt
      clear hcc
      obtain ⟨d, hd⟩ : ∃ d, d = l[k] := ⟨_, rfl⟩
      rw [← hd] at x0 x1
      have HD := Lib.hid hd
      clear hd
      obtain ⟨dx, dy⟩ := d
      simp only at x0 x1
      by_cases h1 : dx = x
      · have b1 : (dx == x) = true := by simp [h1]
        have hhas := fun w h => specHas (some ⟨g, off, none⟩) cl l (x - 1) dy w (by omega) h
        by_cases h2 : hasC l (x - 1) dy = true
        · rw [h2] at hhas
          have HY := Lib.hid (any_hit (p := (fun c : Cl => decide (c.x = x) && hasC l (x - 1) c.y)) hlt (by rw [← HD.out]; simp [h1, h2]))
          have HHAS := Lib.hid hhas
          clear h1 h2 hhas
          go_wp2_with fail
          refine (HHAS.out _ HL.out).mono ?_
          rintro e w2 ⟨rfl, rfl⟩
          go_wp2
          go_ret
          rw [HPX.out, HY.out]
          exact ⟨rfl, HB1.out⟩
        · have h2' : hasC l (x - 1) dy = false := by simpa using h2
          rw [h2'] at hhas
          have HNN := Lib.hid (any_take_succ (p := (fun c : Cl => decide (c.x = x) && hasC l (x - 1) c.y)) hlt HT.out (by rw [← HD.out]; simp [h2']))
          have HHAS := Lib.hid hhas
          clear h1 h2 h2' hhas
          go_wp2_with fail
          refine (HHAS.out _ HL.out).mono ?_
          rintro e w2 ⟨rfl, rfl⟩
          go_wp2
          go_roundw
          case rel => exact ⟨k + 1, by omega, by go_num, HNN.out, trivial⟩
          case measure => simp [intOf]; omega
      · have b1 : (dx == x) = false := by simp [h1]
        have HNN := Lib.hid (any_take_succ (p := (fun c : Cl => decide (c.x = x) && hasC l (x - 1) c.y)) hlt HT.out (by rw [← HD.out]; simp [h1]))
        clear h1
        go_wp2
        go_roundw
        case rel => exact ⟨k + 1, by omega, by go_num, HNN.out, trivial⟩
        case measure => simp [intOf]; omega
    · obtain rfl : k = l.length := by omega
      go_wp2
      go_ret
      have HT2 := HT.out
      rw [List.take_length] at HT2
      rw [HPX.out, HT2]
      exact ⟨rfl, HB1.out⟩

set_option maxRecDepth 100000 in
set_option maxHeartbeats 1600000 in
theorem specCrossY (B : Nat) (ad : Option Addr) (c : Nat) (xs : List Int) (v x : Int) (w : World) (hx : 1 ≤ x ∧ x ≤ 6) (hr : Reg (B : Int) xs) (hwf : (Lit.int .i64 v).wf = true) (hc : CellsAt w ad (ints xs)) :
    Calls Try.prog 54 #[.agg #[.int .i64 B, .slice ad xs.length c], .int .i64 v, .int .i64 0, .int .i64 x] w fun e w' => e = .returned (.bool (preY (maskC B xs v) x)) ∧ Below w.heap.size w w' := by
  have hcells := fun w (h : CellsAt w ad (ints xs)) => specCells B ad c xs v w hr hwf h
  have hlen := maskC_length v hr
  obtain ⟨l, hl⟩ : ∃ l, l = maskC (B : Int) xs v := ⟨_, rfl⟩
  rw [← hl] at hcells hlen ⊢
  obtain ⟨hx1, hx2⟩ := hx
  have hb0 : Below w.heap.size w (w.alloc (.cells #[.int .i64 B, .slice ad xs.length c] 44)) := (Below.refl _ _).alloc (Nat.le_refl _) _
  have HB0 := Lib.hid hb0
  have HCE := Lib.hid hcells
  have HC := Lib.hid hc
  have HPX := Lib.hid (show preY l x = l.any (fun c : Cl => decide (c.y = x) && hasC l c.x (x - 1)) from rfl)
  clear hcells hc hb0 hr hwf hl
  go_enter Try.func54, Try.ntmps54
  go_wp2_with fail
  refine (HCE.out _ (HC.out.below HB0.out)).mono ?_
  rintro e w1 ⟨al, cl, rfl, ho1, hb1⟩
  have HL := Lib.hid (ownsRow_cellsAt ho1)
  have HB1 := Lib.hid (HB0.out.trans (hb1.mono HB0.out.size))
  clear ho1 hb1
  go_wp2
  go_loopw [10] (fun i wr => ∃ k : Nat, k ≤ l.length ∧ i = .int .i64 k ∧ (l.take k).any (fun c : Cl => decide (c.y = x) && hasC l c.x (x - 1)) = false ∧ w1 = wr) (fun i _ => l.length - (intOf i).toNat)
  case atStart => exact ⟨0, by omega, rfl, by simp, rfl⟩
  case round =>
    obtain ⟨k, hk, rfl, ht, rfl⟩ := hrel
    have HT := Lib.hid ht
    clear ht
    by_cases hlt : k < l.length
    · obtain ⟨g, off, rfl, hg, hcc⟩ := cl_open HL.out (by omega)
      obtain ⟨x0, x1⟩ := hcc k hlt
      clear hcc
      obtain ⟨d, hd⟩ : ∃ d, d = l[k] := ⟨_, rfl⟩
      rw [← hd] at x0 x1
      have HD := Lib.hid hd
      clear hd
      obtain ⟨dx, dy⟩ := d
      simp only at x0 x1
      by_cases h1 : dy = x
      · have b1 : (dy == x) = true := by simp [h1]
        have hhas := fun w h => specHas (some ⟨g, off, none⟩) cl l dx (x - 1) w (by omega) h
        by_cases h2 : hasC l dx (x - 1) = true
        · rw [h2] at hhas
          have HY := Lib.hid (any_hit (p := (fun c : Cl => decide (c.y = x) && hasC l c.x (x - 1))) hlt (by rw [← HD.out]; simp [h1, h2]))
          have HHAS := Lib.hid hhas
          clear h1 h2 hhas
          go_wp2_with fail
          refine (HHAS.out _ HL.out).mono ?_
          rintro e w2 ⟨rfl, rfl⟩
          go_wp2
          go_ret
          rw [HPX.out, HY.out]
          exact ⟨rfl, HB1.out⟩
        · have h2' : hasC l dx (x - 1) = false := by simpa using h2
          rw [h2'] at hhas
          have HNN := Lib.hid (any_take_succ (p := (fun c : Cl => decide (c.y = x) && hasC l c.x (x - 1))) hlt HT.out (by rw [← HD.out]; simp [h2']))
          have HHAS := Lib.hid hhas
          clear h1 h2 h2' hhas
          go_wp2_with fail
          refine (HHAS.out _ HL.out).mono ?_
          rintro e w2 ⟨rfl, rfl⟩
          go_wp2
          go_roundw
          case rel => exact ⟨k + 1, by omega, by go_num, HNN.out, trivial⟩
          case measure => simp [intOf]; omega
      · have b1 : (dy == x) = false := by simp [h1]
        have HNN := Lib.hid (any_take_succ (p := (fun c : Cl => decide (c.y = x) && hasC l c.x (x - 1))) hlt HT.out (by rw [← HD.out]; simp [h1]))
        clear h1
        go_wp2
        go_roundw
        case rel => exact ⟨k + 1, by omega, by go_num, HNN.out, trivial⟩
        case measure => simp [intOf]; omega
    · obtain rfl : k = l.length := by omega
      go_wp2
      go_ret
      have HT2 := HT.out
      rw [List.take_length] at HT2
      rw [HPX.out, HT2]
      exact ⟨rfl, HB1.out⟩
end Go.Proofs.Ytnldmigofmedkaa
