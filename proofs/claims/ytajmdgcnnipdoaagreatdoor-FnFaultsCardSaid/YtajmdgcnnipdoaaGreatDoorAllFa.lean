/- AllFa: parts laid together: Faults, CrossI. -/
import Derived.Test.YtajmdgcnnipdoaaGreatDoorSpecCross
import Derived.Test.YtajmdgcnnipdoaaGreatDoorAllMkC

/- Faults: the walks of the program's CrossingsOf, and of FaultLines, the reference's and the program's. -/
namespace Go.Proofs.YtajmdgcnnipdoaaGreatDoor
open Go.RowKit

theorem zeros_hit {l : List Int} {off : Int} {k : Nat} (hk : k < l.length) (h : l[k] = 0) : zerosTo l off (k + 1) = zerosTo l off k ++ [(k : Int) + off] := by
  rw [zerosTo, if_pos (by rw [List.getD_eq_getElem?_getD, List.getElem?_eq_getElem hk]; exact h)]
theorem zeros_miss {l : List Int} {off : Int} {k : Nat} (hk : k < l.length) (h : ¬ l[k] = 0) : zerosTo l off (k + 1) = zerosTo l off k := by
  rw [zerosTo, if_neg (by rw [List.getD_eq_getElem?_getD, List.getElem?_eq_getElem hk]; exact h)]

set_option maxRecDepth 100000 in
set_option maxHeartbeats 3200000 in
theorem specFaults (b : Int) (ad al : Option Addr) (c cl : Nat) (xs ls : List Int) (w : World) (hn : xs.length ≤ 1048576) (hnl : ls.length ≤ 1048576) (hwl : ∀ x ∈ ls, (Lit.int .i64 x).wf = true) (hc : CellsAt w ad (ints xs)) (hcl : CellsAt w al (ints ls)) :
    Calls Tryz.prog 12 #[.agg #[.int .i64 b, .slice ad xs.length c], .slice al ls.length cl] w fun e w' => ∃ ad' c', e = .returned (.slice ad' (faultsL b xs ls).length c') ∧ w'.ownsRow w.heap.size 3 1 (.slice ad' (faultsL b xs ls).length c') (faultsL b xs ls).length (ints (faultsL b xs ls)) ∧ Below w.heap.size w w' := by
  have hb0 : Below w.heap.size w (w.alloc (.cells #[.int .i64 b, .slice ad xs.length c] 26)) := (Below.refl _ _).alloc (Nat.le_refl _) _
  have hblk0 : (w.alloc (.cells #[.int .i64 b, .slice ad xs.length c] 26)).heap[w.heap.size]? = some (.cells #[.int .i64 b, .slice ad xs.length c] 26 (0, 0)) := heap_alloc_new w _
  have HB0 := Lib.hid hb0
  have HBLK0 := Lib.hid hblk0
  have HC := Lib.hid hc
  have HCL := Lib.hid hcl
  have hl := ints_length xs
  have hcr := fun w h1 h2 => specCrossings b ad al c cl xs ls w hn hnl hwl h1 h2
  obtain ⟨A, hA⟩ : ∃ A, A = acrossL b xs ls := ⟨_, rfl⟩
  obtain ⟨D, hD⟩ : ∃ D, D = downL b xs ls := ⟨_, rfl⟩
  have hfl : faultsL b xs ls = zerosTo A 1 A.length ++ zerosTo D 7 D.length := by unfold faultsL; rw [← hA, ← hD]
  have hA5 : A.length ≤ 5 := by rw [hA]; exact acrossL_le _ _ _
  have hD5 : D.length ≤ 5 := by rw [hD]; exact downL_le _ _ _
  rw [← hA, ← hD] at hcr
  have HFL := Lib.hid hfl
  have HCR := Lib.hid hcr
  clear hfl hcr hA hD hb0 hblk0 hc hcl hwl
  go_enter Tryz.func12, Tryz.ntmps12
  go_wp2_with fail
  refine (HCR.out _ (HC.out.below HB0.out) (HCL.out.below HB0.out)).mono ?_
  rintro e w1 ⟨a0, c0, a1, c1, lo0, hi0, lo1, hi1, rfl, ho0, ho1, _, _, hh0, _, _, hh1, _, hb1⟩
  have HB1 := Lib.hid (HB0.out.trans (hb1.mono HB0.out.size))
  have HOA := Lib.hid ho0
  have HOD := Lib.hid ho1
  clear ho0 ho1 hb1
  go_wp2
  go_loopw [7, 8] (fun s i wr => ∃ k : Nat, k ≤ A.length ∧ i = .int .i64 k ∧ wr.ownsRow w1.heap.size 3 1 s (zerosTo A 1 k).length (ints (zerosTo A 1 k)) ∧ Below w1.heap.size w1 wr) (fun _ i _ => A.length - (intOf i).toNat)
  case atStart => exact ⟨0, by omega, rfl, ownsRow_empty w1 3 1, (Below.refl _ _).alloc (Nat.le_refl _) _⟩
  case round =>
    obtain ⟨k, hk, rfl, hown, hb⟩ := hrel
    have HW := Lib.hid hown
    have HB := Lib.hid hb
    have hszr := hb.size
    have hz1 := zerosTo_le A 1 A.length
    have hz2 := zerosTo_le A 1 k
    have hlenr : (zerosTo A 1 k).length ≤ 20 := by omega
    clear hown hb hz1 hz2
    by_cases hlt : k < A.length
    · obtain ⟨g, off, hga, hg, hcc⟩ := HOA.out.cells.open (by rw [ints_length]; omega)
      have y0 := (HB.out.cell (p := ⟨g, off + k, none⟩) hg).trans (hcc k _ (ints_at A k hlt))
      have hhit := zeros_hit (off := 1) hlt
      have hmiss := zeros_miss (off := 1) hlt
      generalize A[k] = x at y0 hhit hmiss
      first | subst hga | cases hga
      try rw [Nat.zero_add] at y0
      by_cases hx : x = 0
      · have hx0 : (x == 0) = true := by simp [hx]
        have HHIT := Lib.hid (hhit hx)
        clear hhit hmiss hcc hx
        go_wp2_with (at_builtin; refine wpList_app1 rfl (.tmp 28) (.tmp 31) 24 rfl w1.heap.size 3 _ 1 8 Tryz.elemInt _ _ _ _ _ _ rfl rfl rfl HW.out (by rfl) (by simp [Value.oneCell']) (by unfold maxLen; omega) (by omega) (by omega) ?_; intro g' cap w3 q1 q2 q3 q4 q5 q6)
        go_wp2
        go_roundw
        case rel =>
          refine ⟨k + 1, by omega, by go_num, ?_, HB.out.trans q2⟩
          rw [HHIT.out, ints_append]
          skip
          rw [List.length_append (bs := [_])]
          first | exact q1 | (rw [List.length_append] at q1 ⊢; exact q1) | simpa [ints, Nat.add_assoc] using q1
        case measure => simp [intOf]; omega
      · have hx0 : (x == 0) = false := by simp [hx]
        have HMISS := Lib.hid (hmiss hx)
        clear hhit hmiss hcc hx
        go_wp2
        go_roundw
        case rel => exact ⟨k + 1, by omega, by go_num, by rw [HMISS.out]; exact HW.out, HB.out⟩
        case measure => simp [intOf]; omega
    · obtain rfl : k = A.length := by omega
      go_wp2
      have HWX := Lib.hid HW.out
      have HBX := Lib.hid HB.out
      clear HW HB hlenr hszr
      go_loopw [7, 9] (fun s i wr => ∃ k : Nat, k ≤ D.length ∧ i = .int .i64 k ∧ wr.ownsRow w1.heap.size 3 1 s (zerosTo A 1 A.length ++ zerosTo D 7 k).length (ints (zerosTo A 1 A.length ++ zerosTo D 7 k)) ∧ Below w1.heap.size w1 wr) (fun _ i _ => D.length - (intOf i).toNat)
      case atStart => exact ⟨0, by omega, rfl, by simpa [zerosTo] using HWX.out, HBX.out⟩
      case round =>
        obtain ⟨k, hk, rfl, hown, hb⟩ := hrel
        have HW := Lib.hid hown
        have HB := Lib.hid hb
        have hszr := hb.size
        have hz1 := zerosTo_le A 1 A.length
        have hz2 := zerosTo_le D 7 k
        have hlenr : (zerosTo A 1 A.length ++ zerosTo D 7 k).length ≤ 20 := by rw [List.length_append]; omega
        clear hown hb hz1 hz2
        by_cases hlt : k < D.length
        · obtain ⟨g, off, hga, hg, hcc⟩ := HOD.out.cells.open (by rw [ints_length]; omega)
          have y0 := (HB.out.cell (p := ⟨g, off + k, none⟩) hg).trans (hcc k _ (ints_at D k hlt))
          have hhit := zeros_hit (off := 7) hlt
          have hmiss := zeros_miss (off := 7) hlt
          generalize D[k] = x at y0 hhit hmiss
          first | subst hga | cases hga
          try rw [Nat.zero_add] at y0
          by_cases hx : x = 0
          · have hx0 : (x == 0) = true := by simp [hx]
            have HHIT := Lib.hid (hhit hx)
            clear hhit hmiss hcc hx
            go_wp2_with (at_builtin; refine wpList_app1 rfl (.tmp 44) (.tmp 48) 24 rfl w1.heap.size 3 _ 1 8 Tryz.elemInt _ _ _ _ _ _ rfl rfl rfl HW.out (by rfl) (by simp [Value.oneCell']) (by unfold maxLen; omega) (by omega) (by omega) ?_; intro g' cap w3 q1 q2 q3 q4 q5 q6)
            go_wp2
            go_roundw
            case rel =>
              refine ⟨k + 1, by omega, by go_num, ?_, HB.out.trans q2⟩
              rw [HHIT.out, ← List.append_assoc, ints_append]
              rw [show ((k : Int) + 7) = (k : Int) + 1 + 6 by omega]
              rw [List.length_append (bs := [_])]
              first | exact q1 | (rw [List.length_append] at q1 ⊢; exact q1) | simpa [ints, Nat.add_assoc] using q1
            case measure => simp [intOf]; omega
          · have hx0 : (x == 0) = false := by simp [hx]
            have HMISS := Lib.hid (hmiss hx)
            clear hhit hmiss hcc hx
            go_wp2
            go_roundw
            case rel => exact ⟨k + 1, by omega, by go_num, by rw [HMISS.out]; exact HW.out, HB.out⟩
            case measure => simp [intOf]; omega
        · obtain rfl : k = D.length := by omega
          go_wp2
          go_ret
          rw [HFL.out]
          obtain ⟨ad', c', rfl, _⟩ := ownsRow_cells HW.out
          exact ⟨ad', c', rfl, ownsRow_rebase HW.out HB1.out.size, HB1.out.trans (HB.out.mono HB1.out.size)⟩

set_option maxRecDepth 100000 in
set_option maxHeartbeats 3200000 in
theorem implFaults (b : Int) (ad al : Option Addr) (c cl : Nat) (xs ls : List Int) (w : World) (hn : xs.length ≤ 1048576) (hnl : ls.length ≤ 1048576) (hwl : ∀ x ∈ ls, (Lit.int .i64 x).wf = true) (hc : CellsAt w ad (ints xs)) (hcl : CellsAt w al (ints ls)) :
    Calls Tryz.prog 8 #[.agg #[.int .i64 b, .slice ad xs.length c], .slice al ls.length cl] w fun e w' => ∃ ad' c', e = .returned (.slice ad' (faultsL b xs ls).length c') ∧ w'.ownsRow w.heap.size 3 1 (.slice ad' (faultsL b xs ls).length c') (faultsL b xs ls).length (ints (faultsL b xs ls)) ∧ Below w.heap.size w w' := by
  have hb0 : Below w.heap.size w (w.alloc (.cells #[.int .i64 b, .slice ad xs.length c] 26)) := (Below.refl _ _).alloc (Nat.le_refl _) _
  have hblk0 : (w.alloc (.cells #[.int .i64 b, .slice ad xs.length c] 26)).heap[w.heap.size]? = some (.cells #[.int .i64 b, .slice ad xs.length c] 26 (0, 0)) := heap_alloc_new w _
  have HB0 := Lib.hid hb0
  have HBLK0 := Lib.hid hblk0
  have HC := Lib.hid hc
  have HCL := Lib.hid hcl
  have hl := ints_length xs
  have hreg := fun w (h : CellsAt w ad (ints xs)) => implReg b ad c xs w hn h
  by_cases hr : Reg b xs
  · have ha : acrossL b xs ls = cntL colX b xs ls (b.toNat - 1) ls.length := if_pos hr
    have hd : downL b xs ls = cntL colY b xs ls (xs.length - 1) ls.length := if_pos hr
    rw [decide_eq_true hr] at hreg
    obtain ⟨B, rfl, hB1, hB2⟩ := int_le_nat hr.1.1 hr.1.2
    obtain ⟨n0, hn0⟩ : ∃ n0, n0 = B - 1 := ⟨_, rfl⟩
    obtain ⟨n1, hn1⟩ : ∃ n1, n1 = xs.length - 1 := ⟨_, rfl⟩
    have hl1 := hr.2.1.1
    have hcr := fun w h1 h2 => implCrossings B n0 n1 ad al c cl xs ls w (by omega) (by omega) hr hnl hwl h1 h2
    rw [show ((B : Int)).toNat - 1 = n0 by rw [Int.toNat_natCast, hn0]] at ha
    rw [← hn1] at hd
    rw [← ha, ← hd] at hcr
    have e0 : n0 = (acrossL B xs ls).length := by rw [ha, cntL_length]
    have e1 : n1 = (downL B xs ls).length := by rw [hd, cntL_length]
    obtain ⟨A, hA⟩ : ∃ A, A = acrossL B xs ls := ⟨_, rfl⟩
    obtain ⟨D, hD⟩ : ∃ D, D = downL B xs ls := ⟨_, rfl⟩
    rw [← hA] at hcr e0
    rw [← hD] at hcr e1
    subst e0
    subst e1
    have hfl : faultsL B xs ls = zerosTo A 1 A.length ++ zerosTo D 7 D.length := by unfold faultsL; rw [← hA, ← hD]
    have hA5 : A.length ≤ 5 := by rw [hA]; exact acrossL_le _ _ _
    have hD5 : D.length ≤ 5 := by rw [hD]; exact downL_le _ _ _
    have HFL := Lib.hid hfl
    have HCR := Lib.hid hcr
    have HREG := Lib.hid hreg
    clear hfl hcr hA hD hreg hr ha hd hn0 hn1 hb0 hblk0 hc hcl hwl
    go_enter Tryz.func8, Tryz.ntmps8
    go_wp2_with fail
    refine (HREG.out _ (HC.out.below HB0.out)).mono ?_
    rintro e w0 ⟨rfl, hb00⟩
    have hblk1 := (hb00.block w.heap.size (by simp)).trans HBLK0.out
    have x0 : w0.cell? ⟨w.heap.size, 0, none⟩ = some (.int .i64 B) := by rw [cell_of_row w0 _ 0 _ _ _ hblk1]; rfl
    have x1 : w0.cell? ⟨w.heap.size, 1, none⟩ = some (.slice ad xs.length c) := by rw [cell_of_row w0 _ 1 _ _ _ hblk1]; rfl
    have HB00 := Lib.hid (HB0.out.trans (hb00.mono HB0.out.size))
    clear hblk1 hb00
    go_wp2_with fail
    refine (HCR.out _ (HC.out.below HB00.out) (HCL.out.below HB00.out)).mono ?_
    rintro e w1 ⟨g0, g1, rfl, hne, hg0, hg1, ho0, ho1, hb1⟩
    have HB1 := Lib.hid (HB00.out.trans (hb1.mono HB00.out.size))
    have HOA := Lib.hid ho0
    have HOD := Lib.hid ho1
    clear ho0 ho1 hb1 x0 x1
    go_wp2
    go_loopw [7, 23] (fun s i wr => ∃ k : Nat, k ≤ A.length ∧ i = .int .i64 k ∧ wr.ownsRow w1.heap.size 3 1 s (zerosTo A 1 k).length (ints (zerosTo A 1 k)) ∧ Below w1.heap.size w1 wr) (fun _ i _ => A.length - (intOf i).toNat)
    case atStart => exact ⟨0, by omega, rfl, World.ownsRow_nil _ _ _ _, Below.refl _ _⟩
    case round =>
      obtain ⟨k, hk, rfl, hown, hb⟩ := hrel
      have HW := Lib.hid hown
      have HB := Lib.hid hb
      have hszr := hb.size
      have hz1 := zerosTo_le A 1 A.length
      have hz2 := zerosTo_le A 1 k
      have hlenr : (zerosTo A 1 k).length ≤ 20 := by omega
      clear hown hb hz1 hz2
      by_cases hlt : k < A.length
      · obtain ⟨g, off, hga, hg, hcc⟩ := (ownsRow_cellsAt HOA.out).open (by rw [ints_length]; omega)
        have y0 := (HB.out.cell (p := ⟨g, off + k, none⟩) hg).trans (hcc k _ (ints_at A k hlt))
        have hhit := zeros_hit (off := 1) hlt
        have hmiss := zeros_miss (off := 1) hlt
        generalize A[k] = x at y0 hhit hmiss
        first | subst hga | cases hga
        try rw [Nat.zero_add] at y0
        by_cases hx : x = 0
        · have hx0 : (x == 0) = true := by simp [hx]
          have HHIT := Lib.hid (hhit hx)
          clear hhit hmiss hcc hx
          go_wp2_with (at_builtin; refine wpList_app1 rfl (.tmp 30) (.tmp 33) 24 rfl w1.heap.size 3 _ 1 8 Tryz.elemInt _ _ _ _ _ _ rfl rfl rfl HW.out (by rfl) (by simp [Value.oneCell']) (by unfold maxLen; omega) (by omega) (by omega) ?_; intro g' cap w3 q1 q2 q3 q4 q5 q6)
          go_wp2
          go_roundw
          case rel =>
            refine ⟨k + 1, by omega, by go_num, ?_, HB.out.trans q2⟩
            rw [HHIT.out, ints_append]
            skip
            rw [List.length_append (bs := [_])]
            first | exact q1 | (rw [List.length_append] at q1 ⊢; exact q1) | simpa [ints, Nat.add_assoc] using q1
          case measure => simp [intOf]; omega
        · have hx0 : (x == 0) = false := by simp [hx]
          have HMISS := Lib.hid (hmiss hx)
          clear hhit hmiss hcc hx
          go_wp2
          go_roundw
          case rel => exact ⟨k + 1, by omega, by go_num, by rw [HMISS.out]; exact HW.out, HB.out⟩
          case measure => simp [intOf]; omega
      · obtain rfl : k = A.length := by omega
        go_wp2
        have HWX := Lib.hid HW.out
        have HBX := Lib.hid HB.out
        clear HW HB hlenr hszr
        go_loopw [7, 38] (fun s i wr => ∃ k : Nat, k ≤ D.length ∧ i = .int .i64 k ∧ wr.ownsRow w1.heap.size 3 1 s (zerosTo A 1 A.length ++ zerosTo D 7 k).length (ints (zerosTo A 1 A.length ++ zerosTo D 7 k)) ∧ Below w1.heap.size w1 wr) (fun _ i _ => D.length - (intOf i).toNat)
        case atStart => exact ⟨0, by omega, rfl, by simpa [zerosTo] using HWX.out, HBX.out⟩
        case round =>
          obtain ⟨k, hk, rfl, hown, hb⟩ := hrel
          have HW := Lib.hid hown
          have HB := Lib.hid hb
          have hszr := hb.size
          have hz1 := zerosTo_le A 1 A.length
          have hz2 := zerosTo_le D 7 k
          have hlenr : (zerosTo A 1 A.length ++ zerosTo D 7 k).length ≤ 20 := by rw [List.length_append]; omega
          clear hown hb hz1 hz2
          by_cases hlt : k < D.length
          · obtain ⟨g, off, hga, hg, hcc⟩ := (ownsRow_cellsAt HOD.out).open (by rw [ints_length]; omega)
            have y0 := (HB.out.cell (p := ⟨g, off + k, none⟩) hg).trans (hcc k _ (ints_at D k hlt))
            have hhit := zeros_hit (off := 7) hlt
            have hmiss := zeros_miss (off := 7) hlt
            generalize D[k] = x at y0 hhit hmiss
            first | subst hga | cases hga
            try rw [Nat.zero_add] at y0
            by_cases hx : x = 0
            · have hx0 : (x == 0) = true := by simp [hx]
              have HHIT := Lib.hid (hhit hx)
              clear hhit hmiss hcc hx
              go_wp2_with (at_builtin; refine wpList_app1 rfl (.tmp 45) (.tmp 49) 24 rfl w1.heap.size 3 _ 1 8 Tryz.elemInt _ _ _ _ _ _ rfl rfl rfl HW.out (by rfl) (by simp [Value.oneCell']) (by unfold maxLen; omega) (by omega) (by omega) ?_; intro g' cap w3 q1 q2 q3 q4 q5 q6)
              go_wp2
              go_roundw
              case rel =>
                refine ⟨k + 1, by omega, by go_num, ?_, HB.out.trans q2⟩
                rw [HHIT.out, ← List.append_assoc, ints_append]
                rw [show ((k : Int) + 7) = (k : Int) + 1 + 6 by omega]
                rw [List.length_append (bs := [_])]
                first | exact q1 | (rw [List.length_append] at q1 ⊢; exact q1) | simpa [ints, Nat.add_assoc] using q1
              case measure => simp [intOf]; omega
            · have hx0 : (x == 0) = false := by simp [hx]
              have HMISS := Lib.hid (hmiss hx)
              clear hhit hmiss hcc hx
              go_wp2
              go_roundw
              case rel => exact ⟨k + 1, by omega, by go_num, by rw [HMISS.out]; exact HW.out, HB.out⟩
              case measure => simp [intOf]; omega
          · obtain rfl : k = D.length := by omega
            go_wp2
            go_ret
            rw [HFL.out]
            obtain ⟨ad', c', rfl, _⟩ := ownsRow_cells HW.out
            exact ⟨ad', c', rfl, ownsRow_rebase HW.out HB1.out.size, HB1.out.trans (HB.out.mono HB1.out.size)⟩
  · have hfl : faultsL b xs ls = [] := by
      have ha : acrossL b xs ls = [] := if_neg hr
      have hd : downL b xs ls = [] := if_neg hr
      unfold faultsL
      rw [ha, hd]
      rfl
    rw [decide_eq_false hr] at hreg
    have HFL := Lib.hid hfl
    have HREG := Lib.hid hreg
    clear hfl hreg hr hb0 hblk0 hc hcl
    go_enter Tryz.func8, Tryz.ntmps8
    go_wp2_with fail
    refine (HREG.out _ (HC.out.below HB0.out)).mono ?_
    rintro e w1 ⟨rfl, hb1⟩
    go_wp2
    go_ret
    rw [HFL.out]
    exact ⟨none, 0, rfl, World.ownsRow_nil _ _ _ _, HB0.out.trans (hb1.mono HB0.out.size)⟩
end Go.Proofs.YtajmdgcnnipdoaaGreatDoor

/- CrossI: the walk of the program's CrossingsOf. -/
namespace Go.Proofs.YtajmdgcnnipdoaaGreatDoor
open Go.RowKit

set_option maxRecDepth 100000 in
set_option maxHeartbeats 1600000 in
theorem implCrossingsOf (b : Int) (ad al : Option Addr) (c cl : Nat) (xs ls : List Int) (w : World) (hn : xs.length ≤ 1048576) (hnl : ls.length ≤ 1048576) (hwl : ∀ x ∈ ls, (Lit.int .i64 x).wf = true) (hc : CellsAt w ad (ints xs)) (hcl : CellsAt w al (ints ls)) :
    Calls Tryz.prog 9 #[.agg #[.int .i64 b, .slice ad xs.length c], .slice al ls.length cl] w fun e w' => TwoRows w e w' (acrossL b xs ls) (downL b xs ls) := by
  have hreg := fun w (h : CellsAt w ad (ints xs)) => implReg b ad c xs w hn h
  have hb0 : Below w.heap.size w (w.alloc (.cells #[.int .i64 b, .slice ad xs.length c] 26)) := (Below.refl _ _).alloc (Nat.le_refl _) _
  have hblk0 : (w.alloc (.cells #[.int .i64 b, .slice ad xs.length c] 26)).heap[w.heap.size]? = some (.cells #[.int .i64 b, .slice ad xs.length c] 26 (0, 0)) := heap_alloc_new w _
  have HB0 := Lib.hid hb0
  have HBLK0 := Lib.hid hblk0
  have HC := Lib.hid hc
  have HCL := Lib.hid hcl
  have hl := ints_length xs
  by_cases hr : Reg b xs
  · have ha : acrossL b xs ls = cntL colX b xs ls (b.toNat - 1) ls.length := if_pos hr
    have hd : downL b xs ls = cntL colY b xs ls (xs.length - 1) ls.length := if_pos hr
    rw [decide_eq_true hr] at hreg
    obtain ⟨B, rfl, hB1, hB2⟩ := int_le_nat hr.1.1 hr.1.2
    obtain ⟨n0, hn0⟩ : ∃ n0, n0 = B - 1 := ⟨_, rfl⟩
    obtain ⟨n1, hn1⟩ : ∃ n1, n1 = xs.length - 1 := ⟨_, rfl⟩
    have hl1 := hr.2.1.1
    have hcr := fun w h1 h2 => implCrossings B n0 n1 ad al c cl xs ls w (by omega) (by omega) hr hnl hwl h1 h2
    rw [show ((B : Int)).toNat - 1 = n0 by rw [Int.toNat_natCast, hn0]] at ha
    rw [← hn1] at hd
    have HA := Lib.hid ha
    have HD := Lib.hid hd
    have HCR := Lib.hid hcr
    have HREG := Lib.hid hreg
    clear ha hd hcr hreg hr hn0 hn1 hb0 hblk0 hc hcl hwl
    go_enter Tryz.func9, Tryz.ntmps9
    go_wp2_with fail
    refine (HREG.out _ (HC.out.below HB0.out)).mono ?_
    rintro e w1 ⟨rfl, hb1⟩
    have hblk1 := (hb1.block w.heap.size (by simp)).trans HBLK0.out
    have x0 : w1.cell? ⟨w.heap.size, 0, none⟩ = some (.int .i64 B) := by rw [cell_of_row w1 _ 0 _ _ _ hblk1]; rfl
    have x1 : w1.cell? ⟨w.heap.size, 1, none⟩ = some (.slice ad xs.length c) := by rw [cell_of_row w1 _ 1 _ _ _ hblk1]; rfl
    have HB1 := Lib.hid (HB0.out.trans (hb1.mono HB0.out.size))
    have hsz1 := HB1.out.size
    clear hblk1 hb1
    go_wp2_with fail
    refine (HCR.out _ (HC.out.below HB1.out) (HCL.out.below HB1.out)).mono ?_
    rintro e w2 ⟨g0, g1, rfl, hne, hg0, hg1, ho0, ho1, hb2⟩
    have HO0 := Lib.hid ho0
    have HO1 := Lib.hid ho1
    have HB2 := Lib.hid (HB1.out.trans (hb2.mono HB1.out.size))
    clear ho0 ho1 hb2 x0 x1
    go_wp2
    go_ret2
    rw [HA.out, HD.out]
    have t := TwoRows.mk (w := w) (w' := w2) (a0 := some ⟨g0, 0, none⟩) (c0 := n0) (a1 := some ⟨g1, 0, none⟩) (c1 := n1) (b0 := g0) (b1 := g1) (r0 := cntL colX B xs ls n0 ls.length) (r1 := cntL colY B xs ls n1 ls.length) (by rw [cntL_length]; exact HO0.out) (by rw [cntL_length]; exact HO1.out) (by omega) (by omega) (by intro g hg h; simp only [Value.ownBlock, Option.some.injEq] at hg h; omega) HB2.out
    rw [cntL_length, cntL_length] at t
    exact t
  · have ha : acrossL b xs ls = [] := if_neg hr
    have hd : downL b xs ls = [] := if_neg hr
    rw [decide_eq_false hr] at hreg
    have HA := Lib.hid ha
    have HD := Lib.hid hd
    have HREG := Lib.hid hreg
    clear ha hd hreg hr hb0 hblk0 hc hcl
    go_enter Tryz.func9, Tryz.ntmps9
    go_wp2_with fail
    refine (HREG.out _ (HC.out.below HB0.out)).mono ?_
    rintro e w1 ⟨rfl, hb1⟩
    go_wp2
    go_ret2
    rw [HA.out, HD.out]
    exact TwoRows.mk (w := w) (r0 := []) (r1 := []) (World.ownsRow_nil _ _ _ _) (World.ownsRow_nil _ _ _ _) (Nat.le_refl _) (Nat.le_refl _) (by intro g hg; cases hg) (HB0.out.trans (hb1.mono HB0.out.size))
end Go.Proofs.YtajmdgcnnipdoaaGreatDoor
