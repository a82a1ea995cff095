/- AllPlc: parts laid together: PlaceI, PlaceS. -/
import Derived.Test.YtajmdgcnnipdoaaGreatDoorAllTurn
import Derived.Test.YtajmdgcnnipdoaaGreatDoorAllMoc
import Derived.Test.YtajmdgcnnipdoaaGreatDoorOrdered
import Derived.Deep.DrawnRows
import Derived.Test.YtajmdgcnnipdoaaGreatDoorAllPut0

/- PlaceI: the walk of the program's placements: a shape's masks in a valid region. -/
namespace Go.Proofs.YtajmdgcnnipdoaaGreatDoor
open Go.RowKit

attribute [local go_sem ↓] Go.wp_at_zero Go.wp_at_succ

set_option maxRecDepth 100000 in
set_option maxHeartbeats 6400000 in
theorem implPlac (B : Nat) (ad : Option Addr) (c : Nat) (xs : List Int) (sa : Option Addr) (cs : Nat) (l : List Cl) (w : World) (hr : Reg (B : Int) xs) (hn : l.length ≤ 1048576) (hc : CellsAt w ad (ints xs)) (hcl : CellsAt w sa (cls l)) :
    Calls Tryz.prog 123 #[.agg #[.int .i64 B, .slice ad xs.length c], .slice sa l.length cs] w fun e w' => ∃ ad' c', e = .returned (.slice ad' (placL B xs l).length c') ∧ w'.ownsRow w.heap.size 3 1 (.slice ad' (placL B xs l).length c') (placL B xs l).length (ints (placL B xs l)) ∧ Below w.heap.size w w' := by
  have hl6 : xs.length ≤ 6 := hr.2.1.2
  have hB6 : B ≤ 6 := by have := hr.1.2; omega
  have hB1 : 1 ≤ B := by have := hr.1.1; omega
  have hpl : placL B xs l = putAllG ltI (plTo B xs (orientL l) (orientL l).length) := rfl
  rw [hpl]
  have HSHP := Lib.hid (fun t (ht : t ∈ orientL l) => orientL_shape ht)
  have hrl := orientL_length l
  have HOR := Lib.hid (fun w' hc' => implOrient sa cs l w' hn hc')
  have HMOC := Lib.hid (fun a2 c2 s w' h1 h2 h3 h4 => implMoc B ad c xs a2 c2 s w' hr h1 h2 h3 h4)
  have HTL := Lib.hid (fun rows i => plTo_length (B := B) (xs := xs) hB6 hl6 rows i)
  have HGL := Lib.hid (fun t y => plGrid_length (B := B) hB6 xs t y)
  have HC := Lib.hid hc
  have HCL := Lib.hid hcl
  clear hc hcl hr hpl
  generalize orientL l = rows at HSHP hrl HOR ⊢
  obtain ⟨wA, hwA⟩ : ∃ wA, wA = w.alloc (.cells #[.int .i64 B, .slice ad xs.length c] 26) := ⟨_, rfl⟩
  have hbA : Below w.heap.size w wA := by rw [hwA]; exact (Below.refl _ _).alloc (Nat.le_refl _) _
  have hzA : wA.heap.size = w.heap.size + 1 := by rw [hwA]; simp
  have hblkA : wA.heap[w.heap.size]? = some (.cells #[.int .i64 B, .slice ad xs.length c] 26 (0, 0)) := by rw [hwA]; exact heap_alloc_new w _
  have HBA := Lib.hid hbA
  have HBLKA := Lib.hid hblkA
  have HWA := Lib.hid hwA
  have hszA := hbA.size
  clear hbA hblkA hwA
  go_enter Tryz.func123, Tryz.ntmps123
  go_wp2_with fail
  rw [← HWA.out]
  refine (HOR.out wA (HCL.out.below HBA.out)).mono ?_
  rintro e w1 ⟨a1, c1, rfl, hsp, hb1⟩
  have HB1 := Lib.hid (HBA.out.trans (hb1.mono hszA))
  have hsz1 := HB1.out.size
  have hw1 : w.heap.size < w1.heap.size := by have := hb1.size; omega
  have HBLK1 := Lib.hid ((hb1.block w.heap.size (by omega)).trans HBLKA.out)
  have HSP := Lib.hid hsp
  clear hsp hb1
  go_wp2
  go_loopw [5, 15] (fun s i wr => ∃ k : Nat, k ≤ rows.length ∧ i = .int .i64 k ∧ (∃ ad' c', s = .slice ad' (plTo B xs rows k).length c' ∧ wr.ownsRow w1.heap.size 3 1 (.slice ad' (plTo B xs rows k).length c') (plTo B xs rows k).length (ints (plTo B xs rows k))) ∧ Below w1.heap.size w1 wr) (fun _ i _ => rows.length - (intOf i).toNat)
  case atStart => exact ⟨0, by omega, rfl, ⟨none, 0, rfl, World.ownsRow_nil _ _ _ _⟩, Below.refl _ _⟩
  case round =>
    obtain ⟨i, hi, rfl, ⟨a2, c2, rfl, ho2⟩, hb2⟩ := hrel
    have HO2 := Lib.hid ho2
    have HB2 := Lib.hid hb2
    have hsz2 := hb2.size
    have hti := HTL.out rows i
    clear ho2
    by_cases hilt : i < rows.length
    · have hil : (i : Int) < (rows.length : Int) := by omega
      obtain ⟨g, off, ai, ci, rfl, hg, hcell, hrow⟩ := HSP.out.row hilt
      have hsh := HSHP.out _ (List.getElem_mem hilt)
      have hst : plTo B xs rows (i + 1) = plTo B xs rows i ++ plGrid B xs rows[i] xs.length := by rw [← getDG hilt]; rfl
      have HST := Lib.hid hst
      have HROW := Lib.hid hrow
      have HCELL := Lib.hid hcell
      clear hst hrow hcell
      generalize rows[i] = t at hsh HST HROW HCELL
      have ht8 := hsh.2.2
      have HTB := Lib.hid (show ∀ d ∈ t, (-1000 ≤ d.x ∧ d.x ≤ 1000) ∧ -1000 ≤ d.y ∧ d.y ≤ 1000 from fun d hd => by have := hsh.1.2 d hd; unfold OnB at this; omega)
      have HTIN := Lib.hid hsh.1.2
      generalize plTo B xs rows i = L at hti HO2 HST ⊢
      clear hsh
      have hcell0 := (HB2.out.cell (p := ⟨g, off + i, none⟩) (by simp; omega)).trans HCELL.out
      have hblk := (HB2.out.block w.heap.size (by omega)).trans HBLK1.out
      have y1 : wr.cell? ⟨w.heap.size, 1, none⟩ = some (.slice ad xs.length c) := by rw [cell_of_row wr _ 1 _ _ _ hblk]; rfl
      clear hblk
      go_wp2
      go_loopw [5, 22] (fun s i wr => ∃ y : Nat, y ≤ xs.length ∧ i = .int .i64 y ∧ (∃ ad' c', s = .slice ad' (L ++ plGrid B xs t y).length c' ∧ wr.ownsRow w1.heap.size 3 1 (.slice ad' (L ++ plGrid B xs t y).length c') (L ++ plGrid B xs t y).length (ints (L ++ plGrid B xs t y))) ∧ Below w1.heap.size w1 wr) (fun _ i _ => xs.length - (intOf i).toNat)
      case atStart => exact ⟨0, by omega, rfl, by rw [show L ++ plGrid B xs t 0 = L from List.append_nil _]; exact ⟨a2, c2, rfl, HO2.out⟩, HB2.out⟩
      case round =>
        obtain ⟨y, hy, rfl, ⟨a3, c3, rfl, ho3⟩, hb3⟩ := hrel
        have HO3 := Lib.hid ho3
        have HB3 := Lib.hid hb3
        have hsz3 := hb3.size
        have hgl := HGL.out t y
        clear ho3
        by_cases hyl : y < xs.length
        · have hyI : (y : Int) < (xs.length : Int) := by omega
          have hblk := (HB3.out.block w.heap.size (by omega)).trans HBLK1.out
          have y0 : wr.cell? ⟨w.heap.size, 0, none⟩ = some (.int .i64 B) := by rw [cell_of_row wr _ 0 _ _ _ hblk]; rfl
          have hst2 : plGrid B xs t (y + 1) = plGrid B xs t y ++ plRow B xs t y B := rfl
          have HST2 := Lib.hid hst2
          clear hst2 hblk hcell0 y1
          have hGl : (L ++ plGrid B xs t y).length ≤ 500 := by rw [List.length_append]; omega
          have HSUM := Lib.hid (show L ++ plGrid B xs t (y + 1) = (L ++ plGrid B xs t y) ++ plRow B xs t y B by rw [HST2.out, List.append_assoc])
          generalize L ++ plGrid B xs t y = G at HO3 hGl HSUM ⊢
          go_wp2
          go_loopw [5, 27] (fun s i wr => ∃ x : Nat, x ≤ B ∧ i = .int .i64 x ∧ (∃ ad' c', s = .slice ad' (G ++ plRow B xs t y x).length c' ∧ wr.ownsRow w1.heap.size 3 1 (.slice ad' (G ++ plRow B xs t y x).length c') (G ++ plRow B xs t y x).length (ints (G ++ plRow B xs t y x))) ∧ Below w1.heap.size w1 wr) (fun _ i _ => B - (intOf i).toNat)
          case atStart => exact ⟨0, by omega, rfl, by rw [show G ++ plRow B xs t y 0 = G from List.append_nil _]; exact ⟨a3, c3, rfl, HO3.out⟩, HB3.out⟩
          case round =>
            obtain ⟨x, hx, rfl, ⟨a4, c4, rfl, ho4⟩, hb4⟩ := hrel
            have HO4 := Lib.hid ho4
            have HB4 := Lib.hid hb4
            have hsz4 := hb4.size
            have hrl4 := plRow_length B xs t y x
            clear ho4
            by_cases hxl : x < B
            · have hxI : (x : Int) < (B : Int) := by omega
              have hblk := (HB4.out.block w.heap.size (by omega)).trans HBLK1.out
              have y0 : wr.cell? ⟨w.heap.size, 0, none⟩ = some (.int .i64 B) := by rw [cell_of_row wr _ 0 _ _ _ hblk]; rfl
              have y1 : wr.cell? ⟨w.heap.size, 1, none⟩ = some (.slice ad xs.length c) := by rw [cell_of_row wr _ 1 _ _ _ hblk]; rfl
              have hw : w.heap.size < wr.heap.size := by omega
              have HMV := Lib.hid (implMoved ai ci t (x : Int) (y : Int) wr.drew (by omega) HTB.out (by omega) (by omega) (HROW.out.below HB4.out.drew))
              have hPb : ∀ d ∈ plusL t (x : Int) (y : Int), (0 ≤ d.x ∧ d.x ≤ 50) ∧ 0 ≤ d.y ∧ d.y ≤ 50 := fun d hd => by
                unfold plusL at hd
                rw [List.mem_map] at hd
                obtain ⟨q, hq, rfl⟩ := hd
                have := HTIN.out q hq
                unfold OnB at this
                simp only
                omega
              have hPl : (plusL t (x : Int) (y : Int)).length ≤ 100 := by rw [plusL_length]; omega
              have hone : plOne B xs t y x = match mocS B xs (plusL t (x : Int) (y : Int)) 0 with
                | some m => [(m : Int)]
                | none => [] := rfl
              have HMO := Lib.hid (fun a5 c5 w' h3 h4 => HMOC.out a5 c5 (plusL t (x : Int) (y : Int)) w' hPl hPb h3 h4)
              have HONE := Lib.hid hone
              have HST3 := Lib.hid (show G ++ plRow B xs t y (x + 1) = (G ++ plRow B xs t y x) ++ plOne B xs t y x by rw [List.append_assoc]; rfl)
              have hR : (G ++ plRow B xs t y x).length ≤ 600 := by rw [List.length_append]; omega
              have HBX := Lib.hid hb4
              have HIAP := Lib.hid (fun v : Int => ints_append (G ++ plRow B xs t y x) [v])
              clear hblk hPb hPl hone hb4
              generalize G ++ plRow B xs t y x = R at HO4 HST3 hR HIAP ⊢
              generalize plusL t (x : Int) (y : Int) = P at HMV HMO HONE
              generalize plOne B xs t y x = O at HONE HST3
              cases hmoc : mocS B xs P 0 with
              | none =>
                rw [hmoc] at HONE HMO
                go_wp2
                go_region_held3 (fun w' => w'.cell? ⟨w.heap.size, 0, none⟩ = some (.int .i64 B) ∧ w'.cell? ⟨w.heap.size, 1, none⟩ = some (.slice ad xs.length c))
                  (first | go_keep | exact ⟨(hb5.cell (p := ⟨w.heap.size, 0, none⟩) hw).trans y0, (hb5.cell (p := ⟨w.heap.size, 1, none⟩) hw).trans y1⟩ | exact ⟨((hb5.trans (hb6.mono hb5.size)).cell (p := ⟨w.heap.size, 0, none⟩) hw).trans y0, ((hb5.trans (hb6.mono hb5.size)).cell (p := ⟨w.heap.size, 1, none⟩) hw).trans y1⟩)
                  (first | (go_at_call 151; refine HMV.out.mono ?_; rintro e w5 ⟨a5, c5, rfl, ho5, hb5⟩) | (go_at_call 150; refine (HMO.out a5 c5 _ (HC.out.below (HB1.out.trans ((HBX.out.drew.trans (hb5.mono hsz4)).mono hsz1))) (ownsRow_cellsAt ho5)).mono ?_; rintro e w6 ⟨rfl, hb6⟩))
                all_goals (
                  have hb7 : Below w1.heap.size w1 w6 := HBX.out.drew.trans ((hb5.trans (hb6.mono hb5.size)).mono hsz4)
                  have hO7 := ownsRow_far_below HO4.out ((Below.refl wr.heap.size wr).drew.trans (hb5.trans (hb6.mono hb5.size))) (Nat.le_refl _)
                  have HB7 := Lib.hid hb7
                  have HO7 := Lib.hid hO7
                  clear hb5 hb6 ho5 hb7 hO7
                  go_wp2
                  go_roundw
                  case rel =>
                    refine ⟨x + 1, by omega, by go_num, ?_, HB7.out⟩
                    rw [HST3.out, HONE.out, List.append_nil]
                    exact ⟨a4, c4, rfl, HO7.out⟩
                  case measure => simp [intOf]; omega)
              | some m =>
                rw [hmoc] at HONE HMO
                go_wp2
                go_region_held3 (fun w' => w'.cell? ⟨w.heap.size, 0, none⟩ = some (.int .i64 B) ∧ w'.cell? ⟨w.heap.size, 1, none⟩ = some (.slice ad xs.length c))
                  (first | go_keep | exact ⟨(hb5.cell (p := ⟨w.heap.size, 0, none⟩) hw).trans y0, (hb5.cell (p := ⟨w.heap.size, 1, none⟩) hw).trans y1⟩ | exact ⟨((hb5.trans (hb6.mono hb5.size)).cell (p := ⟨w.heap.size, 0, none⟩) hw).trans y0, ((hb5.trans (hb6.mono hb5.size)).cell (p := ⟨w.heap.size, 1, none⟩) hw).trans y1⟩)
                  (first | (go_at_call 151; refine HMV.out.mono ?_; rintro e w5 ⟨a5, c5, rfl, ho5, hb5⟩) | (go_at_call 150; refine (HMO.out a5 c5 _ (HC.out.below (HB1.out.trans ((HBX.out.drew.trans (hb5.mono hsz4)).mono hsz1))) (ownsRow_cellsAt ho5)).mono ?_; rintro e w6 ⟨rfl, hb6⟩))
                all_goals (
                  have hb7 : Below w1.heap.size w1 w6 := HBX.out.drew.trans ((hb5.trans (hb6.mono hb5.size)).mono hsz4)
                  have hO7 := ownsRow_far_below HO4.out ((Below.refl wr.heap.size wr).drew.trans (hb5.trans (hb6.mono hb5.size))) (Nat.le_refl _)
                  have hsz7 := hb7.size
                  have HB7 := Lib.hid hb7
                  have HO7 := Lib.hid hO7
                  clear hb5 hb6 ho5 hb7 hO7
                  go_wp2_with (at_builtin; refine wpList_app1 rfl (.tmp 40) (.tmp 42) 24 rfl w1.heap.size 3 _ 1 8 Tryz.elemInt _ R.length (ints R) _ _ _ rfl rfl rfl HO7.out (by rfl) (by simp [Value.oneCell']) (by unfold maxLen; omega) (by omega) (by omega) ?_; intro g8 c8 w8 q1 q2 q3 q4 q5 q6)
                  have HO8 := Lib.hid q1
                  have HB8 := Lib.hid (HB7.out.trans q2)
                  clear q1 q2
                  go_roundw
                  case rel =>
                    refine ⟨x + 1, by omega, by go_num, ?_, HB8.out⟩
                    rw [HST3.out, HONE.out]
                    refine ⟨some ⟨g8, 0, none⟩, c8, by rw [List.length_append]; rfl, ?_⟩
                    rw [List.length_append, HIAP.out]
                    exact HO8.out
                  case measure => simp [intOf]; omega)
            · obtain rfl : x = B := by omega
              go_wp2
              go_roundw
              case rel => exact ⟨y + 1, by omega, by go_num, by rw [HSUM.out]; exact ⟨a4, c4, rfl, HO4.out⟩, HB4.out⟩
              case measure => simp [intOf]; omega
        · obtain rfl : y = xs.length := by omega
          go_wp2
          go_roundw
          case rel => exact ⟨i + 1, by omega, by go_num, by rw [HST.out]; exact ⟨a3, c3, rfl, HO3.out⟩, HB3.out⟩
          case measure => simp [intOf]; omega
    · obtain rfl : i = rows.length := by omega
      have hod := ordered_any a2 c2 (plTo B xs rows rows.length) wr (by omega) (ownsRow_le_cap HO2.out).2 (ownsRow_cellsAt HO2.out)
      have HOD := Lib.hid hod
      clear hod
      generalize hLL : plTo B xs rows rows.length = L at HOD
      have HLL := Lib.hid hLL
      clear hLL
      go_wp2_with fail
      refine HOD.out.mono ?_
      rintro e w4 ⟨a4, c4, rfl, ho4, hb4⟩
      have HO4 := Lib.hid ho4
      have HB4 := Lib.hid (HB1.out.trans ((HB2.out.trans (hb4.mono hsz2)).mono hsz1))
      clear ho4 hb4
      go_wp2
      go_ret
      rw [HLL.out]
      exact ⟨a4, c4, rfl, ownsRow_rebase HO4.out (by omega), HB4.out⟩
end Go.Proofs.YtajmdgcnnipdoaaGreatDoor

/- PlaceS: the walk of the reference's PlacementsOf: a shape's masks in a valid region. -/
namespace Go.Proofs.YtajmdgcnnipdoaaGreatDoor
open Go.RowKit

attribute [local go_sem ↓] Go.wp_at_zero Go.wp_at_succ

set_option maxRecDepth 100000 in
set_option maxHeartbeats 6400000 in
theorem specPlac (B : Nat) (ad : Option Addr) (c : Nat) (xs : List Int) (sa : Option Addr) (cs : Nat) (l : List Cl) (w : World) (hr : Reg (B : Int) xs) (hn : l.length ≤ 1048576) (hc : CellsAt w ad (ints xs)) (hcl : CellsAt w sa (cls l)) :
    Calls Tryz.prog 115 #[.agg #[.int .i64 B, .slice ad xs.length c], .slice sa l.length cs] w fun e w' => ∃ ad' c', e = .returned (.slice ad' (placL B xs l).length c') ∧ w'.ownsRow w.heap.size 3 1 (.slice ad' (placL B xs l).length c') (placL B xs l).length (ints (placL B xs l)) ∧ Below w.heap.size w w' := by
  have hl6 : xs.length ≤ 6 := hr.2.1.2
  have hB6 : B ≤ 6 := by have := hr.1.2; omega
  have hB1 : 1 ≤ B := by have := hr.1.1; omega
  have hpl : placL B xs l = putAllG ltI (plTo B xs (orientL l) (orientL l).length) := rfl
  rw [hpl]
  have HSHP := Lib.hid (fun t (ht : t ∈ orientL l) => orientL_shape ht)
  have hrl := orientL_length l
  have HOR := Lib.hid (fun w' hc' => specOrient sa cs l w' hn hc')
  have hreg := fun w (h : CellsAt w ad (ints xs)) => specReg (B : Int) ad c xs w (by omega) h
  rw [decide_eq_true hr] at hreg
  have HREG := Lib.hid hreg
  clear hreg
  have HMOC := Lib.hid (fun a2 c2 s w' h1 h2 h3 h4 => specMoc B ad c xs a2 c2 s w' hr h1 h2 h3 h4)
  have HTL := Lib.hid (fun rows i => plTo_length (B := B) (xs := xs) hB6 hl6 rows i)
  have HGL := Lib.hid (fun t y => plGrid_length (B := B) hB6 xs t y)
  have HC := Lib.hid hc
  have HCL := Lib.hid hcl
  clear hc hcl hr hpl
  generalize orientL l = rows at HSHP hrl HOR ⊢
  obtain ⟨wA, hwA⟩ : ∃ wA, wA = (w.alloc (.cells #[.int .i64 B, .slice ad xs.length c] 26)).alloc (.cells #[] 3) := ⟨_, rfl⟩
  have hbA : Below w.heap.size w wA := by rw [hwA]; exact ((Below.refl _ _).alloc (Nat.le_refl _) _).alloc (by simp) _
  have hzA : wA.heap.size = w.heap.size + 2 := by rw [hwA]; simp
  have hblkA : wA.heap[w.heap.size]? = some (.cells #[.int .i64 B, .slice ad xs.length c] 26 (0, 0)) := by
    rw [hwA, Below.heap_alloc _ _ _ (by simp)]
    exact heap_alloc_new w _
  have hoA : wA.ownsRow (w.heap.size + 1) 3 1 (.slice (some ⟨w.heap.size + 1, 0, none⟩) 0 0) 0 [] := by
    have := ownsRow_empty (w.alloc (.cells #[.int .i64 B, .slice ad xs.length c] 26)) 3 1
    have hs : (w.alloc (.cells #[.int .i64 B, .slice ad xs.length c] 26)).heap.size = w.heap.size + 1 := by simp
    rw [hs] at this
    rw [hwA]
    exact this
  have HBA := Lib.hid hbA
  have HBLKA := Lib.hid hblkA
  have HWA := Lib.hid hwA
  have HOA := Lib.hid hoA
  have hszA := hbA.size
  clear hbA hblkA hwA hoA
  go_enter Tryz.func115, Tryz.ntmps115
  go_wp2_with fail
  rw [← HWA.out]
  refine (HOR.out wA (HCL.out.below HBA.out)).mono ?_
  rintro e w1 ⟨a1, c1, rfl, hsp, hb1⟩
  have HB1 := Lib.hid (HBA.out.trans (hb1.mono hszA))
  have hsz1 := HB1.out.size
  have hw1 : w.heap.size < w1.heap.size := by have := hb1.size; omega
  have HBLK1 := Lib.hid ((hb1.block w.heap.size (by omega)).trans HBLKA.out)
  have HO1 := Lib.hid (ownsRow_rebase (ownsRow_far_below HOA.out hb1 (Nat.le_refl _)) (Nat.le_succ w.heap.size))
  have HSP := Lib.hid hsp
  clear hsp hb1
  go_wp2
  go_loopw [5, 7] (fun s i wr => ∃ k : Nat, k ≤ rows.length ∧ i = .int .i64 k ∧ (∃ ad' c', s = .slice ad' (putAllG ltI (plTo B xs rows k)).length c' ∧ wr.ownsRow w.heap.size 3 1 (.slice ad' (putAllG ltI (plTo B xs rows k)).length c') (putAllG ltI (plTo B xs rows k)).length (ints (putAllG ltI (plTo B xs rows k)))) ∧ Below w1.heap.size w1 wr) (fun _ i _ => rows.length - (intOf i).toNat)
  case atStart => exact ⟨0, by omega, rfl, ⟨_, _, rfl, HO1.out⟩, Below.refl _ _⟩
  case round =>
    obtain ⟨i, hi, rfl, ⟨a2, c2, rfl, ho2⟩, hb2⟩ := hrel
    have HO2 := Lib.hid ho2
    have HB2 := Lib.hid hb2
    have hsz2 := hb2.size
    have hti := HTL.out rows i
    clear ho2
    by_cases hilt : i < rows.length
    · have hil : (i : Int) < (rows.length : Int) := by omega
      obtain ⟨g, off, ai, ci, rfl, hg, hcell, hrow⟩ := HSP.out.row hilt
      have hsh := HSHP.out _ (List.getElem_mem hilt)
      have hst : plTo B xs rows (i + 1) = plTo B xs rows i ++ plGrid B xs rows[i] xs.length := by rw [← getDG hilt]; rfl
      have HST := Lib.hid hst
      have HROW := Lib.hid hrow
      have HCELL := Lib.hid hcell
      clear hst hrow hcell
      generalize rows[i] = t at hsh HST HROW HCELL
      have ht8 := hsh.2.2
      have HTB := Lib.hid (show ∀ d ∈ t, (-1000 ≤ d.x ∧ d.x ≤ 1000) ∧ -1000 ≤ d.y ∧ d.y ≤ 1000 from fun d hd => by have := hsh.1.2 d hd; unfold OnB at this; omega)
      have HTIN := Lib.hid hsh.1.2
      generalize plTo B xs rows i = L at hti HO2 HST ⊢
      clear hsh
      have hblk := (HB2.out.block w.heap.size (by omega)).trans HBLK1.out
      have y0 : wr.cell? ⟨w.heap.size, 0, none⟩ = some (.int .i64 B) := by rw [cell_of_row wr _ 0 _ _ _ hblk]; rfl
      have y1 : wr.cell? ⟨w.heap.size, 1, none⟩ = some (.slice ad xs.length c) := by rw [cell_of_row wr _ 1 _ _ _ hblk]; rfl
      clear hblk
      go_wp2_with fail
      refine (HREG.out wr (HC.out.below (HB1.out.trans (HB2.out.mono hsz1)))).mono ?_
      rintro e wq ⟨rfl, hbq⟩
      have HBQ := Lib.hid (HB2.out.trans (hbq.mono hsz2))
      have HOQ := Lib.hid (ownsRow_far_below HO2.out hbq (Nat.le_refl _))
      clear hbq y0 y1
      go_wp2
      go_loopw [5, 8] (fun s i wr => ∃ y : Nat, y ≤ xs.length ∧ i = .int .i64 y ∧ (∃ ad' c', s = .slice ad' (putAllG ltI (L ++ plGrid B xs t y)).length c' ∧ wr.ownsRow w.heap.size 3 1 (.slice ad' (putAllG ltI (L ++ plGrid B xs t y)).length c') (putAllG ltI (L ++ plGrid B xs t y)).length (ints (putAllG ltI (L ++ plGrid B xs t y)))) ∧ Below w1.heap.size w1 wr) (fun _ i _ => xs.length - (intOf i).toNat)
      case atStart => exact ⟨0, by omega, rfl, by rw [show L ++ plGrid B xs t 0 = L from List.append_nil _]; exact ⟨a2, c2, rfl, HOQ.out⟩, HBQ.out⟩
      case round =>
        obtain ⟨y, hy, rfl, ⟨a3, c3, rfl, ho3⟩, hb3⟩ := hrel
        have HO3 := Lib.hid ho3
        have HB3 := Lib.hid hb3
        have hsz3 := hb3.size
        have hgl := HGL.out t y
        clear ho3
        have hblk := (HB3.out.block w.heap.size (by omega)).trans HBLK1.out
        have y1 : wr.cell? ⟨w.heap.size, 1, none⟩ = some (.slice ad xs.length c) := by rw [cell_of_row wr _ 1 _ _ _ hblk]; rfl
        by_cases hyl : y < xs.length
        · have hyI : (y : Int) < (xs.length : Int) := by omega
          have y0 : wr.cell? ⟨w.heap.size, 0, none⟩ = some (.int .i64 B) := by rw [cell_of_row wr _ 0 _ _ _ hblk]; rfl
          have hst2 : plGrid B xs t (y + 1) = plGrid B xs t y ++ plRow B xs t y B := rfl
          have HST2 := Lib.hid hst2
          clear hst2 hblk
          have hGl : (L ++ plGrid B xs t y).length ≤ 500 := by rw [List.length_append]; omega
          have HSUM := Lib.hid (show L ++ plGrid B xs t (y + 1) = (L ++ plGrid B xs t y) ++ plRow B xs t y B by rw [HST2.out, List.append_assoc])
          generalize L ++ plGrid B xs t y = G at HO3 hGl HSUM ⊢
          go_wp2
          go_loopw [5, 9] (fun s i wr => ∃ x : Nat, x ≤ B ∧ i = .int .i64 x ∧ (∃ ad' c', s = .slice ad' (putAllG ltI (G ++ plRow B xs t y x)).length c' ∧ wr.ownsRow w.heap.size 3 1 (.slice ad' (putAllG ltI (G ++ plRow B xs t y x)).length c') (putAllG ltI (G ++ plRow B xs t y x)).length (ints (putAllG ltI (G ++ plRow B xs t y x)))) ∧ Below w1.heap.size w1 wr) (fun _ i _ => B - (intOf i).toNat)
          case atStart => exact ⟨0, by omega, rfl, by rw [show G ++ plRow B xs t y 0 = G from List.append_nil _]; exact ⟨a3, c3, rfl, HO3.out⟩, HB3.out⟩
          case round =>
            obtain ⟨x, hx, rfl, ⟨a4, c4, rfl, ho4⟩, hb4⟩ := hrel
            have HO4 := Lib.hid ho4
            have HB4 := Lib.hid hb4
            have hsz4 := hb4.size
            have hrl4 := plRow_length B xs t y x
            clear ho4
            have hblk := (HB4.out.block w.heap.size (by omega)).trans HBLK1.out
            have y0 : wr.cell? ⟨w.heap.size, 0, none⟩ = some (.int .i64 B) := by rw [cell_of_row wr _ 0 _ _ _ hblk]; rfl
            by_cases hxl : x < B
            · have hxI : (x : Int) < (B : Int) := by omega
              have y1 : wr.cell? ⟨w.heap.size, 1, none⟩ = some (.slice ad xs.length c) := by rw [cell_of_row wr _ 1 _ _ _ hblk]; rfl
              have hPb : ∀ d ∈ plusL t (x : Int) (y : Int), (0 ≤ d.x ∧ d.x ≤ 50) ∧ 0 ≤ d.y ∧ d.y ≤ 50 := fun d hd => by
                unfold plusL at hd
                rw [List.mem_map] at hd
                obtain ⟨q, hq, rfl⟩ := hd
                have := HTIN.out q hq
                unfold OnB at this
                simp only
                omega
              have hPl : (plusL t (x : Int) (y : Int)).length ≤ 100 := by rw [plusL_length]; omega
              have hone : plOne B xs t y x = match mocS B xs (plusL t (x : Int) (y : Int)) 0 with
                | some m => [(m : Int)]
                | none => [] := rfl
              have HMO := Lib.hid (fun a5 c5 w' h3 h4 => HMOC.out a5 c5 (plusL t (x : Int) (y : Int)) w' hPl hPb h3 h4)
              have HONE := Lib.hid hone
              have HST3 := Lib.hid (show G ++ plRow B xs t y (x + 1) = (G ++ plRow B xs t y x) ++ plOne B xs t y x by rw [List.append_assoc]; rfl)
              have hR : (putAllG ltI (G ++ plRow B xs t y x)).length ≤ 600 := by have := putAllG_length (lt := ltI) (G ++ plRow B xs t y x); rw [List.length_append] at this; omega
              have HCO := Lib.hid (HROW.out.below HB4.out)
              have HCE := Lib.hid ((HB4.out.cell (p := ⟨g, off + i, none⟩) (by simp; omega)).trans HCELL.out)
              have HPLEN := Lib.hid (plusL_length t (x : Int) (y : Int))
              have hx6 : x ≤ 6 := by omega
              have hy6 : y ≤ 6 := by omega
              have HBX := Lib.hid hb4
              obtain ⟨wo, rfl⟩ : ∃ wo, wo = wr := ⟨_, rfl⟩
              obtain ⟨wm, hwm⟩ : ∃ wm, wm = wo.alloc (.cells #[] 91) := ⟨_, rfl⟩
              have hbm : Below wo.heap.size wo wm := by rw [hwm]; exact (Below.refl _ _).alloc (Nat.le_refl _) _
              have hom : wm.ownsRow wo.heap.size 91 2 (.slice (some ⟨wo.heap.size, 0, none⟩) 0 0) 0 [] := by rw [hwm]; exact ownsRow_empty _ _ _
              have HBM := Lib.hid hbm
              have HOM := Lib.hid hom
              have HWM := Lib.hid hwm
              clear hblk hPb hPl hone hb4 hbm hom hwm
              generalize G ++ plRow B xs t y x = R at HO4 HST3 hR ⊢
              generalize plOne B xs t y x = O at HONE HST3
              go_wp2
              rw [← HWM.out]
              go_loopw [10, 11] (fun s i wr => ∃ k : Nat, k ≤ t.length ∧ i = .int .i64 k ∧ wr.ownsRow wo.heap.size 91 2 s k (cls (plusL (t.take k) (x : Int) (y : Int))) ∧ Below wo.heap.size wo wr) (fun _ i _ => t.length - (intOf i).toNat)
              case atStart => exact ⟨0, by omega, rfl, by simpa [plusL, cls] using HOM.out, HBM.out⟩
              case round =>
                obtain ⟨k, hk, rfl, hom, hbm⟩ := hrel
                have HOm := Lib.hid hom
                have HBm := Lib.hid hbm
                have hszm := hbm.size
                have hce := (hbm.cell (p := ⟨g, off + i, none⟩) (by simp; omega)).trans HCE.out
                have hgm : g < wo.heap.size := by omega
                clear hom hbm
                by_cases hlt : k < t.length
                · obtain ⟨gt, ot, rfl, hgt, hcc⟩ := cl_open HCO.out (by omega)
                  obtain ⟨v0, v1⟩ := hcc k hlt
                  have x0 := (HBm.out.cell (p := ⟨gt, ot + k * 2, none⟩) hgt).trans v0
                  have x1 := (HBm.out.cell (p := ⟨gt, ot + k * 2 + 1, none⟩) hgt).trans v1
                  have hon := HTIN.out _ (List.getElem_mem hlt)
                  have HPT := Lib.hid (plusL_take t (x : Int) (y : Int) k hlt)
                  obtain ⟨X, Y, hd, hX7, hY7⟩ : ∃ X Y : Nat, t[k] = ⟨(X : Int), (Y : Int)⟩ ∧ X ≤ 7 ∧ Y ≤ 7 := by
                    unfold OnB at hon
                    refine ⟨t[k].x.toNat, t[k].y.toNat, ?_, by omega, by omega⟩
                    rw [Int.toNat_of_nonneg hon.1.1, Int.toNat_of_nonneg hon.2.1]
                  rw [hd] at x0 x1 HPT
                  simp only at x0 x1 HPT
                  obtain ⟨Xx, hXx⟩ : ∃ Xx, Xx = X + x := ⟨_, rfl⟩
                  obtain ⟨Yy, hYy⟩ : ∃ Yy, Yy = Y + y := ⟨_, rfl⟩
                  have e1 : (X : Int) + (x : Int) = (Xx : Int) := by rw [hXx]; norm_cast
                  have e2 : (Y : Int) + (y : Int) = (Yy : Int) := by rw [hYy]; norm_cast
                  have t1 : IntKind.i64.wrap (Xx : Int) = (Xx : Int) := IntWalk.i64_in _ (by omega)
                  have t2 : IntKind.i64.wrap (Yy : Int) = (Yy : Int) := IntWalk.i64_in _ (by omega)
                  rw [e1, e2] at HPT
                  have i1 : (k : Int) < (t.length : Int) := by omega
                  have hgtm : gt < wr.heap.size := by omega
                  have hgm2 : g < wr.heap.size := by omega
                  clear v0 v1 hcc hon hd hXx hYy
                  go_wp2
                  go_region_held3 (fun w' => w'.cell? ⟨g, off + i, none⟩ = some (.slice (some ⟨gt, ot, none⟩) t.length ci) ∧ w'.cell? ⟨gt, ot + k * 2, none⟩ = some (.int .i64 X) ∧ w'.cell? ⟨gt, ot + k * 2 + 1, none⟩ = some (.int .i64 Y))
                    (first | go_keep | exact ⟨(q2b.cell (p := ⟨g, off + i, none⟩) hgm).trans hce, (q2b.cell (p := ⟨gt, ot + k * 2, none⟩) (by simp; omega)).trans x0, (q2b.cell (p := ⟨gt, ot + k * 2 + 1, none⟩) (by simp; omega)).trans x1⟩ | trivial)
                    ((refine step_app1 (by rfl) (.tmp 50) (.tmp 72) 40 (by rfl) wo.heap.size 91 _ 2 16 Tryz.elemCl _ k _ _ _ _ (by rfl) (by rfl) rfl HOm.out (by rfl) (by simp [Value.oneCell']) (by unfold maxLen; omega) (by omega) (by omega) ?_; intro g' cap w3 q1 q2 q3 q4 q5 q6; have q2b := q2))
                  all_goals (
                    go_wp2
                    go_roundw
                    case rel =>
                      refine ⟨k + 1, by omega, by go_num, ?_, HBm.out.trans q2⟩
                      rw [HPT.out, cls_append]
                      exact q1
                    case measure => simp [intOf]; omega)
                · obtain rfl : k = t.length := by omega
                  rw [List.take_length] at HOm
                  obtain ⟨a5, c5, rfl, _⟩ := ownsRow_cells HOm.out
                  have hblk := (HBm.out.block w.heap.size (by omega)).trans ((HBX.out.block w.heap.size (by omega)).trans HBLK1.out)
                  have z0 : wr.cell? ⟨w.heap.size, 0, none⟩ = some (.int .i64 B) := by rw [cell_of_row wr _ 0 _ _ _ hblk]; rfl
                  have z1 : wr.cell? ⟨w.heap.size, 1, none⟩ = some (.slice ad xs.length c) := by rw [cell_of_row wr _ 1 _ _ _ hblk]; rfl
                  have hmo := HMO.out a5 c5 wr (HC.out.below (HB1.out.trans ((HBX.out.trans (HBm.out.mono hsz4)).mono hsz1))) (ownsRow_cellsAt HOm.out)
                  rw [HPLEN.out] at hmo
                  clear hblk
                  cases hmoc : mocS B xs (plusL t (x : Int) (y : Int)) 0 with
                  | none =>
                    rw [hmoc] at hmo
                    have hone2 := HONE.out
                    rw [hmoc] at hone2
                    have HON := Lib.hid hone2
                    have HMC := Lib.hid hmo
                    clear hmo hone2
                    go_wp2_with fail
                    refine HMC.out.mono ?_
                    rintro e w6 ⟨rfl, hb6⟩
                    have hb7 : Below wo.heap.size wo w6 := HBm.out.trans (hb6.mono hszm)
                    have HB7 := Lib.hid (HBX.out.trans (hb7.mono hsz4))
                    have HO7 := Lib.hid (ownsRow_far_below HO4.out hb7 (Nat.le_refl _))
                    clear hb6 hb7
                    go_wp2
                    go_roundw
                    case rel =>
                      refine ⟨x + 1, by omega, by go_num, ?_, HB7.out⟩
                      rw [HST3.out, HON.out, List.append_nil]
                      exact ⟨a4, c4, rfl, HO7.out⟩
                    case measure => simp [intOf]; omega
                  | some m =>
                    rw [hmoc] at hmo
                    have hone2 := HONE.out
                    rw [hmoc] at hone2
                    have HON := Lib.hid hone2
                    have HMC := Lib.hid hmo
                    clear hmo hone2
                    go_wp2_with fail
                    refine HMC.out.mono ?_
                    rintro e w6 ⟨rfl, hb6⟩
                    have hb7 : Below wo.heap.size wo w6 := HBm.out.trans (hb6.mono hszm)
                    have hsz7 := hb7.size
                    have HB7 := Lib.hid (HBX.out.trans (hb7.mono hsz4))
                    have hsz71 := HB7.out.size
                    have hpu := l7Put_any w.heap.size a4 c4 (putAllG ltI R) (m : Int) w6 (by omega) (by omega) (ownsRow_far_below HO4.out hb7 (Nat.le_refl _))
                    rw [← putAllG_snoc] at hpu
                    have HPU := Lib.hid hpu
                    clear hb6 hb7 hpu
                    generalize (putAllG ltI R).length = nR at HPU hR ⊢
                    go_wp2_with fail
                    refine HPU.out.mono ?_
                    rintro e w8 ⟨a8, c8, rfl, ho8, hb8⟩
                    have HO8 := Lib.hid ho8
                    have HB8 := Lib.hid (HB7.out.trans (hb8.mono hsz71))
                    clear ho8 hb8
                    go_wp2
                    go_roundw
                    case rel =>
                      refine ⟨x + 1, by omega, by go_num, ?_, HB8.out⟩
                      rw [HST3.out, HON.out]
                      exact ⟨a8, c8, rfl, HO8.out⟩
                    case measure => simp [intOf]; omega
            · obtain rfl : x = B := by omega
              go_wp2
              go_roundw
              case rel => exact ⟨y + 1, by omega, by go_num, by rw [HSUM.out]; exact ⟨a4, c4, rfl, HO4.out⟩, HB4.out⟩
              case measure => simp [intOf]; omega
        · obtain rfl : y = xs.length := by omega
          go_wp2
          go_roundw
          case rel => exact ⟨i + 1, by omega, by go_num, by rw [HST.out]; exact ⟨a3, c3, rfl, HO3.out⟩, HB3.out⟩
          case measure => simp [intOf]; omega
    · obtain rfl : i = rows.length := by omega
      go_wp2
      go_ret
      exact ⟨a2, c2, rfl, HO2.out, HB1.out.trans (HB2.out.mono hsz1)⟩
end Go.Proofs.YtajmdgcnnipdoaaGreatDoor
