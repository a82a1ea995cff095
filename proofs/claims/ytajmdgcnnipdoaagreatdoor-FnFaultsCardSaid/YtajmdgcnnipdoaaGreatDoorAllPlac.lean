/- AllPlac: parts laid together: AllP, AllPNo, DrawR6c. -/
import Derived.Test.YtajmdgcnnipdoaaGreatDoorAllPlc
import Derived.Test.YtajmdgcnnipdoaaGreatDoorAllShp
import Derived.Deep.DrawnRows
import Derived.Test.YtajmdgcnnipdoaaGreatDoorAllD5
import Derived.WalkArith

/- AllP: the walks of AllPlacements, the reference's and the program's: the masks of valid pieces in a valid region. -/
namespace Go.Proofs.YtajmdgcnnipdoaaGreatDoor
open Go.RowKit

attribute [local go_sem ↓] Go.wp_at_zero Go.wp_at_succ

set_option maxRecDepth 100000 in
set_option maxHeartbeats 3200000 in
theorem specAll (B : Nat) (ad : Option Addr) (c : Nat) (xs : List Int) (sa : Option Addr) (cs : Nat) (ps : List (List Cl)) (w : World) (hr : Reg (B : Int) xs) (hp : Pcs ps) (hc : CellsAt w ad (ints xs)) (hcp : ShpsAt w sa ps) :
    Calls Tryz.prog 67 #[.agg #[.int .i64 B, .slice ad xs.length c], .slice sa ps.length cs] w fun e w' => ∃ ad' c', e = .returned (.slice ad' (allL B xs ps).length c') ∧ w'.ownsRow w.heap.size 3 1 (.slice ad' (allL B xs ps).length c') (allL B xs ps).length (ints (allL B xs ps)) ∧ Below w.heap.size w w' := by
  have hal : allL B xs ps = putAllG ltI (allTo B xs ps ps.length) := rfl
  rw [hal]
  have hp5 := hp.2.2
  have hpl : ∀ p ∈ ps, p.length ≤ 1048576 := fun p h => by have := (hp.1 p h).2.2; omega
  have hpc := fun w' h => specPieces sa cs ps w' (by omega) hpl h
  rw [decide_eq_true hp] at hpc
  have HPC := Lib.hid hpc
  have HPL := Lib.hid hpl
  have HPLA := Lib.hid (fun a2 c2 p w' hn h1 h2 => specPlac B ad c xs a2 c2 p w' hr hn h1 h2)
  have HLEN := Lib.hid (fun p => placL_length hr p)
  have HTL := Lib.hid (fun i => allTo_length hr ps i)
  have HC := Lib.hid hc
  have HCP := Lib.hid hcp
  clear hc hcp hr hal hp hpl hpc
  obtain ⟨wA, hwA⟩ : ∃ wA, wA = (w.alloc (.cells #[.int .i64 B, .slice ad xs.length c] 26)).alloc (.cells #[] 3) := ⟨_, rfl⟩
  have hbA : Below w.heap.size w wA := by rw [hwA]; exact ((Below.refl _ _).alloc (Nat.le_refl _) _).alloc (by simp) _
  have hzA : wA.heap.size = w.heap.size + 2 := by rw [hwA]; simp
  have hblkA : wA.heap[w.heap.size]? = some (.cells #[.int .i64 B, .slice ad xs.length c] 26 (0, 0)) := by
    rw [hwA, Below.heap_alloc _ _ _ (by simp)]
    exact heap_alloc_new w _
  have hoA : wA.ownsRow (w.heap.size + 1) 3 1 (.slice (some ⟨w.heap.size + 1, 0, none⟩) 0 0) 0 [] := by
    have := ownsRow_empty (w.alloc (.cells #[.int .i64 B, .slice ad xs.length c] 26)) 3 1
    have hs : (w.alloc (.cells #[.int .i64 B, .slice ad xs.length c] 26)).heap.size = w.heap.size + 1 := by simp
    rw [hs] at this
    rw [hwA]
    exact this
  have HBA := Lib.hid hbA
  have HBLKA := Lib.hid hblkA
  have HWA := Lib.hid hwA
  have HOA := Lib.hid (ownsRow_rebase hoA (Nat.le_succ w.heap.size))
  have hszA := hbA.size
  clear hbA hblkA hwA hoA
  go_enter Tryz.func67, Tryz.ntmps67
  go_wp2
  rw [← HWA.out]
  go_loopw [5, 6] (fun s i wr => ∃ k : Nat, k ≤ ps.length ∧ i = .int .i64 k ∧ (∃ ad' c', s = .slice ad' (putAllG ltI (allTo B xs ps k)).length c' ∧ wr.ownsRow w.heap.size 3 1 (.slice ad' (putAllG ltI (allTo B xs ps k)).length c') (putAllG ltI (allTo B xs ps k)).length (ints (putAllG ltI (allTo B xs ps k)))) ∧ Below wA.heap.size wA wr) (fun _ i _ => ps.length - (intOf i).toNat)
  case atStart => exact ⟨0, by omega, rfl, ⟨_, _, rfl, HOA.out⟩, Below.refl _ _⟩
  case round =>
    obtain ⟨i, hi, rfl, ⟨a2, c2, rfl, ho2⟩, hb2⟩ := hrel
    have HO2 := Lib.hid ho2
    have HB2 := Lib.hid hb2
    have hsz2 := hb2.size
    have hti := HTL.out i
    clear ho2 hb2
    by_cases hilt : i < ps.length
    · have hil : (i : Int) < (ps.length : Int) := by omega
      obtain ⟨g, off, ai, ci, rfl, hg, hcell, hrow⟩ := HCP.out.row hilt
      have hst : allTo B xs ps (i + 1) = allTo B xs ps i ++ placL B xs ps[i] := by rw [← getDG hilt]; rfl
      have hpl := HPL.out _ (List.getElem_mem hilt)
      have HST := Lib.hid hst
      have HROW := Lib.hid hrow
      have HCELL := Lib.hid hcell
      clear hst hrow hcell
      generalize ps[i] = p at hpl HST HROW HCELL
      have hlp := HLEN.out p
      generalize allTo B xs ps i = L at hti HO2 HST ⊢
      go_wp2_with fail
      refine (HPC.out wr (HCP.out.below (HBA.out.trans (HB2.out.mono hszA)))).mono ?_
      rintro e w3 ⟨rfl, hb3⟩
      have HB3 := Lib.hid (HB2.out.trans (hb3.mono hsz2))
      have HO3 := Lib.hid (ownsRow_far_below HO2.out hb3 (Nat.le_refl _))
      have hsz3 := HB3.out.size
      have hblk := (HB3.out.block w.heap.size (by omega)).trans HBLKA.out
      have y0 : w3.cell? ⟨w.heap.size, 0, none⟩ = some (.int .i64 B) := by rw [cell_of_row w3 _ 0 _ _ _ hblk]; rfl
      have y1 : w3.cell? ⟨w.heap.size, 1, none⟩ = some (.slice ad xs.length c) := by rw [cell_of_row w3 _ 1 _ _ _ hblk]; rfl
      have HBW := Lib.hid (HBA.out.trans (HB3.out.mono hszA))
      have x0 := (HBW.out.cell (p := ⟨g, off + i, none⟩) hg).trans HCELL.out
      clear hb3 hblk
      go_wp2
      go_still_tail 5, (by kernel_rfl)
      go_wp2_with fail
      refine (HPLA.out ai ci p w3.drew hpl (HC.out.below HBW.out.drew) (HROW.out.below HBW.out.drew)).mono ?_
      rintro e w4 ⟨a4, c4, rfl, ho4, hb4⟩
      have hb4r : Below w3.heap.size w3 w4 := (Below.refl _ _).drew.trans (hb4.mono (Nat.le_refl _))
      have HO4 := Lib.hid (ownsRow_cellsAt ho4)
      have HB4 := Lib.hid (HB3.out.trans (hb4r.mono hsz3))
      have HOO := Lib.hid (ownsRow_far_below HO3.out hb4r (Nat.le_refl _))
      have hsz4 := HB4.out.size
      clear ho4 hb4 hb4r y0 y1 x0
      generalize placL B xs p = Q at HO4 HST hlp ⊢
      go_wp2
      go_loopw [5, 8] (fun s i wr => ∃ k : Nat, k ≤ Q.length ∧ i = .int .i64 k ∧ (∃ ad' c', s = .slice ad' (putAllG ltI (L ++ Q.take k)).length c' ∧ wr.ownsRow w.heap.size 3 1 (.slice ad' (putAllG ltI (L ++ Q.take k)).length c') (putAllG ltI (L ++ Q.take k)).length (ints (putAllG ltI (L ++ Q.take k)))) ∧ Below w4.heap.size w4 wr) (fun _ i _ => Q.length - (intOf i).toNat)
      case atStart => exact ⟨0, by omega, rfl, by rw [List.take_zero, List.append_nil]; exact ⟨a2, c2, rfl, HOO.out⟩, Below.refl _ _⟩
      case round =>
        obtain ⟨k, hk, rfl, ⟨a5, c5, rfl, ho5⟩, hb5⟩ := hrel
        have HO5 := Lib.hid ho5
        have HB5 := Lib.hid hb5
        have hsz5 := hb5.size
        clear ho5 hb5
        by_cases hlt : k < Q.length
        · have hkl : (k : Int) < (Q.length : Int) := by omega
          obtain ⟨gq, oq, rfl, hgq, hcq⟩ := HO4.out.open (by rw [ints_length]; omega)
          have z0 := (HB5.out.cell (p := ⟨gq, oq + k, none⟩) hgq).trans (hcq k _ (ints_at Q k hlt))
          have htk := List.take_succ_eq_append_getElem hlt
          have hlen := putAllG_length (lt := ltI) (L ++ Q.take k)
          rw [List.length_append, List.length_take] at hlen
          clear hcq
          generalize Q[k] = v at z0 htk
          have hpu := l7Put_any w.heap.size a5 c5 (putAllG ltI (L ++ Q.take k)) v wr (by omega) (by omega) HO5.out
          rw [← putAllG_snoc, List.append_assoc, ← htk] at hpu
          have HPU := Lib.hid hpu
          clear hpu htk
          generalize (putAllG ltI (L ++ Q.take k)).length = nR at HPU hlen ⊢
          go_wp2_with fail
          refine HPU.out.mono ?_
          rintro e w8 ⟨a8, c8, rfl, ho8, hb8⟩
          have HO8 := Lib.hid ho8
          have HB8 := Lib.hid (HB5.out.trans (hb8.mono hsz5))
          clear ho8 hb8
          go_wp2
          go_roundw
          case rel => exact ⟨k + 1, by omega, by go_num, ⟨a8, c8, rfl, HO8.out⟩, HB8.out⟩
          case measure => simp [intOf]; omega
        · obtain rfl : k = Q.length := by omega
          rw [List.take_length, ← HST.out] at HO5
          go_wp2
          go_roundw
          case rel => exact ⟨i + 1, by omega, by go_num, by rw [List.take_length, ← HST.out]; exact ⟨a5, c5, rfl, HO5.out⟩, HB4.out.trans (HB5.out.mono hsz4)⟩
          case measure => simp [intOf]; omega
    · obtain rfl : i = ps.length := by omega
      go_wp2
      go_ret
      exact ⟨a2, c2, rfl, HO2.out, HBA.out.trans (HB2.out.mono hszA)⟩

set_option maxRecDepth 100000 in
set_option maxHeartbeats 3200000 in
theorem implAll (B : Nat) (ad : Option Addr) (c : Nat) (xs : List Int) (sa : Option Addr) (cs : Nat) (ps : List (List Cl)) (w : World) (hr : Reg (B : Int) xs) (hp : Pcs ps) (hc : CellsAt w ad (ints xs)) (hcp : ShpsAt w sa ps) :
    Calls Tryz.prog 76 #[.agg #[.int .i64 B, .slice ad xs.length c], .slice sa ps.length cs] w fun e w' => ∃ ad' c', e = .returned (.slice ad' (allL B xs ps).length c') ∧ w'.ownsRow w.heap.size 3 1 (.slice ad' (allL B xs ps).length c') (allL B xs ps).length (ints (allL B xs ps)) ∧ Below w.heap.size w w' := by
  have hal : allL B xs ps = putAllG ltI (allTo B xs ps ps.length) := rfl
  rw [hal]
  have hp5 := hp.2.2
  have HPL := Lib.hid (show ∀ p ∈ ps, p.length ≤ 1048576 from fun p h => by have := (hp.1 p h).2.2; omega)
  have HPLA := Lib.hid (fun a2 c2 p w' hn h1 h2 => implPlac B ad c xs a2 c2 p w' hr hn h1 h2)
  have HLEN := Lib.hid (fun p => placL_length hr p)
  have HTL := Lib.hid (fun i => allTo_length hr ps i)
  have HC := Lib.hid hc
  have HCP := Lib.hid hcp
  clear hc hcp hr hal hp
  obtain ⟨wA, hwA⟩ : ∃ wA, wA = w.alloc (.cells #[.int .i64 B, .slice ad xs.length c] 26) := ⟨_, rfl⟩
  have hbA : Below w.heap.size w wA := by rw [hwA]; exact (Below.refl _ _).alloc (Nat.le_refl _) _
  have hzA : wA.heap.size = w.heap.size + 1 := by rw [hwA]; simp
  have hblkA : wA.heap[w.heap.size]? = some (.cells #[.int .i64 B, .slice ad xs.length c] 26 (0, 0)) := by rw [hwA]; exact heap_alloc_new w _
  have HBA := Lib.hid hbA
  have HBLKA := Lib.hid hblkA
  have HWA := Lib.hid hwA
  have hszA := hbA.size
  clear hbA hblkA hwA
  go_enter Tryz.func76, Tryz.ntmps76
  go_wp2
  rw [← HWA.out]
  go_loopw [5, 10] (fun s i wr => ∃ k : Nat, k ≤ ps.length ∧ i = .int .i64 k ∧ (∃ ad' c', s = .slice ad' (allTo B xs ps k).length c' ∧ wr.ownsRow wA.heap.size 3 1 (.slice ad' (allTo B xs ps k).length c') (allTo B xs ps k).length (ints (allTo B xs ps k))) ∧ Below wA.heap.size wA wr) (fun _ i _ => ps.length - (intOf i).toNat)
  case atStart => exact ⟨0, by omega, rfl, ⟨none, 0, rfl, World.ownsRow_nil _ _ _ _⟩, Below.refl _ _⟩
  case round =>
    obtain ⟨i, hi, rfl, ⟨a2, c2, rfl, ho2⟩, hb2⟩ := hrel
    have HO2 := Lib.hid ho2
    have HB2 := Lib.hid hb2
    have hsz2 := hb2.size
    have hti := HTL.out i
    clear ho2 hb2
    by_cases hilt : i < ps.length
    · have hil : (i : Int) < (ps.length : Int) := by omega
      obtain ⟨g, off, ai, ci, rfl, hg, hcell, hrow⟩ := HCP.out.row hilt
      have hst : allTo B xs ps (i + 1) = allTo B xs ps i ++ placL B xs ps[i] := by rw [← getDG hilt]; rfl
      have hpl := HPL.out _ (List.getElem_mem hilt)
      have HST := Lib.hid hst
      have HROW := Lib.hid hrow
      have HCELL := Lib.hid hcell
      clear hst hrow hcell
      generalize ps[i] = p at hpl HST HROW HCELL
      have hlp := HLEN.out p
      generalize allTo B xs ps i = L at hti HO2 HST ⊢
      have hblk := (HB2.out.block w.heap.size (by omega)).trans HBLKA.out
      have y0 : wr.cell? ⟨w.heap.size, 0, none⟩ = some (.int .i64 B) := by rw [cell_of_row wr _ 0 _ _ _ hblk]; rfl
      have y1 : wr.cell? ⟨w.heap.size, 1, none⟩ = some (.slice ad xs.length c) := by rw [cell_of_row wr _ 1 _ _ _ hblk]; rfl
      have HBW := Lib.hid (HBA.out.trans (HB2.out.mono hszA))
      have x0 := (HBW.out.cell (p := ⟨g, off + i, none⟩) hg).trans HCELL.out
      clear hblk
      go_wp2_with fail
      refine (HPLA.out ai ci p wr hpl (HC.out.below HBW.out) (HROW.out.below HBW.out)).mono ?_
      rintro e w4 ⟨a4, c4, rfl, ho4, hb4⟩
      have HO4 := Lib.hid (ownsRow_cellsAt ho4)
      have HN4 := Lib.hid (ownsRow_le_cap ho4).2
      have HB4 := Lib.hid (HB2.out.trans (hb4.mono hsz2))
      have HOO := Lib.hid (ownsRow_far_below HO2.out hb4 (Nat.le_refl _))
      have hsz4 := HB4.out.size
      clear ho4 hb4 y0 y1 x0
      generalize placL B xs p = Q at HO4 HN4 HST hlp ⊢
      have hLl := ints_length L
      have hQl := ints_length Q
      go_wp2_with (at_builtin; refine wpList_appN rfl (.tmp 14) (.tmp 17) 24 rfl wA.heap.size 3 _ 1 8 Tryz.elemInt _ L.length (ints L) rfl HOO.out a4 Q.length c4 (ints Q) rfl HN4.out (by omega) HO4.out (ints_one Q) (by unfold maxLen; omega) (by omega) (by omega) ?_; intro a5 c5 w5 q1 q2 q3)
      have HO5 := Lib.hid q1
      have HB5 := Lib.hid (HB4.out.trans q2)
      clear q1 q2 q3
      go_roundw
      case rel =>
        refine ⟨i + 1, by omega, by go_num, ?_, HB5.out⟩
        rw [HST.out]
        refine ⟨a5, c5, by rw [List.length_append], ?_⟩
        rw [List.length_append, ints_append]
        exact HO5.out
      case measure => simp [intOf]; omega
    · obtain rfl : i = ps.length := by omega
      have hod := ordered_any a2 c2 (allTo B xs ps ps.length) wr (by omega) (ownsRow_le_cap HO2.out).2 (ownsRow_cellsAt HO2.out)
      have HOD := Lib.hid hod
      clear hod
      generalize hLL : allTo B xs ps ps.length = L at HOD
      have HLL := Lib.hid hLL
      clear hLL
      go_wp2_with fail
      refine HOD.out.mono ?_
      rintro e w4 ⟨a4, c4, rfl, ho4, hb4⟩
      have HO4 := Lib.hid ho4
      have HB4 := Lib.hid (HBA.out.trans ((HB2.out.trans (hb4.mono hsz2)).mono hszA))
      clear ho4 hb4
      go_wp2
      go_ret
      rw [HLL.out]
      exact ⟨a4, c4, rfl, ownsRow_rebase HO4.out (by omega), HB4.out⟩
end Go.Proofs.YtajmdgcnnipdoaaGreatDoor

/- AllPNo: the reference's AllPlacements where the region or the pieces are not fine: no placement. -/
namespace Go.Proofs.YtajmdgcnnipdoaaGreatDoor
open Go.RowKit

attribute [local go_sem ↓] Go.wp_at_zero Go.wp_at_succ

set_option maxRecDepth 100000 in
set_option maxHeartbeats 3200000 in
theorem specPlac_no (b : Int) (ad : Option Addr) (c : Nat) (xs : List Int) (sa : Option Addr) (cs : Nat) (l : List Cl) (w : World) (hn0 : xs.length ≤ 1048576) (hr : ¬Reg b xs) (hn : l.length ≤ 1048576) (hc : CellsAt w ad (ints xs)) (hcl : CellsAt w sa (cls l)) :
    Calls Tryz.prog 115 #[.agg #[.int .i64 b, .slice ad xs.length c], .slice sa l.length cs] w fun e w' => ∃ ad' c', e = .returned (.slice ad' 0 c') ∧ w'.ownsRow w.heap.size 3 1 (.slice ad' 0 c') 0 [] ∧ Below w.heap.size w w' := by
  have hrl := orientL_length l
  have HOR := Lib.hid (fun w' hc' => specOrient sa cs l w' hn hc')
  have hreg := fun w (h : CellsAt w ad (ints xs)) => specReg b ad c xs w hn0 h
  rw [decide_eq_false hr] at hreg
  have HREG := Lib.hid hreg
  have HC := Lib.hid hc
  have HCL := Lib.hid hcl
  clear hc hcl hr hreg
  generalize orientL l = rows at hrl HOR ⊢
  obtain ⟨wA, hwA⟩ : ∃ wA, wA = (w.alloc (.cells #[.int .i64 b, .slice ad xs.length c] 26)).alloc (.cells #[] 3) := ⟨_, rfl⟩
  have hbA : Below w.heap.size w wA := by rw [hwA]; exact ((Below.refl _ _).alloc (Nat.le_refl _) _).alloc (by simp) _
  have hzA : wA.heap.size = w.heap.size + 2 := by rw [hwA]; simp
  have hblkA : wA.heap[w.heap.size]? = some (.cells #[.int .i64 b, .slice ad xs.length c] 26 (0, 0)) := by
    rw [hwA, Below.heap_alloc _ _ _ (by simp)]
    exact heap_alloc_new w _
  have hoA : wA.ownsRow (w.heap.size + 1) 3 1 (.slice (some ⟨w.heap.size + 1, 0, none⟩) 0 0) 0 [] := by
    have := ownsRow_empty (w.alloc (.cells #[.int .i64 b, .slice ad xs.length c] 26)) 3 1
    have hs : (w.alloc (.cells #[.int .i64 b, .slice ad xs.length c] 26)).heap.size = w.heap.size + 1 := by simp
    rw [hs] at this
    rw [hwA]
    exact this
  have HBA := Lib.hid hbA
  have HBLKA := Lib.hid hblkA
  have HWA := Lib.hid hwA
  have HOA := Lib.hid hoA
  have hszA := hbA.size
  clear hbA hblkA hwA hoA
  go_enter Tryz.func115, Tryz.ntmps115
  go_wp2_with fail
  rw [← HWA.out]
  refine (HOR.out wA (HCL.out.below HBA.out)).mono ?_
  rintro e w1 ⟨a1, c1, rfl, hsp, hb1⟩
  have HB1 := Lib.hid (HBA.out.trans (hb1.mono hszA))
  have hsz1 := HB1.out.size
  have hw1 : w.heap.size < w1.heap.size := by have := hb1.size; omega
  have HBLK1 := Lib.hid ((hb1.block w.heap.size (by omega)).trans HBLKA.out)
  have HO1 := Lib.hid (ownsRow_rebase (ownsRow_far_below HOA.out hb1 (Nat.le_refl _)) (Nat.le_succ w.heap.size))
  have HSP := Lib.hid hsp
  clear hsp hb1
  go_wp2
  go_loopw [5, 7] (fun s i wr => i = .int .i64 0 ∧ (∃ ad' c', s = .slice ad' 0 c' ∧ wr.ownsRow w.heap.size 3 1 (.slice ad' 0 c') 0 []) ∧ Below w1.heap.size w1 wr) (fun _ i _ => rows.length - (intOf i).toNat)
  case atStart => exact ⟨rfl, ⟨_, _, rfl, HO1.out⟩, Below.refl _ _⟩
  case round =>
    obtain ⟨rfl, ⟨a2, c2, rfl, ho2⟩, hb2⟩ := hrel
    have HO2 := Lib.hid ho2
    have HB2 := Lib.hid hb2
    have hsz2 := hb2.size
    clear ho2
    have hblk := (HB2.out.block w.heap.size (by omega)).trans HBLK1.out
    have y0 : wr.cell? ⟨w.heap.size, 0, none⟩ = some (.int .i64 b) := by rw [cell_of_row wr _ 0 _ _ _ hblk]; rfl
    have y1 : wr.cell? ⟨w.heap.size, 1, none⟩ = some (.slice ad xs.length c) := by rw [cell_of_row wr _ 1 _ _ _ hblk]; rfl
    clear hblk
    by_cases h0 : 0 < rows.length
    · have hil : (0 : Int) < (rows.length : Int) := by omega
      go_wp2_with fail
      refine (HREG.out wr (HC.out.below (HB1.out.trans (HB2.out.mono hsz1)))).mono ?_
      rintro e wq ⟨rfl, hbq⟩
      have HBQ := Lib.hid (HB2.out.trans (hbq.mono hsz2))
      have HOQ := Lib.hid (ownsRow_far_below HO2.out hbq (Nat.le_refl _))
      clear hbq y0 y1
      go_wp2
      go_ret
      exact ⟨a2, c2, rfl, HOQ.out, HB1.out.trans (HBQ.out.mono hsz1)⟩
    · have h00 : rows.length = 0 := by omega
      rw [h00]
      go_wp2
      go_ret
      exact ⟨a2, c2, rfl, HO2.out, HB1.out.trans (HB2.out.mono hsz1)⟩

set_option maxRecDepth 100000 in
set_option maxHeartbeats 3200000 in
theorem specAll_no (b : Int) (ad : Option Addr) (c : Nat) (xs : List Int) (sa : Option Addr) (cs : Nat) (ps : List (List Cl)) (w : World) (hn : xs.length ≤ 1048576) (hnp : ps.length ≤ 1048576) (hl : ∀ p ∈ ps, p.length ≤ 1048576) (hr : ¬(Reg b xs ∧ Pcs ps)) (hc : CellsAt w ad (ints xs)) (hcp : ShpsAt w sa ps) :
    Calls Tryz.prog 67 #[.agg #[.int .i64 b, .slice ad xs.length c], .slice sa ps.length cs] w fun e w' => ∃ ad' c', e = .returned (.slice ad' 0 c') ∧ w'.ownsRow w.heap.size 3 1 (.slice ad' 0 c') 0 [] ∧ Below w.heap.size w w' := by
  have hpc := fun w' h => specPieces sa cs ps w' hnp hl h
  have HPC := Lib.hid hpc
  have HPL := Lib.hid hl
  have HPLA := Lib.hid (fun (h : ¬Reg b xs) a2 c2 p w' hn1 h1 h2 => specPlac_no b ad c xs a2 c2 p w' hn h hn1 h1 h2)
  have HC := Lib.hid hc
  have HCP := Lib.hid hcp
  have HR := Lib.hid hr
  clear hc hcp hr hl hpc
  obtain ⟨wA, hwA⟩ : ∃ wA, wA = (w.alloc (.cells #[.int .i64 b, .slice ad xs.length c] 26)).alloc (.cells #[] 3) := ⟨_, rfl⟩
  have hbA : Below w.heap.size w wA := by rw [hwA]; exact ((Below.refl _ _).alloc (Nat.le_refl _) _).alloc (by simp) _
  have hzA : wA.heap.size = w.heap.size + 2 := by rw [hwA]; simp
  have hblkA : wA.heap[w.heap.size]? = some (.cells #[.int .i64 b, .slice ad xs.length c] 26 (0, 0)) := by
    rw [hwA, Below.heap_alloc _ _ _ (by simp)]
    exact heap_alloc_new w _
  have hoA : wA.ownsRow (w.heap.size + 1) 3 1 (.slice (some ⟨w.heap.size + 1, 0, none⟩) 0 0) 0 [] := by
    have := ownsRow_empty (w.alloc (.cells #[.int .i64 b, .slice ad xs.length c] 26)) 3 1
    have hs : (w.alloc (.cells #[.int .i64 b, .slice ad xs.length c] 26)).heap.size = w.heap.size + 1 := by simp
    rw [hs] at this
    rw [hwA]
    exact this
  have HBA := Lib.hid hbA
  have HBLKA := Lib.hid hblkA
  have HWA := Lib.hid hwA
  have HOA := Lib.hid (ownsRow_rebase hoA (Nat.le_succ w.heap.size))
  have hszA := hbA.size
  clear hbA hblkA hwA hoA
  go_enter Tryz.func67, Tryz.ntmps67
  go_wp2
  rw [← HWA.out]
  go_loopw [5, 6] (fun s i wr => ∃ k : Nat, k ≤ ps.length ∧ i = .int .i64 k ∧ (∃ ad' c', s = .slice ad' 0 c' ∧ wr.ownsRow w.heap.size 3 1 (.slice ad' 0 c') 0 []) ∧ Below wA.heap.size wA wr) (fun _ i _ => ps.length - (intOf i).toNat)
  case atStart => exact ⟨0, by omega, rfl, ⟨_, _, rfl, HOA.out⟩, Below.refl _ _⟩
  case round =>
    obtain ⟨i, hi, rfl, ⟨a2, c2, rfl, ho2⟩, hb2⟩ := hrel
    have HO2 := Lib.hid ho2
    have HB2 := Lib.hid hb2
    have hsz2 := hb2.size
    clear ho2 hb2
    by_cases hilt : i < ps.length
    · have hil : (i : Int) < (ps.length : Int) := by omega
      obtain ⟨g, off, ai, ci, rfl, hg, hcell, hrow⟩ := HCP.out.row hilt
      have hpl := HPL.out _ (List.getElem_mem hilt)
      have HROW := Lib.hid hrow
      have HCELL := Lib.hid hcell
      clear hrow hcell
      generalize ps[i] = p at hpl HROW HCELL
      have hq := HPC.out wr (HCP.out.below (HBA.out.trans (HB2.out.mono hszA)))
      by_cases hp : Pcs ps
      · rw [decide_eq_true hp] at hq
        have hr : ¬Reg b xs := fun h => HR.out ⟨h, hp⟩
        have HPL2 := Lib.hid (HPLA.out hr)
        have HQ := Lib.hid hq
        clear hq hr hp
        go_wp2_with fail
        refine HQ.out.mono ?_
        rintro e w3 ⟨rfl, hb3⟩
        have HB3 := Lib.hid (HB2.out.trans (hb3.mono hsz2))
        have HO3 := Lib.hid (ownsRow_far_below HO2.out hb3 (Nat.le_refl _))
        have hsz3 := HB3.out.size
        have hblk := (HB3.out.block w.heap.size (by omega)).trans HBLKA.out
        have y0 : w3.cell? ⟨w.heap.size, 0, none⟩ = some (.int .i64 b) := by rw [cell_of_row w3 _ 0 _ _ _ hblk]; rfl
        have y1 : w3.cell? ⟨w.heap.size, 1, none⟩ = some (.slice ad xs.length c) := by rw [cell_of_row w3 _ 1 _ _ _ hblk]; rfl
        have HBW := Lib.hid (HBA.out.trans (HB3.out.mono hszA))
        have x0 := (HBW.out.cell (p := ⟨g, off + i, none⟩) hg).trans HCELL.out
        clear hb3 hblk
        go_wp2
        go_still_tail 5, (by kernel_rfl)
        go_wp2_with fail
        refine (HPL2.out ai ci p w3.drew hpl (HC.out.below HBW.out.drew) (HROW.out.below HBW.out.drew)).mono ?_
        rintro e w4 ⟨a4, c4, rfl, ho4, hb4⟩
        have hb4r : Below w3.heap.size w3 w4 := (Below.refl _ _).drew.trans (hb4.mono (Nat.le_refl _))
        have HB4 := Lib.hid (HB3.out.trans (hb4r.mono hsz3))
        have HOO := Lib.hid (ownsRow_far_below HO3.out hb4r (Nat.le_refl _))
        have hsz4 := HB4.out.size
        clear ho4 hb4 hb4r y0 y1 x0
        go_wp2
        go_loopw [5, 8] (fun s i wr => i = .int .i64 0 ∧ s = .slice a2 0 c2 ∧ wr = w4) (fun _ i _ => 0)
        case atStart => exact ⟨rfl, rfl, rfl⟩
        case round =>
          obtain ⟨rfl, rfl, rfl⟩ := hrel
          go_wp2
          go_roundw
          case rel => exact ⟨i + 1, by omega, by go_num, ⟨_, _, rfl, HOO.out⟩, HB4.out⟩
          case measure => simp [intOf]; omega
      · rw [decide_eq_false hp] at hq
        have HQ := Lib.hid hq
        clear hq hp
        go_wp2_with fail
        refine HQ.out.mono ?_
        rintro e w3 ⟨rfl, hb3⟩
        have HB3 := Lib.hid (HB2.out.trans (hb3.mono hsz2))
        have HO3 := Lib.hid (ownsRow_far_below HO2.out hb3 (Nat.le_refl _))
        clear hb3
        go_wp2
        go_ret
        exact ⟨a2, c2, rfl, HO3.out, HBA.out.trans (HB3.out.mono hszA)⟩
    · obtain rfl : i = ps.length := by omega
      go_wp2
      go_ret
      exact ⟨a2, c2, rfl, HO2.out, HBA.out.trans (HB2.out.mono hszA)⟩
end Go.Proofs.YtajmdgcnnipdoaaGreatDoor

/- DrawR6c: what the draws of a region, pieces and a list of masks give. -/
namespace Go.Proofs.YtajmdgcnnipdoaaGreatDoor
open Go.RowKit

/-- A drawn region, one to three drawn lists of cells, and a list of numbers. -/
def RegPcsL (f : FuncId) (args : Array Value) (w : World) : Prop :=
  Calls Tryz.prog f args w fun e w' => ∃ (b : Int) (a : Option Addr) (c : Nat) (xs : List Int) (va : Option Addr) (cv : Nat) (ps : List (List Cl)) (la : Option Addr) (cl : Nat) (ls : List Int), e = .returned (.tuple #[.agg #[.int .i64 b, .slice a xs.length c], .slice va ps.length cv, .slice la ls.length cl]) ∧ (-1 ≤ b ∧ b ≤ 7) ∧ xs.length ≤ 9 ∧
    1 ≤ ps.length ∧ ps.length ≤ 3 ∧ (∀ p ∈ ps, p.length ≤ 80) ∧ ls.length ≤ 1500 ∧ (∀ x ∈ ls, (Lit.int .i64 x).wf = true) ∧ w'.ownsRow w.heap.size 3 1 (.slice a xs.length c) xs.length (ints xs) ∧ FarShps w' w.heap.size (.slice va ps.length cv) ps ∧
    w'.ownsRow w.heap.size 3 1 (.slice la ls.length cl) ls.length (ints ls) ∧ Below w.heap.size w w'
/-- A drawn region and a list of numbers. -/
def RegL (f : FuncId) (args : Array Value) (w : World) : Prop :=
  Calls Tryz.prog f args w fun e w' => ∃ (b : Int) (a : Option Addr) (c : Nat) (xs : List Int) (la : Option Addr) (cl : Nat) (ls : List Int), e = .returned (.tuple #[.agg #[.int .i64 b, .slice a xs.length c], .slice la ls.length cl]) ∧ (-1 ≤ b ∧ b ≤ 7) ∧ xs.length ≤ 9 ∧
    ls.length ≤ 1500 ∧ (∀ x ∈ ls, (Lit.int .i64 x).wf = true) ∧ w'.ownsRow w.heap.size 3 1 (.slice a xs.length c) xs.length (ints xs) ∧
    w'.ownsRow w.heap.size 3 1 (.slice la ls.length cl) ls.length (ints ls) ∧ Below w.heap.size w w'
/-- A drawn region, one to three drawn lists of cells, and a number. -/
def RegPcsV (f : FuncId) (args : Array Value) (w : World) : Prop :=
  Calls Tryz.prog f args w fun e w' => ∃ (b : Int) (a : Option Addr) (c : Nat) (xs : List Int) (va : Option Addr) (cv : Nat) (ps : List (List Cl)) (v : Int), e = .returned (.tuple #[.agg #[.int .i64 b, .slice a xs.length c], .slice va ps.length cv, .int .i64 v]) ∧ (-1 ≤ b ∧ b ≤ 7) ∧ xs.length ≤ 9 ∧
    1 ≤ ps.length ∧ ps.length ≤ 3 ∧ (∀ p ∈ ps, p.length ≤ 80) ∧ (Lit.int .i64 v).wf = true ∧ w'.ownsRow w.heap.size 3 1 (.slice a xs.length c) xs.length (ints xs) ∧ FarShps w' w.heap.size (.slice va ps.length cv) ps ∧ Below w.heap.size w w'

/-- The reference's placements of any pieces in any region. -/
def allR (b : Int) (xs : List Int) (ps : List (List Cl)) : List Int := if Reg b xs ∧ Pcs ps then allL b.toNat xs ps else []
theorem small_wf {v : Int} (h : Small v) : (Lit.int .i64 v).wf = true := by
  unfold Small at h
  exact Go.WalkArith.wf_i64 ⟨Int.le_trans (by decide) h.1, Int.le_trans (Int.le_of_lt h.2) (by decide)⟩
theorem allR_facts (b : Int) (xs : List Int) (ps : List (List Cl)) : (allR b xs ps).length ≤ 1500 ∧ ∀ v ∈ allR b xs ps, (Lit.int .i64 v).wf = true := by
  unfold allR
  by_cases h : Reg b xs ∧ Pcs ps
  · rw [if_pos h]
    obtain ⟨B, rfl⟩ := Int.eq_ofNat_of_zero_le (by have := h.1.1.1; omega : 0 ≤ b)
    rw [Int.toNat_natCast]
    exact ⟨allL_length h.1 h.2, fun v hv => small_wf (allL_small h.1 ps v hv)⟩
  · rw [if_neg h]
    exact ⟨Nat.zero_le _, fun v hv => absurd hv List.not_mem_nil⟩
theorem specAllR (b : Int) (ad : Option Addr) (c : Nat) (xs : List Int) (sa : Option Addr) (cs : Nat) (ps : List (List Cl)) (w : World) (hn : xs.length ≤ 1048576) (hnp : ps.length ≤ 1048576) (hl : ∀ p ∈ ps, p.length ≤ 1048576) (hc : CellsAt w ad (ints xs)) (hcp : ShpsAt w sa ps) :
    Calls Tryz.prog 67 #[.agg #[.int .i64 b, .slice ad xs.length c], .slice sa ps.length cs] w fun e w' => ∃ ad' c', e = .returned (.slice ad' (allR b xs ps).length c') ∧ w'.ownsRow w.heap.size 3 1 (.slice ad' (allR b xs ps).length c') (allR b xs ps).length (ints (allR b xs ps)) ∧ Below w.heap.size w w' := by
  unfold allR
  by_cases h : Reg b xs ∧ Pcs ps
  · rw [if_pos h]
    obtain ⟨B, rfl⟩ := Int.eq_ofNat_of_zero_le (by have := h.1.1.1; omega : 0 ≤ b)
    exact specAll B ad c xs sa cs ps w h.1 h.2 hc hcp
  · rw [if_neg h]
    exact specAll_no b ad c xs sa cs ps w hn hnp hl h hc hcp
end Go.Proofs.YtajmdgcnnipdoaaGreatDoor
