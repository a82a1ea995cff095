/- ScaleI: the walk of the program's ScaledRegion, for a shape that may be drawn larger. -/
import Derived.Test.YtmpcmeeoiapbdaaGreatDoorAllSc0
import Derived.Test.YtmpcmeeoiapbdaaGreatDoorSizeI
import Derived.Test.YtmpcmeeoiapbdaaGreatDoorAllMk
namespace Go.Proofs.YtmpcmeeoiapbdaaGreatDoor
open Go.RowKit

attribute [local go_sem ↓] Go.wp_at_zero Go.wp_at_succ

set_option maxRecDepth 100000 in
set_option maxHeartbeats 3200000 in
theorem implScaled_yes (ad : Option Addr) (c : Nat) (l : List Cl) (k : Nat) (w : World) (hn : l.length ≤ 1048576) (hok : scOk l k = true) (hc : CellsAt w ad (cls l)) :
    Calls Tryz.prog 60 #[.slice ad l.length c, .int .i64 k] w fun e w' => ∃ ad' c', e = .returned (.tuple #[.agg #[.int .i64 (sizeX l * k), .slice ad' ((sizeY l).toNat * k) c'], .bool true]) ∧ w'.ownsRow w.heap.size 3 1 (.slice ad' ((sizeY l).toNat * k) c') ((sizeY l).toNat * k) (ints (tab ((sizeY l).toNat * k) (scF k (cornL l)))) ∧ Below w.heap.size w w' := by
  obtain ⟨hs, ⟨hk1, hk6⟩, hX, hY⟩ := scOk_iff.1 hok
  have HROOM := Lib.hid (corn_room hok)
  have HC := Lib.hid hc
  have HS := Lib.hid hs
  have HND := Lib.hid (corn_nodup hs)
  have HPOS := Lib.hid (corn_pos hs)
  have hs8 : (cornL l).length ≤ 8 := by rw [cornL_length]; exact (shape_len hs).2
  obtain ⟨hx0, hy0⟩ := size_bd l
  obtain ⟨n, hn'⟩ : ∃ n, n = (sizeY l).toNat * k := ⟨_, rfl⟩
  have hnY : sizeY l * (k : Int) = (n : Int) := by rw [hn', Int.natCast_mul, Int.toNat_of_nonneg hy0.1]
  rw [← hn'] at HROOM ⊢
  have HNN := Lib.hid hn'
  have hn6 : n ≤ 6 := by omega
  obtain ⟨m, hm⟩ : ∃ m, m = sizeX l * (k : Int) := ⟨_, rfl⟩
  have hm6 : m ≤ 6 := by omega
  have hm0 : 0 ≤ m := by rw [hm]; exact Int.mul_nonneg hx0.1 (by omega)
  rw [← hm]
  have hmX := hm.symm
  have s1 : IntKind.i64.wrap m = m := IntWalk.i64_in _ (by omega)
  have s2 : IntKind.i64.wrap (n : Int) = (n : Int) := IntWalk.i64_in _ (by omega)
  have d1 : decide (6 < m) = false := decide_eq_false (by omega)
  have d2 : decide ((6 : Int) < (n : Int)) = false := decide_eq_false (by omega)
  have d3 : decide (6 < n) = false := decide_eq_false (by omega)
  have d4 : (decide (1 ≤ (k : Int)) && decide ((k : Int) ≤ 6)) = true := by simp only [Bool.and_eq_true, decide_eq_true_eq]; omega
  have HSZ := Lib.hid (fun w' hc' => implSize ad c l w' hn hc')
  have HSH := Lib.hid (fun w' hc' => (implShape ad c l w' hn hc').mono (fun e w'' (q : _ ∧ _) => (⟨by rw [q.1, decide_eq_true hs], q.2⟩ : e = .returned (.bool true) ∧ Below w'.heap.size w' w'')))
  have HCO := Lib.hid (fun w' hc' => implCorner ad c l w' hs hc')
  have HSI := Lib.hid (fun w' => isSide_any (k : Int) w')
  rw [d4] at HSI
  clear hc hs hok hm hn' hX hY hx0 hy0 d4
  generalize sizeX l = X at HSZ hmX
  generalize sizeY l = Y at HSZ hnY HNN
  obtain ⟨w0, hw0⟩ : ∃ w0, w0 = w.alloc (.cells #[.int .i64 0, .slice none 0 0] 65) := ⟨_, rfl⟩
  have hb0 : Below w.heap.size w w0 := by rw [hw0]; exact (Below.refl _ _).alloc (Nat.le_refl _) _
  have hz0 : w0.heap.size = w.heap.size + 1 := by rw [hw0]; simp
  have hk0 : w0.heap[w.heap.size]? = some (.cells #[.int .i64 0, .slice none 0 0] 65 (0, 0)) := by rw [hw0]; exact heap_alloc_new w _
  have HK0 := Lib.hid hk0
  have HB0 := Lib.hid hb0
  have HW0 := Lib.hid hw0
  have hsz0 := hb0.size
  clear hb0 hw0 hk0
  go_enter Tryz.func60, Tryz.ntmps60
  go_wp2_with fail
  rw [← HW0.out]
  refine (HSZ.out _ (HC.out.below HB0.out)).mono ?_
  rintro e w1 ⟨rfl, hb1⟩
  have HB1 := Lib.hid (HB0.out.trans (hb1.mono hsz0))
  have hsz1 := HB1.out.size
  have hq1 := hb1.size
  have K1 := Lib.hid ((hb1.block w.heap.size (by omega)).trans HK0.out)
  clear hb1
  go_wp2_with fail
  refine (HSH.out _ (HC.out.below HB1.out)).mono ?_
  rintro e w2 ⟨rfl, hb2⟩
  have HB2 := Lib.hid (HB1.out.trans (hb2.mono hsz1))
  have hsz2 := HB2.out.size
  have hq2 := hb2.size
  have K2 := Lib.hid ((hb2.block w.heap.size (by omega)).trans K1.out)
  clear hb2
  go_wp2_with fail
  refine (HSI.out _).mono ?_
  rintro e w3 ⟨rfl, rfl⟩
  go_wp2_with fail
  refine (emptyGrid_any m n w2 (by omega)).mono ?_
  rintro e w4 ⟨g, rfl, ho4, hb4⟩
  have HO4 := Lib.hid ho4
  have HB4 := Lib.hid (HB2.out.trans (hb4.mono hsz2))
  have hq4 := hb4.size
  have K4 := Lib.hid ((hb4.block w.heap.size (by omega)).trans K2.out)
  clear ho4 hb4
  go_upto_region 5 with (fail)
  have hb5 : Below w4.heap.size w4 (w4.alloc (.cells #[.int .i64 m, .slice (some ⟨g, 0, none⟩) n n] 65)) := (Below.refl _ _).alloc (Nat.le_refl _) _
  have hz5 : (w4.alloc (.cells #[.int .i64 m, .slice (some ⟨g, 0, none⟩) n n] 65)).heap.size = w4.heap.size + 1 := by simp
  have hk5 := heap_alloc_new w4 (.cells #[.int .i64 m, .slice (some ⟨g, 0, none⟩) n n] 65)
  generalize w4.alloc (.cells #[.int .i64 m, .slice (some ⟨g, 0, none⟩) n n] 65) = w5 at hb5 hz5 hk5 ⊢
  have ho5 := ownsRow_far_below HO4.out hb5 (Nat.le_refl _)
  have HB5 := Lib.hid (HB4.out.trans (hb5.mono HB4.out.size))
  have hsz5 := HB5.out.size
  have HO5 := Lib.hid ho5
  have HK5 := Lib.hid hk5
  have K5 := Lib.hid ((hb5.block w.heap.size (by omega)).trans K4.out)
  clear hb5 hk5 ho5
  go_wp2_with fail
  refine (HCO.out w5 (HC.out.below HB5.out)).mono ?_
  rintro e w6 ⟨a6, c6, rfl, ho6, hb6⟩
  have HB6 := Lib.hid (HB5.out.trans (hb6.mono hsz5))
  have HR6 := Lib.hid (ownsRow_far_below HO5.out hb6 (Nat.le_refl _))
  have hb6k := hb6.block w4.heap.size (by omega)
  have HK6 := Lib.hid (hb6k.trans HK5.out)
  have HO6 := Lib.hid ho6
  have hsz6 := hb6.size
  have K6 := Lib.hid ((hb6.block w.heap.size (by omega)).trans K5.out)
  clear ho6 hb6 hb6k
  generalize hsl : cornL l = s at HROOM HND HPOS HO6 hs8 ⊢
  have HSL := Lib.hid hsl
  clear hsl
  go_wp2
  go_loopw [48] (fun i wr => ∃ q : Nat, q ≤ s.length ∧ i = .int .i64 q ∧ wr.ownsRow w2.heap.size 3 1 (.slice (some ⟨g, 0, none⟩) n n) n (ints (tab n (scF k (s.take q)))) ∧ w6.grownBy wr (some g)) (fun i _ => s.length - (intOf i).toNat)
  case atStart => exact ⟨0, by omega, rfl, by rw [List.take_zero]; show World.ownsRow _ _ _ _ _ _ (ints (tab n (fun _ => 0))); rw [tab_zero]; exact HR6.out, grownBy_refl _ _⟩
  case round =>
    obtain ⟨q, hq, rfl, hown, hgr⟩ := hrel
    obtain ⟨wo, rfl⟩ : ∃ wo, wo = wr := ⟨_, rfl⟩
    have hgl5 := (HO5.out.lt g rfl).2
    have hgl4 := (HO4.out.lt g rfl).2
    have hszo := hgr.size
    have ho6 := HO6.out.kept hgr (.inr (fun e => by have := (HO6.out.lt g e).1; omega))
    have hblk := (hgr.block w4.heap.size (by omega) (by simp; omega)).trans HK6.out
    have HW := Lib.hid hown
    have HG := Lib.hid hgr
    have HBLK := Lib.hid hblk
    clear hown hgr hblk
    by_cases hlt : q < s.length
    · obtain ⟨g6, off6, rfl, hg6, hcc⟩ := cl_open (ownsRow_cellsAt ho6) (by omega)
      obtain ⟨x0, x1⟩ := hcc q hlt
      have hrm := HROOM.out s[q] (List.getElem_mem hlt)
      have hps := HPOS.out s[q] (List.getElem_mem hlt)
      have htk := List.take_succ_eq_append_getElem hlt
      have hnd : (s.take q ++ [s[q]]).Nodup := by rw [← htk]; exact HND.out.sublist (List.take_sublist _ _)
      have hpp : ∀ d ∈ s.take q ++ [s[q]], Pos d := by rw [← htk]; exact fun d hd => HPOS.out d (List.mem_of_mem_take hd)
      generalize s[q] = d at x0 x1 hrm hps htk hnd hpp
      obtain ⟨dx, dy⟩ := d
      obtain ⟨p1, p2⟩ := hps
      simp only at p1 p2
      obtain ⟨X1, rfl⟩ := Int.eq_ofNat_of_zero_le p1
      obtain ⟨D, rfl⟩ := Int.eq_ofNat_of_zero_le p2
      simp only [Int.toNat_natCast] at hrm x0 x1
      have HTK := Lib.hid htk
      have HNDc := Lib.hid hnd
      have HPP := Lib.hid hpp
      have i1 : (q : Int) < (s.length : Int) := by omega
      have hbW : Below wo.heap.size wo (wo.alloc (.cells #[.int .i64 X1, .int .i64 D] 56)) := (Below.refl _ _).alloc (Nat.le_refl _) _
      have hzW : (wo.alloc (.cells #[.int .i64 X1, .int .i64 D] 56)).heap.size = wo.heap.size + 1 := by simp
      have hbox := heap_alloc_new wo (.cells #[.int .i64 X1, .int .i64 D] 56)
      have hgW : wo.grownBy (wo.alloc (.cells #[.int .i64 X1, .int .i64 D] 56)) (some g) := World.grownBy_alloc wo _ (some g)
      have HGW := Lib.hid hgW
      have HBW := Lib.hid hbW
      have HZW := Lib.hid hzW
      have HBOX := Lib.hid hbox
      clear hbW hzW hbox hgW htk hnd hpp hcc ho6
      go_upto_region 8 with (fail)
      generalize wo.alloc (.cells #[.int .i64 X1, .int .i64 D] 56) = wb at HBW HZW HBOX HGW ⊢
      have hrb := ownsRow_far_below HW.out HBW.out (Nat.le_refl _)
      rw [← stI_zero k n (s.take q) ⟨(X1 : Int), (D : Int)⟩] at hrb
      have HRB := Lib.hid hrb
      clear hrb x0 x1
      go_wp2
      go_loopw [53] (fun i wr => ∃ j : Nat, j ≤ k ∧ i = .int .i64 j ∧ wr.ownsRow w2.heap.size 3 1 (.slice (some ⟨g, 0, none⟩) n n) n (ints (tab n (stI k (s.take q) ⟨(X1 : Int), (D : Int)⟩ j))) ∧ wb.grownBy wr (some g)) (fun i _ => k - (intOf i).toNat)
      case atStart => exact ⟨0, by omega, rfl, HRB.out, grownBy_refl _ _⟩
      case round =>
        obtain ⟨j, hj, rfl, ho, hg⟩ := hrel
        have hzb := HZW.out
        have hszi := hg.size
        by_cases hjl : j < k
        · have bx := (hg.block wo.heap.size (by omega) (by simp; omega)).trans HBOX.out
          have bR := (hg.block w4.heap.size (by omega) (by simp; omega)).trans ((HBW.out.block w4.heap.size (by omega)).trans HBLK.out)
          have z0 : wr.cell? ⟨wo.heap.size, 0, none⟩ = some (.int .i64 X1) := by rw [cell_of_row wr _ 0 _ _ _ bx]; rfl
          have z1 : wr.cell? ⟨wo.heap.size, 1, none⟩ = some (.int .i64 D) := by rw [cell_of_row wr _ 1 _ _ _ bx]; rfl
          have z2 : wr.cell? ⟨w4.heap.size, 1, none⟩ = some (.slice (some ⟨g, 0, none⟩) n n) := by rw [cell_of_row wr _ 1 _ _ _ bR]; rfl
          have hrm1 := hrm.1
          have hrm2 := hrm.2
          rw [Nat.add_mul, Nat.one_mul] at hrm1 hrm2
          obtain ⟨v, hv⟩ : ∃ v, v = D * k := ⟨_, rfl⟩
          obtain ⟨p, hp⟩ : ∃ p, p = X1 * k := ⟨_, rfl⟩
          obtain ⟨u, hu⟩ : ∃ u, u = v + j := ⟨_, rfl⟩
          have hun : u < n := by omega
          have e : stI k (s.take q) ⟨(X1 : Int), (D : Int)⟩ j u = scRow k (s.take q) u := by rw [hu, hv]; exact stI_at k _ ⟨(X1 : Int), (D : Int)⟩ j
          have hcu := ho.cellAt u (by omega)
          rw [ints_at _ u (by rw [tab_length]; exact hun), tab_at hun, e] at hcu
          have hfz := ho.frozenAt u
          have hrr := scRow_lt (k := k) (by omega) (List.nodup_append.1 HNDc.out).1 (fun d hd => HPP.out d (List.mem_append_left _ hd)) (fun d hd => (HROOM.out d (List.mem_of_mem_take hd)).1) u
          have hor := scRow_or k (by omega) (s.take q) ⟨(X1 : Int), (D : Int)⟩ u HNDc.out HPP.out (by show D = u / k; exact (block_iff k D u (by omega)).1 (by omega))
          have ev : (D : Int) * (k : Int) = (v : Int) := by rw [hv]; norm_cast
          have ep : (X1 : Int) * (k : Int) = (p : Int) := by rw [hp]; norm_cast
          have eu : (v : Int) + (j : Int) = (u : Int) := by rw [hu]; norm_cast
          have sv : IntKind.i64.wrap (v : Int) = (v : Int) := IntWalk.i64_in _ (by omega)
          have sp : IntKind.i64.wrap (p : Int) = (p : Int) := IntWalk.i64_in _ (by omega)
          have su : IntKind.i64.wrap (u : Int) = (u : Int) := IntWalk.i64_in _ (by omega)
          have j1 : (j : Int) < (k : Int) := by omega
          have u1 : (u : Int) < (n : Int) := by omega
          generalize scRow k (s.take q) u = rr at hcu hrr hor
          have HV := Lib.hid hv
          have HPq := Lib.hid hp
          have HU := Lib.hid hu
          have hval := (rowVal (k := k) (p := p) (rr := rr) (by omega) hrr).trans (congrArg (fun x : Nat => (x : Int)) (by rw [← hor, hp]; rfl : rr ||| (2 ^ k - 1) * 2 ^ p = scRow k (s.take q ++ [⟨(X1 : Int), (D : Int)⟩]) u))
          simp only [IntWalk.i64_left] at hval
          have HVAL := Lib.hid hval
          have HOr := Lib.hid ho
          have HGr := Lib.hid hg
          have hDu : D * k + j = u := by rw [hu, hv]
          have HDU := Lib.hid hDu
          clear hv hp hu e hval hor hDu
          go_wp2
          go_still_tail 20, (by kernel_rfl)
          change wpList _ _ _ _ _ wr.drew
          go_wp2_with fail
          go_roundw
          case rel =>
            have h1 := HOr.out.stored u (.int .i64 (bits .or .i64 (rr : Int) (wrap64 (wrap64 (wrap64 (2 ^ k) - 1) * 2 ^ p))))
            have h2 := stI_set k n (s.take q) ⟨(X1 : Int), (D : Int)⟩ j (v := bits .or .i64 (rr : Int) (wrap64 (wrap64 (wrap64 (2 ^ k) - 1) * 2 ^ p))) (by show D * k + j < n; rw [HDU.out]; exact hun) (by show _ = ((scRow k _ (D * k + j) : Nat) : Int); rw [HDU.out]; exact HVAL.out)
            have h3 := h1.1
            rw [ints_set] at h3
            have h4 : (tab n (stI k (s.take q) ⟨(X1 : Int), (D : Int)⟩ j)).set u (bits .or .i64 (rr : Int) (wrap64 (wrap64 (wrap64 (2 ^ k) - 1) * 2 ^ p))) = tab n (stI k (s.take q) ⟨(X1 : Int), (D : Int)⟩ (j + 1)) := by rw [← h2, ← HDU.out]; rfl
            rw [h4] at h3
            exact ⟨j + 1, by omega, by go_num, h3, grownBy_trans HGr.out (grownBy_trans h1.2 (grownBy_drew _ _))⟩
          case measure => simp [intOf]; omega
        · obtain rfl : j = k := by omega
          rw [stI_full j n _ _ (by omega)] at ho
          have HOr := Lib.hid ho
          have HGr := Lib.hid hg
          clear ho hg
          go_wp2
          go_roundw
          case rel =>
            refine ⟨q + 1, by omega, by go_num, ?_, grownBy_trans HG.out (grownBy_trans HGW.out HGr.out)⟩
            rw [HTK.out]
            exact HOr.out
          case measure => simp [intOf]; omega
    · obtain rfl : q = s.length := by omega
      rw [List.take_length] at HW
      have hg2 := (HO4.out.lt g rfl).1
      have bB := (HG.out.block w.heap.size (by omega) (by simp; omega)).trans K6.out
      have bR := HBLK.out
      have z0 : wo.cell? ⟨w4.heap.size, 0, none⟩ = some (.int .i64 m) := by rw [cell_of_row wo _ 0 _ _ _ bR]; rfl
      have z1 : wo.cell? ⟨w4.heap.size, 1, none⟩ = some (.slice (some ⟨g, 0, none⟩) n n) := by rw [cell_of_row wo _ 1 _ _ _ bR]; rfl
      have y0 : wo.cell? ⟨w.heap.size, 0, none⟩ = some (.int .i64 0) := by rw [cell_of_row wo _ 0 _ _ _ bB]; rfl
      have y1 : wo.cell? ⟨w.heap.size, 1, none⟩ = some (.slice none 0 0) := by rw [cell_of_row wo _ 1 _ _ _ bB]; rfl
      have f0 := frozen_of_row wo w.heap.size 0 _ _ bB
      have f1 := frozen_of_row wo w.heap.size 1 _ _ bB
      have hbo := HB6.out.grown HG.out (by omega) (fun x hx => by cases hx; omega)
      have HBO := Lib.hid hbo
      clear hbo
      go_wp2
      have c0 : ((wo.setCell ⟨w.heap.size, 0, none⟩ (.int .i64 m)).setCell ⟨w.heap.size, 1, none⟩ (.slice (some ⟨g, 0, none⟩) n n)).cell? ⟨w.heap.size, 0, none⟩ = some (.int .i64 m) := by
        rw [World.cell?_setCell_other _ _ _ _ (by simp)]
        exact World.cell?_setCell_same _ _ _ y0
      have c1 : ((wo.setCell ⟨w.heap.size, 0, none⟩ (.int .i64 m)).setCell ⟨w.heap.size, 1, none⟩ (.slice (some ⟨g, 0, none⟩) n n)).cell? ⟨w.heap.size, 1, none⟩ = some (.slice (some ⟨g, 0, none⟩) n n) :=
        World.cell?_setCell_same _ _ _ ((World.cell?_setCell_other _ _ _ _ (by simp)).trans y1)
      have hor := ownsRow_far_set HW.out (p := ⟨w.heap.size, 0, none⟩) (.int .i64 m) (by simp; omega)
      have hor2 := ownsRow_far_set hor (p := ⟨w.heap.size, 1, none⟩) (.slice (some ⟨g, 0, none⟩) n n) (by simp; omega)
      refine bodyPost_ret (v := .tuple #[.agg #[.int .i64 m, .slice (some ⟨g, 0, none⟩) n n], .bool true]) (by simp [results, Tryz.results60, go_sem, c0, c1]) rfl ⟨_, _, rfl, ?_, ?_⟩
      · rw [HSL.out]
        exact ownsRow_rebase hor2 (by omega)
      · exact (HBO.out.setCell (Nat.le_refl _) _).setCell (Nat.le_refl _) _
end Go.Proofs.YtmpcmeeoiapbdaaGreatDoor
