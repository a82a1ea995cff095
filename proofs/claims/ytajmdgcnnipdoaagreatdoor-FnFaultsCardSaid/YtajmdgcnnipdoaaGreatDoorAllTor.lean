/- AllTor: parts laid together: Fine, TorusNo, TorusI, TorusS, TorAll. -/
import Derived.Test.YtajmdgcnnipdoaaGreatDoorAllBase
import Derived.Test.YtajmdgcnnipdoaaGreatDoorAllTurn
import Derived.Test.YtajmdgcnnipdoaaGreatDoorTorus0
import Derived.Deep.DrawnRows
import Derived.Test.YtajmdgcnnipdoaaGreatDoorOrdered
import Derived.Test.YtajmdgcnnipdoaaGreatDoorAllPut0
import Derived.Test.YtajmdgcnnipdoaaGreatDoorAllPl
import Derived.Test.YtajmdgcnnipdoaaGreatDoorAllShp

/- Fine: the walks of l16Fine and isTorus: whether a torus has 1 to 5 columns and rows. -/
namespace Go.Proofs.YtajmdgcnnipdoaaGreatDoor
open Go.RowKit

theorem l16Fine_yes (a b : Int) (w : World) (ha1 : 1 ≤ a) (ha2 : a ≤ 5) (hb1 : 1 ≤ b) (hb2 : b ≤ 5) :
    Calls Tryz.prog 95 #[.int .i64 a, .int .i64 b] w fun e w' => e = .returned (.bool true) ∧ w = w' := by
  go_enter Tryz.func95, Tryz.ntmps95
  go_wp2_with (go_at_call 82; refine (l1In_yes _ _ _ _ (by omega) (by omega)).mono ?_; rintro e w' ⟨rfl, rfl⟩)
  all_goals go_ret
  all_goals exact ⟨rfl, rfl⟩
theorem l16Fine_no (a b : Int) (w : World) (h : ¬ (1 ≤ a ∧ a ≤ 5 ∧ 1 ≤ b ∧ b ≤ 5)) :
    Calls Tryz.prog 95 #[.int .i64 a, .int .i64 b] w fun e w' => e = .returned (.bool false) ∧ w = w' := by
  go_enter Tryz.func95, Tryz.ntmps95
  by_cases h1 : 1 ≤ a ∧ a ≤ 5
  · go_wp2_with (go_at_call 82; first | (refine (l1In_yes _ _ _ _ (by omega) (by omega)).mono ?_; rintro e w' ⟨rfl, rfl⟩) | (refine (l1In_no _ _ _ _ (by omega)).mono ?_; rintro e w' ⟨rfl, rfl⟩))
    all_goals go_ret
    all_goals exact ⟨rfl, rfl⟩
  · go_wp2_with (go_at_call 82; refine (l1In_no _ _ _ _ (by omega)).mono ?_; rintro e w' ⟨rfl, rfl⟩)
    all_goals go_ret
    all_goals exact ⟨rfl, rfl⟩

theorem isTorus_yes (a b : Int) (w : World) (ha1 : 1 ≤ a) (ha2 : a ≤ 5) (hb1 : 1 ≤ b) (hb2 : b ≤ 5) :
    Calls Tryz.prog 97 #[.int .i64 a, .int .i64 b] w fun e w' => e = .returned (.bool true) ∧ w = w' := by
  go_enter Tryz.func97, Tryz.ntmps97
  go_wp2_with (go_at_call 98; refine (between_yes _ _ _ _ (by omega) (by omega)).mono ?_; rintro e w' ⟨rfl, rfl⟩)
  all_goals go_ret
  all_goals exact ⟨rfl, rfl⟩
theorem isTorus_no (a b : Int) (w : World) (h : ¬ (1 ≤ a ∧ a ≤ 5 ∧ 1 ≤ b ∧ b ≤ 5)) :
    Calls Tryz.prog 97 #[.int .i64 a, .int .i64 b] w fun e w' => e = .returned (.bool false) ∧ w = w' := by
  go_enter Tryz.func97, Tryz.ntmps97
  by_cases h1 : 1 ≤ a ∧ a ≤ 5
  · go_wp2_with (go_at_call 98; first | (refine (between_yes _ _ _ _ (by omega) (by omega)).mono ?_; rintro e w' ⟨rfl, rfl⟩) | (refine (between_no _ _ _ _ (by omega)).mono ?_; rintro e w' ⟨rfl, rfl⟩))
    all_goals go_ret
    all_goals exact ⟨rfl, rfl⟩
  · go_wp2_with (go_at_call 98; refine (between_no _ _ _ _ (by omega)).mono ?_; rintro e w' ⟨rfl, rfl⟩)
    all_goals go_ret
    all_goals exact ⟨rfl, rfl⟩
end Go.Proofs.YtajmdgcnnipdoaaGreatDoor

/- TorusNo: the walks of TorusPlacements where there is nothing to place. -/
namespace Go.Proofs.YtajmdgcnnipdoaaGreatDoor
open Go.RowKit

attribute [local go_sem ↓] Go.wp_at_zero Go.wp_at_succ

set_option maxRecDepth 100000 in
set_option maxHeartbeats 3200000 in
theorem specTorus_no (x y : Int) (h : ¬ (1 ≤ x ∧ x ≤ 5 ∧ 1 ≤ y ∧ y ≤ 5)) (ad : Option Addr) (c : Nat) (l : List Cl) (w : World) (hn : l.length ≤ 1048576) (hc : CellsAt w ad (cls l)) :
    Calls Tryz.prog 58 #[.int .i64 x, .int .i64 y, .slice ad l.length c] w fun e w' => ∃ ad' c', e = .returned (.slice ad' 0 c') ∧ w'.ownsRow w.heap.size 3 1 (.slice ad' 0 c') 0 [] ∧ Below w.heap.size w w' := by
  have HOR := Lib.hid (fun w' hc' => specOrient ad c l w' hn hc')
  have HC := Lib.hid hc
  have HF := Lib.hid (fun w' => l16Fine_no x y w' h)
  have hrl := orientL_length l
  clear hc h
  generalize (orientL l).length = n at HOR hrl
  obtain ⟨w0, hw0⟩ : ∃ w0, w0 = w.alloc (.cells #[] 3) := ⟨_, rfl⟩
  have hb0 : Below w.heap.size w w0 := by rw [hw0]; exact (Below.refl _ _).alloc (Nat.le_refl _) _
  have ho0 : w0.ownsRow w.heap.size 3 1 (.slice (some ⟨w.heap.size, 0, none⟩) 0 0) 0 [] := by rw [hw0]; exact ownsRow_empty _ _ _
  have hsz0 := hb0.size
  have HB0 := Lib.hid hb0
  have HO0 := Lib.hid ho0
  have HW0 := Lib.hid hw0
  clear hb0 ho0 hw0
  go_enter Tryz.func58, Tryz.ntmps58
  go_wp2_with fail
  rw [← HW0.out]
  refine (HOR.out w0 (HC.out.below HB0.out)).mono ?_
  rintro e w1 ⟨a1, c1, rfl, hsp, hb1⟩
  have HB1 := Lib.hid (HB0.out.trans (hb1.mono hsz0))
  have HO1 := Lib.hid (ownsRow_far_below HO0.out hb1 (Nat.le_refl _))
  clear hsp hb1
  go_wp2
  go_loopw [7, 9] (fun s i wr => s = .slice (some ⟨w.heap.size, 0, none⟩) 0 0 ∧ i = .int .i64 0 ∧ w1 = wr) (fun _ i _ => 8 - (intOf i).toNat)
  case atStart => exact ⟨rfl, rfl, rfl⟩
  case round =>
    obtain ⟨rfl, rfl, rfl⟩ := hrel
    by_cases h0 : 0 < n
    · have i1 : (0 : Int) < (n : Int) := by omega
      have d2 : decide (0 < n) = true := decide_eq_true h0
      go_wp2_with fail
      refine (HF.out w1).mono ?_
      rintro e w' ⟨rfl, rfl⟩
      go_wp2
      go_ret
      exact ⟨_, 0, rfl, HO1.out, HB1.out⟩
    · obtain rfl : n = 0 := by omega
      go_wp2
      go_ret
      exact ⟨_, 0, rfl, HO1.out, HB1.out⟩

set_option maxRecDepth 100000 in
set_option maxHeartbeats 3200000 in
theorem implTorus_no (x y : Int) (ad : Option Addr) (c : Nat) (l : List Cl) (w : World) (h : ¬ ((1 ≤ x ∧ x ≤ 5 ∧ 1 ≤ y ∧ y ≤ 5) ∧ Shape l)) (hn : l.length ≤ 1048576) (hc : CellsAt w ad (cls l)) :
    Calls Tryz.prog 57 #[.int .i64 x, .int .i64 y, .slice ad l.length c] w fun e w' => e = .returned (.slice none 0 0) ∧ Below w.heap.size w w' := by
  have HC := Lib.hid hc
  by_cases hf : 1 ≤ x ∧ x ≤ 5 ∧ 1 ≤ y ∧ y ≤ 5
  · have hs : ¬ Shape l := fun q => h ⟨hf, q⟩
    obtain ⟨h1, h2, h3, h4⟩ := hf
    have HSH := Lib.hid ((implShape ad c l w hn hc).mono (fun e w'' (q : _ ∧ _) => (⟨by rw [q.1, decide_eq_false hs], q.2⟩ : e = .returned (.bool false) ∧ Below w.heap.size w w'')))
    clear hs h hc
    go_enter Tryz.func57, Tryz.ntmps57
    go_wp2_with (go_at_call 97; refine (isTorus_yes _ _ _ (by omega) (by omega) (by omega) (by omega)).mono ?_; rintro e w' ⟨rfl, rfl⟩)
    refine HSH.out.mono ?_
    rintro e w1 ⟨rfl, hb1⟩
    have HB1 := Lib.hid hb1
    clear hb1
    go_wp2
    go_ret
    exact ⟨rfl, HB1.out⟩
  · have HF := Lib.hid (isTorus_no x y w hf)
    clear h hc hf
    go_enter Tryz.func57, Tryz.ntmps57
    go_wp2_with fail
    refine HF.out.mono ?_
    rintro e w' ⟨rfl, rfl⟩
    go_wp2
    go_ret
    exact ⟨rfl, Below.refl _ _⟩
end Go.Proofs.YtajmdgcnnipdoaaGreatDoor

/- TorusI: the walk of the program's TorusPlacements for a shape on a torus that is one. -/
namespace Go.Proofs.YtajmdgcnnipdoaaGreatDoor
open Go.RowKit

attribute [local go_sem ↓] Go.wp_at_zero Go.wp_at_succ



set_option maxRecDepth 100000 in
set_option maxHeartbeats 6400000 in
theorem implTorus_yes (W H : Nat) (hW : 1 ≤ W ∧ W ≤ 5) (hH : 1 ≤ H ∧ H ≤ 5) (ad : Option Addr) (c : Nat) (l : List Cl) (w : World) (hs : Shape l) (hn : l.length ≤ 1048576) (hc : CellsAt w ad (cls l)) :
    Calls Tryz.prog 57 #[.int .i64 W, .int .i64 H, .slice ad l.length c] w fun e w' => ∃ ad' c', e = .returned (.slice ad' (putAllG ltI (torTo W H (orientL l) (orientL l).length)).length c') ∧ w'.ownsRow w.heap.size 3 1 (.slice ad' (putAllG ltI (torTo W H (orientL l) (orientL l).length)).length c') (putAllG ltI (torTo W H (orientL l) (orientL l).length)).length (ints (putAllG ltI (torTo W H (orientL l) (orientL l).length))) ∧ Below w.heap.size w w' := by
  have HSHP := Lib.hid (fun t (ht : t ∈ orientL l) => orientL_shape ht)
  have hrl := orientL_length l
  have HSHY := Lib.hid (fun w' hc' => (implShape ad c l w' hn hc').mono (fun e w'' (q : _ ∧ _) => (⟨by rw [q.1, decide_eq_true hs], q.2⟩ : e = .returned (.bool true) ∧ Below w'.heap.size w' w'')))
  have HOR := Lib.hid (fun w' hc' => implOrient ad c l w' hn hc')
  have HC := Lib.hid hc
  clear hc hs
  generalize orientL l = rows at HSHP hrl HOR ⊢
  obtain ⟨WH, hWH⟩ : ∃ WH, WH = W * H := ⟨_, rfl⟩
  have hWH25 : WH ≤ 25 := by rw [hWH]; exact Nat.mul_le_mul hW.2 hH.2
  have hm : (W : Int) * (H : Int) = (WH : Int) := by rw [hWH]; norm_cast
  have swh : IntKind.i64.wrap (WH : Int) = (WH : Int) := IntWalk.i64_in _ (by omega)
  have HTL := Lib.hid (fun i => torTo_length W H (by rw [← hWH]; exact hWH25) rows i)
  have HWH := Lib.hid hWH
  obtain ⟨hW1, hW5⟩ := hW
  obtain ⟨hH1, hH5⟩ := hH
  clear hWH
  go_enter Tryz.func57, Tryz.ntmps57
  go_wp2_with (go_at_call 97; refine (isTorus_yes _ _ _ (by omega) (by omega) (by omega) (by omega)).mono ?_; rintro e w' ⟨rfl, rfl⟩)
  refine (HSHY.out w HC.out).mono ?_
  rintro e w0 ⟨rfl, hb0⟩
  have HB0 := Lib.hid hb0
  have hsz0 := hb0.size
  clear hb0
  go_wp2_with fail
  refine (HOR.out w0 (HC.out.below HB0.out)).mono ?_
  rintro e w1 ⟨a1, c1, rfl, hsp, hb1⟩
  have HB1 := Lib.hid (HB0.out.trans (hb1.mono hsz0))
  have hsz1 := HB1.out.size
  have HSP := Lib.hid hsp
  clear hsp hb1
  go_wp2
  go_loopw [7, 28] (fun s i wr => ∃ k : Nat, k ≤ rows.length ∧ i = .int .i64 k ∧ (∃ ad' c', s = .slice ad' (torTo W H rows k).length c' ∧ wr.ownsRow w1.heap.size 3 1 (.slice ad' (torTo W H rows k).length c') (torTo W H rows k).length (ints (torTo W H rows k))) ∧ Below w.heap.size w wr ∧ Below w1.heap.size w1 wr) (fun _ i _ => rows.length - (intOf i).toNat)
  case atStart => exact ⟨0, by omega, rfl, ⟨none, 0, rfl, World.ownsRow_nil _ _ _ _⟩, HB1.out, Below.refl _ _⟩
  case round =>
    obtain ⟨i, hi, rfl, ⟨a2, c2, rfl, ho2⟩, hb2, hb21⟩ := hrel
    have HO2 := Lib.hid ho2
    have HB2 := Lib.hid hb2
    have HB21 := Lib.hid hb21
    have hsz2 := hb2.size
    have hti := HTL.out i
    clear ho2 hb2 hb21
    by_cases hilt : i < rows.length
    · have hil : (i : Int) < (rows.length : Int) := by omega
      obtain ⟨g, off, ai, ci, rfl, hg, hcell, hrow⟩ := HSP.out.row hilt
      have hsh := HSHP.out _ (List.getElem_mem hilt)
      have hst : torTo W H rows (i + 1) = torTo W H rows i ++ torRow W H rows[i] WH := by rw [HWH.out, ← getDG hilt]; rfl
      have HST := Lib.hid hst
      have HROW := Lib.hid hrow
      have HCELL := Lib.hid hcell
      clear hst hrow hcell
      generalize rows[i] = t at hsh HST HROW HCELL
      have HT8 := Lib.hid hsh.2
      have HTIN := Lib.hid hsh.1.2
      generalize torTo W H rows i = L at hti HO2 HST ⊢
      clear hsh
      have hcell0 := (HB21.out.cell (p := ⟨g, off + i, none⟩) (by simp; omega)).trans HCELL.out
      go_wp2
      go_loopw [7, 35] (fun s i wr => ∃ a : Nat, a ≤ WH ∧ i = .int .i64 a ∧ (∃ ad' c', s = .slice ad' (L ++ torRow W H t a).length c' ∧ wr.ownsRow w1.heap.size 3 1 (.slice ad' (L ++ torRow W H t a).length c') (L ++ torRow W H t a).length (ints (L ++ torRow W H t a))) ∧ Below w.heap.size w wr ∧ Below w1.heap.size w1 wr) (fun _ i _ => WH - (intOf i).toNat)
      case atStart => exact ⟨0, by omega, rfl, by rw [show L ++ torRow W H t 0 = L from List.append_nil _]; exact ⟨_, _, rfl, HO2.out⟩, HB2.out, HB21.out⟩
      case round =>
        obtain ⟨a, ha, rfl, ⟨a3, c3, rfl, ho3⟩, hb3, hb31⟩ := hrel
        obtain ⟨wo, rfl⟩ : ∃ wo, wo = wr := ⟨_, rfl⟩
        have HO3 := Lib.hid ho3
        have HB3 := Lib.hid hb3
        have HB31 := Lib.hid hb31
        have hsz3 := hb3.size
        have hsz31 := hb31.size
        have htr := torRow_length W H t a
        clear ho3 hb3 hb31
        by_cases halt : a < WH
        · have hal : (a : Int) < (WH : Int) := by omega
          have hcell := (HB31.out.cell (p := ⟨g, off + i, none⟩) (by simp; omega)).trans HCELL.out
          have hst2 : torRow W H t (a + 1) = torRow W H t a ++ torOne W H t a := rfl
          have HST2 := Lib.hid hst2
          have HCO := Lib.hid (HROW.out.below HB31.out)
          obtain ⟨ht1, ht8⟩ := HT8.out
          clear hst2
          rw [HWH.out] at halt
          go_wp2
          go_loopw [11, 12, 40] (fun m f i wr => ∃ k : Nat, k ≤ t.length ∧ i = .int .i64 k ∧ m = .int .i64 ((torS W H a (t.take k)).1 : Nat) ∧ f = .bool (torS W H a (t.take k)).2 ∧ Below wo.heap.size wo wr) (fun _ _ i _ => t.length - (intOf i).toNat)
          case atStart => exact ⟨0, by omega, rfl, rfl, rfl, Below.refl _ _⟩
          case round =>
            obtain ⟨k, hk, rfl, rfl, rfl, hbk⟩ := hrel
            have HBK := Lib.hid hbk
            have hszk := hbk.size
            have cellk := (hbk.cell (p := ⟨g, off + i, none⟩) (by simp; omega)).trans hcell
            clear hbk
            by_cases hlt : k < t.length
            · have i1 : (k : Int) < (t.length : Int) := by omega
              obtain ⟨gt, ot, rfl, hgt, hcc⟩ := cl_open HCO.out (by omega)
              obtain ⟨v0, v1⟩ := hcc k hlt
              have x0 := (HBK.out.cell (p := ⟨gt, ot + k * 2, none⟩) hgt).trans v0
              have x1 := (HBK.out.cell (p := ⟨gt, ot + k * 2 + 1, none⟩) hgt).trans v1
              have hon := HTIN.out _ (List.getElem_mem hlt)
              obtain ⟨M, F, hS⟩ : ∃ M F, torS W H a (t.take k) = (M, F) := ⟨_, _, rfl⟩
              obtain ⟨X, Y, hd, hX7, hY7⟩ : ∃ X Y : Nat, t[k] = ⟨(X : Int), (Y : Int)⟩ ∧ X ≤ 7 ∧ Y ≤ 7 := by
                unfold OnB at hon
                refine ⟨t[k].x.toNat, t[k].y.toNat, ?_, by omega, by omega⟩
                rw [Int.toNat_of_nonneg hon.1.1, Int.toNat_of_nonneg hon.2.1]
              rw [hS]
              rw [hd] at x0 x1
              have hbB : Below wr.heap.size wr (wr.alloc (.cells #[.int .i64 X, .int .i64 Y] 91)) := (Below.refl _ _).alloc (Nat.le_refl _) _
              have hbox := cl_box (heap_alloc_new wr (.cells #[.int .i64 X, .int .i64 Y] 91))
              have HBB := Lib.hid hbB
              have HBOX := Lib.hid hbox
              have HBBK := Lib.hid (HBK.out.trans (hbB.mono hszk))
              clear hbB hbox
              simp only at x0 x1
              clear v0 v1 hcc hon
              obtain ⟨q, r, s1, s2, s3, s4, s5, b, hb, n0, n1, n2, n3, n4, n5, n6, n7, e1, e2, e3, e4, e5, e6, e7, e8⟩ := tor_nums (a := a) (X := X) (Y := Y) ⟨hW1, hW5⟩ ⟨hH1, hH5⟩ halt hX7 hY7
              have t1 : IntKind.i64.wrap (q : Int) = (q : Int) := IntWalk.i64_in _ (by omega)
              have t2 : IntKind.i64.wrap (s1 : Int) = (s1 : Int) := IntWalk.i64_in _ (by omega)
              have t3 : IntKind.i64.wrap (s3 : Int) = (s3 : Int) := IntWalk.i64_in _ (by omega)
              have t4 : IntKind.i64.wrap (s4 : Int) = (s4 : Int) := IntWalk.i64_in _ (by omega)
              have t5 : IntKind.i64.wrap (b : Int) = (b : Int) := IntWalk.i64_in _ (by omega)
              have w0_ : ¬ W = 0 := by omega
              have h0_ : ¬ H = 0 := by omega
              have hnx : torS W H a (t.take (k + 1)) = (M ||| 2 ^ b, F && !M.testBit b) := by
                rw [torS_take W H a t k hlt, hS, hd]
                unfold torStep
                rw [← hb]
              have HNX := Lib.hid hnx
              have hM2 : M < 33554432 := by
                have h := torS_lt (W := W) (H := H) (a := a) (by omega) (by omega) (t.take k)
                rw [hS] at h
                have h2 : 2 ^ (W * H) ≤ 2 ^ 25 := Nat.pow_le_pow_right (by omega) (show W * H ≤ 25 from Nat.mul_le_mul hW5 hH5)
                have h3 : (2 : Nat) ^ 25 = 33554432 := by decide
                omega
              obtain ⟨pb, hpb⟩ : ∃ pb, pb = 2 ^ b := ⟨_, rfl⟩
              have hpb1 : pb ≤ 16777216 := by
                have h2 : 2 ^ b ≤ 2 ^ 24 := Nat.pow_le_pow_right (by omega) n0
                have h3 : (2 : Nat) ^ 24 = 16777216 := by decide
                omega
              have hpw : wrap64 (2 ^ b) = (pb : Int) := by
                rw [hpb, show ((2 : Int) ^ b) = ((2 ^ b : Nat) : Int) by norm_cast]
                rw [← hpb]
                have := IntWalk.i64_in (pb : Int) (by omega)
                rw [IntWalk.i64_left] at this
                exact this
              have HNZ := Lib.hid (show M.testBit b = true → M &&& pb ≠ 0 by rw [hpb]; exact and_pow_ne)
              have HZZ := Lib.hid (show M.testBit b = false → M &&& pb = 0 by rw [hpb]; exact and_two_pow_zero)
              rw [← hpb] at HNX
              clear hpb hnx
              have hor : bits .or .i64 (M : Int) (pb : Int) = ((M ||| pb : Nat) : Int) := i64_or_nat M pb (Nat.lt_trans hM2 (by decide)) (Nat.lt_of_le_of_lt hpb1 (by decide))
              have hand : bits .and .i64 (M : Int) (pb : Int) = ((M &&& pb : Nat) : Int) := i64_and_nat M pb (Nat.lt_trans hM2 (by decide)) (Nat.lt_of_le_of_lt hpb1 (by decide))
              obtain ⟨vv, hvv⟩ : ∃ vv, vv = M &&& pb := ⟨_, rfl⟩
              rw [← hvv] at hand
              have hzt : M.testBit b = true → ((vv : Int) == 0) = false := fun h => by
                have := HNZ.out h
                rw [← hvv] at this
                simp; omega
              have hzf : M.testBit b = false → ((vv : Int) == 0) = true := fun h => by
                have := HZZ.out h
                rw [← hvv] at this
                simp; omega
              clear hvv
              clear hS hd hb
              cases F with
              | true =>
                cases htb : M.testBit b with
                | true =>
                  have hsh := hzt htb
                  clear hzt hzf
                  rw [htb] at HNX
                  go_upto_region 14 with (fail)
                  generalize wr.alloc (.cells #[.int .i64 X, .int .i64 Y] 91) = wb at HBB HBOX HBBK ⊢
                  obtain ⟨z0, z1⟩ := HBOX.out
                  go_big_quiet (fail)
                  go_wp2
                  go_roundw
                  case rel => exact ⟨k + 1, by omega, by go_num, by rw [HNX.out], by rw [HNX.out]; rfl, below_drewN HBBK.out _⟩
                  case measure => simp [intOf]; omega
                | false =>
                  have hsh := hzf htb
                  clear hzt hzf
                  rw [htb] at HNX
                  go_upto_region 14 with (fail)
                  generalize wr.alloc (.cells #[.int .i64 X, .int .i64 Y] 91) = wb at HBB HBOX HBBK ⊢
                  obtain ⟨z0, z1⟩ := HBOX.out
                  go_big_quiet (fail)
                  go_wp2
                  go_roundw
                  case rel => exact ⟨k + 1, by omega, by go_num, by rw [HNX.out], by rw [HNX.out]; rfl, below_drewN HBBK.out _⟩
                  case measure => simp [intOf]; omega
              | false =>
                rw [Bool.false_and] at HNX
                clear hzt hzf hand
                go_upto_region 14 with (fail)
                generalize wr.alloc (.cells #[.int .i64 X, .int .i64 Y] 91) = wb at HBB HBOX HBBK ⊢
                obtain ⟨z0, z1⟩ := HBOX.out
                go_big_quiet (fail)
                go_wp2
                go_roundw
                case rel => exact ⟨k + 1, by omega, by go_num, by rw [HNX.out], by rw [HNX.out], below_drewN HBBK.out _⟩
                case measure => simp [intOf]; omega
            · obtain rfl : k = t.length := by omega
              rw [List.take_length]
              have i1 : ¬ (t.length : Int) < (t.length : Int) := by omega
              have hone : torOne W H t a = if (torS W H a t).2 = true then [(((torS W H a t).1 : Nat) : Int)] else [] := rfl
              obtain ⟨M, F, hS⟩ : ∃ M F, torS W H a t = (M, F) := ⟨_, _, rfl⟩
              rw [hS] at hone ⊢
              clear hS
              cases F with
              | true =>
                rw [if_pos rfl] at hone
                have HAPP := Lib.hid (show L ++ torRow W H t (a + 1) = L ++ torRow W H t a ++ [(M : Int)] by rw [HST2.out, hone, ← List.append_assoc])
                have HFAR := Lib.hid (ownsRow_far_below HO3.out HBK.out (Nat.le_refl _))
                have hla : (L ++ torRow W H t a).length ≤ 300 := by rw [List.length_append]; omega
                have HIN2 := Lib.hid (ints_append (L ++ torRow W H t a) [(M : Int)])
                clear hone
                generalize L ++ torRow W H t a = LL at HFAR HAPP hla HIN2 ⊢
                go_wp2_with (at_builtin; refine wpList_app1 rfl (.tmp 76) (.tmp 78) 24 rfl w1.heap.size 3 _ 1 8 Tryz.elemInt _ LL.length (ints LL) _ _ _ rfl rfl rfl HFAR.out (by rfl) (by simp [Value.oneCell']) (by unfold maxLen; omega) (by omega) (by omega) ?_; intro g4 c4 w4 q1 q2 q3 q4 q5 q6)
                have HO4 := Lib.hid q1
                have hbb1 : Below w1.heap.size w1 w4 := HB31.out.trans ((HBK.out.mono hsz31).trans q2)
                have hbb := HB1.out.trans (hbb1.mono hsz1)
                go_roundw
                case rel =>
                  refine ⟨a + 1, by rw [HWH.out]; omega, by go_num, ?_, hbb, hbb1⟩
                  rw [HAPP.out]
                  refine ⟨some ⟨g4, 0, none⟩, c4, by rw [List.length_append]; rfl, ?_⟩
                  rw [List.length_append, HIN2.out]
                  exact HO4.out
                case measure => simp [intOf]; omega
              | false =>
                rw [if_neg (by simp)] at hone
                have HSAME := Lib.hid (show L ++ torRow W H t (a + 1) = L ++ torRow W H t a by rw [HST2.out, hone, List.append_nil])
                clear hone
                go_wp2
                go_roundw
                case rel => exact ⟨a + 1, by rw [HWH.out]; omega, by go_num, by rw [HSAME.out]; exact ⟨a3, c3, rfl, ownsRow_far_below HO3.out HBK.out (Nat.le_refl _)⟩, HB3.out.trans (HBK.out.mono hsz3), HB31.out.trans (HBK.out.mono hsz31)⟩
                case measure => simp [intOf]; omega
        · obtain rfl : a = WH := by omega
          go_wp2
          go_roundw
          case rel => exact ⟨i + 1, by omega, by go_num, by rw [HST.out]; exact ⟨a3, c3, rfl, HO3.out⟩, HB3.out, HB31.out⟩
          case measure => simp [intOf]; omega
    · obtain rfl : i = rows.length := by omega
      have hti2 := HTL.out rows.length
      have hod := ordered_any a2 c2 (torTo W H rows rows.length) wr (by omega) (ownsRow_le_cap HO2.out).2 (ownsRow_cellsAt HO2.out)
      have HOD := Lib.hid hod
      clear hod
      generalize hLL : torTo W H rows rows.length = L at HOD
      have HLL := Lib.hid hLL
      clear hLL
      go_wp2_with fail
      refine HOD.out.mono ?_
      rintro e w4 ⟨a4, c4, rfl, ho4, hb4⟩
      have HO4 := Lib.hid ho4
      have HB4 := Lib.hid (HB2.out.trans (hb4.mono hsz2))
      clear ho4 hb4
      go_wp2
      go_ret
      rw [HLL.out]
      exact ⟨a4, c4, rfl, ownsRow_rebase HO4.out hsz2, HB4.out⟩

end Go.Proofs.YtajmdgcnnipdoaaGreatDoor

/- TorusS: the walk of the reference's TorusPlacements on a torus that is one. -/
namespace Go.Proofs.YtajmdgcnnipdoaaGreatDoor
open Go.RowKit

attribute [local go_sem ↓] Go.wp_at_zero Go.wp_at_succ


set_option maxRecDepth 100000 in
set_option maxHeartbeats 6400000 in
theorem specTorus_yes (W H : Nat) (hW : 1 ≤ W ∧ W ≤ 5) (hH : 1 ≤ H ∧ H ≤ 5) (ad : Option Addr) (c : Nat) (l : List Cl) (w : World) (hn : l.length ≤ 1048576) (hc : CellsAt w ad (cls l)) :
    Calls Tryz.prog 58 #[.int .i64 W, .int .i64 H, .slice ad l.length c] w fun e w' => ∃ ad' c', e = .returned (.slice ad' (putAllG ltI (torTo W H (orientL l) (orientL l).length)).length c') ∧ w'.ownsRow w.heap.size 3 1 (.slice ad' (putAllG ltI (torTo W H (orientL l) (orientL l).length)).length c') (putAllG ltI (torTo W H (orientL l) (orientL l).length)).length (ints (putAllG ltI (torTo W H (orientL l) (orientL l).length))) ∧ Below w.heap.size w w' := by
  have HSHP := Lib.hid (fun t (ht : t ∈ orientL l) => orientL_shape ht)
  have hrl := orientL_length l
  have HOR := Lib.hid (fun w' hc' => specOrient ad c l w' hn hc')
  have HC := Lib.hid hc
  clear hc
  generalize orientL l = rows at HSHP hrl HOR ⊢
  obtain ⟨WH, hWH⟩ : ∃ WH, WH = W * H := ⟨_, rfl⟩
  have hWH25 : WH ≤ 25 := by rw [hWH]; exact Nat.mul_le_mul hW.2 hH.2
  have hm : (W : Int) * (H : Int) = (WH : Int) := by rw [hWH]; norm_cast
  have swh : IntKind.i64.wrap (WH : Int) = (WH : Int) := IntWalk.i64_in _ (by omega)
  have HTL := Lib.hid (fun i => torTo_length W H (by rw [← hWH]; exact hWH25) rows i)
  have HWH := Lib.hid hWH
  obtain ⟨hW1, hW5⟩ := hW
  obtain ⟨hH1, hH5⟩ := hH
  clear hWH
  obtain ⟨w0, hw0⟩ : ∃ w0, w0 = w.alloc (.cells #[] 3) := ⟨_, rfl⟩
  have hb0 : Below w.heap.size w w0 := by rw [hw0]; exact (Below.refl _ _).alloc (Nat.le_refl _) _
  have ho0 : w0.ownsRow w.heap.size 3 1 (.slice (some ⟨w.heap.size, 0, none⟩) 0 0) 0 [] := by rw [hw0]; exact ownsRow_empty _ _ _
  have hsz0 := hb0.size
  have HB0 := Lib.hid hb0
  have HO0 := Lib.hid ho0
  have HW0 := Lib.hid hw0
  clear hb0 ho0 hw0
  go_enter Tryz.func58, Tryz.ntmps58
  go_wp2_with fail
  rw [← HW0.out]
  refine (HOR.out w0 (HC.out.below HB0.out)).mono ?_
  rintro e w1 ⟨a1, c1, rfl, hsp, hb1⟩
  have HB1 := Lib.hid (HB0.out.trans (hb1.mono hsz0))
  have hsz1 := HB1.out.size
  have HSP := Lib.hid hsp
  have HO1 := Lib.hid (ownsRow_far_below HO0.out hb1 (Nat.le_refl _))
  clear hsp hb1
  go_wp2
  go_loopw [7, 9] (fun s i wr => ∃ k : Nat, k ≤ rows.length ∧ i = .int .i64 k ∧ (∃ ad' c', s = .slice ad' (putAllG ltI (torTo W H rows k)).length c' ∧ wr.ownsRow w.heap.size 3 1 (.slice ad' (putAllG ltI (torTo W H rows k)).length c') (putAllG ltI (torTo W H rows k)).length (ints (putAllG ltI (torTo W H rows k)))) ∧ Below w.heap.size w wr ∧ Below w1.heap.size w1 wr) (fun _ i _ => rows.length - (intOf i).toNat)
  case atStart => exact ⟨0, by omega, rfl, ⟨_, _, rfl, HO1.out⟩, HB1.out, Below.refl _ _⟩
  case round =>
    obtain ⟨i, hi, rfl, ⟨a2, c2, rfl, ho2⟩, hb2, hb21⟩ := hrel
    have HO2 := Lib.hid ho2
    have HB2 := Lib.hid hb2
    have HB21 := Lib.hid hb21
    have hsz2 := hb2.size
    have hti := HTL.out i
    clear ho2 hb2 hb21
    by_cases hilt : i < rows.length
    · have hil : (i : Int) < (rows.length : Int) := by omega
      obtain ⟨g, off, ai, ci, rfl, hg, hcell, hrow⟩ := HSP.out.row hilt
      have hsh := HSHP.out _ (List.getElem_mem hilt)
      have hst : torTo W H rows (i + 1) = torTo W H rows i ++ torRow W H rows[i] WH := by rw [HWH.out, ← getDG hilt]; rfl
      have HST := Lib.hid hst
      have HROW := Lib.hid hrow
      have HCELL := Lib.hid hcell
      clear hst hrow hcell
      generalize rows[i] = t at hsh HST HROW HCELL
      have HT8 := Lib.hid hsh.2
      have HTIN := Lib.hid hsh.1.2
      generalize torTo W H rows i = L at hti HO2 HST ⊢
      clear hsh
      go_wp2_with (go_at_call 95; refine (l16Fine_yes _ _ _ (by omega) (by omega) (by omega) (by omega)).mono ?_; rintro e w' ⟨rfl, rfl⟩)
      go_loopw [7, 10] (fun s i wr => ∃ a : Nat, a ≤ WH ∧ i = .int .i64 a ∧ (∃ ad' c', s = .slice ad' (putAllG ltI (L ++ torRow W H t a)).length c' ∧ wr.ownsRow w.heap.size 3 1 (.slice ad' (putAllG ltI (L ++ torRow W H t a)).length c') (putAllG ltI (L ++ torRow W H t a)).length (ints (putAllG ltI (L ++ torRow W H t a)))) ∧ Below w.heap.size w wr ∧ Below w1.heap.size w1 wr) (fun _ i _ => WH - (intOf i).toNat)
      case atStart => exact ⟨0, by omega, rfl, by rw [show L ++ torRow W H t 0 = L from List.append_nil _]; exact ⟨_, _, rfl, HO2.out⟩, HB2.out, HB21.out⟩
      case round =>
        obtain ⟨a, ha, rfl, ⟨a3, c3, rfl, ho3⟩, hb3, hb31⟩ := hrel
        obtain ⟨wo, rfl⟩ : ∃ wo, wo = wr := ⟨_, rfl⟩
        have HO3 := Lib.hid ho3
        have HB3 := Lib.hid hb3
        have HB31 := Lib.hid hb31
        have hsz3 := hb3.size
        have hsz31 := hb31.size
        have htr := torRow_length W H t a
        clear ho3 hb3 hb31
        by_cases halt : a < WH
        · have hal : (a : Int) < (WH : Int) := by omega
          have hcell := (HB31.out.cell (p := ⟨g, off + i, none⟩) (by simp; omega)).trans HCELL.out
          have hlen3 := putAllG_length (lt := ltI) (L ++ torRow W H t a)
          rw [List.length_append] at hlen3
          have hst2 : torRow W H t (a + 1) = torRow W H t a ++ torOne W H t a := rfl
          have HST2 := Lib.hid hst2
          have HCO := Lib.hid (HROW.out.below HB31.out)
          obtain ⟨ht1, ht8⟩ := HT8.out
          clear hst2
          rw [HWH.out] at halt
          go_wp2
          go_loopw [11, 12, 13] (fun m f i wr => ∃ k : Nat, k ≤ t.length ∧ i = .int .i64 k ∧ m = .int .i64 ((torS W H a (t.take k)).1 : Nat) ∧ f = .bool (torS W H a (t.take k)).2 ∧ Below wo.heap.size wo wr) (fun _ _ i _ => t.length - (intOf i).toNat)
          case atStart => exact ⟨0, by omega, rfl, rfl, rfl, Below.refl _ _⟩
          case round =>
            obtain ⟨k, hk, rfl, rfl, rfl, hbk⟩ := hrel
            have HBK := Lib.hid hbk
            have hszk := hbk.size
            have cellk := (hbk.cell (p := ⟨g, off + i, none⟩) (by simp; omega)).trans hcell
            clear hbk
            by_cases hlt : k < t.length
            · have i1 : (k : Int) < (t.length : Int) := by omega
              obtain ⟨gt, ot, rfl, hgt, hcc⟩ := cl_open HCO.out (by omega)
              obtain ⟨v0, v1⟩ := hcc k hlt
              have x0 := (HBK.out.cell (p := ⟨gt, ot + k * 2, none⟩) hgt).trans v0
              have x1 := (HBK.out.cell (p := ⟨gt, ot + k * 2 + 1, none⟩) hgt).trans v1
              have hon := HTIN.out _ (List.getElem_mem hlt)
              obtain ⟨M, F, hS⟩ : ∃ M F, torS W H a (t.take k) = (M, F) := ⟨_, _, rfl⟩
              obtain ⟨X, Y, hd, hX7, hY7⟩ : ∃ X Y : Nat, t[k] = ⟨(X : Int), (Y : Int)⟩ ∧ X ≤ 7 ∧ Y ≤ 7 := by
                unfold OnB at hon
                refine ⟨t[k].x.toNat, t[k].y.toNat, ?_, by omega, by omega⟩
                rw [Int.toNat_of_nonneg hon.1.1, Int.toNat_of_nonneg hon.2.1]
              rw [hS]
              rw [hd] at x0 x1
              simp only at x0 x1
              clear v0 v1 hcc hon
              obtain ⟨q, r, s1, s2, s3, s4, s5, b, hb, n0, n1, n2, n3, n4, n5, n6, n7, e1, e2, e3, e4, e5, e6, e7, e8⟩ := tor_nums (a := a) (X := X) (Y := Y) ⟨hW1, hW5⟩ ⟨hH1, hH5⟩ halt hX7 hY7
              have t1 : IntKind.i64.wrap (q : Int) = (q : Int) := IntWalk.i64_in _ (by omega)
              have t2 : IntKind.i64.wrap (s1 : Int) = (s1 : Int) := IntWalk.i64_in _ (by omega)
              have t3 : IntKind.i64.wrap (s3 : Int) = (s3 : Int) := IntWalk.i64_in _ (by omega)
              have t4 : IntKind.i64.wrap (s4 : Int) = (s4 : Int) := IntWalk.i64_in _ (by omega)
              have t5 : IntKind.i64.wrap (b : Int) = (b : Int) := IntWalk.i64_in _ (by omega)
              have w0_ : ¬ W = 0 := by omega
              have h0_ : ¬ H = 0 := by omega
              have hnx : torS W H a (t.take (k + 1)) = (M ||| 2 ^ b, F && !M.testBit b) := by
                rw [torS_take W H a t k hlt, hS, hd]
                unfold torStep
                rw [← hb]
              have HNX := Lib.hid hnx
              have hM2 : M < 33554432 := by
                have h := torS_lt (W := W) (H := H) (a := a) (by omega) (by omega) (t.take k)
                rw [hS] at h
                have h2 : 2 ^ (W * H) ≤ 2 ^ 25 := Nat.pow_le_pow_right (by omega) (show W * H ≤ 25 from Nat.mul_le_mul hW5 hH5)
                have h3 : (2 : Nat) ^ 25 = 33554432 := by decide
                omega
              obtain ⟨pb, hpb⟩ : ∃ pb, pb = 2 ^ b := ⟨_, rfl⟩
              have hpb1 : pb ≤ 16777216 := by
                have h2 : 2 ^ b ≤ 2 ^ 24 := Nat.pow_le_pow_right (by omega) n0
                have h3 : (2 : Nat) ^ 24 = 16777216 := by decide
                omega
              have hpw : wrap64 (2 ^ b) = (pb : Int) := by
                rw [hpb, show ((2 : Int) ^ b) = ((2 ^ b : Nat) : Int) by norm_cast]
                rw [← hpb]
                have := IntWalk.i64_in (pb : Int) (by omega)
                rw [IntWalk.i64_left] at this
                exact this
              rw [← hpb] at HNX
              clear hpb hnx
              have hor : bits .or .i64 (M : Int) (pb : Int) = ((M ||| pb : Nat) : Int) := i64_or_nat M pb (Nat.lt_trans hM2 (by decide)) (Nat.lt_of_le_of_lt hpb1 (by decide))
              have hsh := and_shr_one M b (Nat.lt_trans hM2 (by decide))
              clear hS hd hb
              cases F with
              | true =>
                cases htb : M.testBit b with
                | true =>
                  rw [htb, if_pos rfl] at hsh
                  rw [htb] at HNX
                  go_wp2
                  go_big_quiet (fail)
                  go_wp2
                  go_roundw
                  case rel => exact ⟨k + 1, by omega, by go_num, by rw [HNX.out], by rw [HNX.out]; rfl, below_drewN HBK.out _⟩
                  case measure => simp [intOf]; omega
                | false =>
                  rw [htb, if_neg (by simp)] at hsh
                  rw [htb] at HNX
                  go_wp2
                  go_big_quiet (fail)
                  go_wp2
                  go_roundw
                  case rel => exact ⟨k + 1, by omega, by go_num, by rw [HNX.out], by rw [HNX.out]; rfl, below_drewN HBK.out _⟩
                  case measure => simp [intOf]; omega
              | false =>
                rw [Bool.false_and] at HNX
                clear hsh
                go_wp2
                go_big_quiet (fail)
                go_wp2
                go_roundw
                case rel => exact ⟨k + 1, by omega, by go_num, by rw [HNX.out], by rw [HNX.out], below_drewN HBK.out _⟩
                case measure => simp [intOf]; omega
            · obtain rfl : k = t.length := by omega
              rw [List.take_length]
              have i1 : ¬ (t.length : Int) < (t.length : Int) := by omega
              have hone : torOne W H t a = if (torS W H a t).2 = true then [(((torS W H a t).1 : Nat) : Int)] else [] := rfl
              obtain ⟨M, F, hS⟩ : ∃ M F, torS W H a t = (M, F) := ⟨_, _, rfl⟩
              rw [hS] at hone ⊢
              clear hS
              cases F with
              | true =>
                rw [if_pos rfl] at hone
                have HPUT := Lib.hid (show putAllG ltI (L ++ torRow W H t (a + 1)) = putG ltI (putAllG ltI (L ++ torRow W H t a)) (M : Int) by rw [HST2.out, hone, ← List.append_assoc, putAllG_snoc])
                have HL7 := Lib.hid (l7Put_any w.heap.size a3 c3 (putAllG ltI (L ++ torRow W H t a)) (M : Int) wr (by omega) (by omega) (ownsRow_far_below HO3.out HBK.out (Nat.le_refl _)))
                rw [← HPUT.out] at HL7
                clear hone
                generalize (putAllG ltI (L ++ torRow W H t a)).length = n3 at HL7 hlen3 ⊢
                go_wp2_with fail
                refine HL7.out.mono ?_
                rintro e w4 ⟨a4, c4, rfl, ho4, hb4⟩
                have HO4 := Lib.hid ho4
                have hbb := HBK.out.trans (hb4.mono hszk)
                have HBB := Lib.hid hbb
                clear ho4 hb4 hbb
                go_wp2
                go_roundw
                case rel => exact ⟨a + 1, by rw [HWH.out]; omega, by go_num, ⟨a4, c4, rfl, HO4.out⟩, HB3.out.trans (HBB.out.mono hsz3), HB31.out.trans (HBB.out.mono hsz31)⟩
                case measure => simp [intOf]; omega
              | false =>
                rw [if_neg (by simp)] at hone
                have HSAME := Lib.hid (show L ++ torRow W H t (a + 1) = L ++ torRow W H t a by rw [HST2.out, hone, List.append_nil])
                clear hone
                go_wp2
                go_roundw
                case rel => exact ⟨a + 1, by rw [HWH.out]; omega, by go_num, by rw [HSAME.out]; exact ⟨a3, c3, rfl, ownsRow_far_below HO3.out HBK.out (Nat.le_refl _)⟩, HB3.out.trans (HBK.out.mono hsz3), HB31.out.trans (HBK.out.mono hsz31)⟩
                case measure => simp [intOf]; omega
        · obtain rfl : a = WH := by omega
          go_wp2
          go_roundw
          case rel => exact ⟨i + 1, by omega, by go_num, by rw [HST.out]; exact ⟨a3, c3, rfl, HO3.out⟩, HB3.out, HB31.out⟩
          case measure => simp [intOf]; omega
    · obtain rfl : i = rows.length := by omega
      go_wp2
      go_ret
      exact ⟨a2, c2, rfl, HO2.out, HB2.out⟩

end Go.Proofs.YtajmdgcnnipdoaaGreatDoor

/- TorAll: the walks of l16All and of torusAll: the masks of valid pieces on a valid torus. -/
namespace Go.Proofs.YtajmdgcnnipdoaaGreatDoor
open Go.RowKit

attribute [local go_sem ↓] Go.wp_at_zero Go.wp_at_succ

theorem specTorP (W H : Nat) (hW : 1 ≤ W ∧ W ≤ 5) (hH : 1 ≤ H ∧ H ≤ 5) (a2 : Option Addr) (c2 : Nat) (p : List Cl) (w' : World) (hn : p.length ≤ 1048576) (h : CellsAt w' a2 (cls p)) :
    Calls Tryz.prog 58 #[.int .i64 W, .int .i64 H, .slice a2 p.length c2] w' fun e w'' => ∃ ad' c', e = .returned (.slice ad' (torP W H p).length c') ∧ w''.ownsRow w'.heap.size 3 1 (.slice ad' (torP W H p).length c') (torP W H p).length (ints (torP W H p)) ∧ Below w'.heap.size w' w'' := specTorus_yes W H hW hH a2 c2 p w' hn h
theorem implTorP (W H : Nat) (hW : 1 ≤ W ∧ W ≤ 5) (hH : 1 ≤ H ∧ H ≤ 5) (a2 : Option Addr) (c2 : Nat) (p : List Cl) (w' : World) (hs : Shape p) (hn : p.length ≤ 1048576) (h : CellsAt w' a2 (cls p)) :
    Calls Tryz.prog 57 #[.int .i64 W, .int .i64 H, .slice a2 p.length c2] w' fun e w'' => ∃ ad' c', e = .returned (.slice ad' (torP W H p).length c') ∧ w''.ownsRow w'.heap.size 3 1 (.slice ad' (torP W H p).length c') (torP W H p).length (ints (torP W H p)) ∧ Below w'.heap.size w' w'' := implTorus_yes W H hW hH a2 c2 p w' hs hn h

set_option maxRecDepth 100000 in
set_option maxHeartbeats 3200000 in
theorem specTAll (W H : Nat) (hW : 1 ≤ W ∧ W ≤ 5) (hH : 1 ≤ H ∧ H ≤ 5) (sa : Option Addr) (cs : Nat) (ps : List (List Cl)) (w : World) (hp : Pcs ps) (hcp : ShpsAt w sa ps) :
    Calls Tryz.prog 96 #[.int .i64 W, .int .i64 H, .slice sa ps.length cs] w fun e w' => ∃ ad' c', e = .returned (.slice ad' (torAll W H ps).length c') ∧ w'.ownsRow w.heap.size 3 1 (.slice ad' (torAll W H ps).length c') (torAll W H ps).length (ints (torAll W H ps)) ∧ Below w.heap.size w w' := by
  have hal : torAll W H ps = putAllG ltI (torAllTo W H ps ps.length) := rfl
  rw [hal]
  have hp5 := hp.2.2
  have h25 : W * H ≤ 25 := Nat.mul_le_mul hW.2 hH.2
  have HPL := Lib.hid (show ∀ p ∈ ps, p.length ≤ 1048576 from fun p h => by have := (hp.1 p h).2.2; omega)
  have HPLA := Lib.hid (fun a2 c2 p w' hn h => specTorP W H hW hH a2 c2 p w' hn h)
  have HLEN := Lib.hid (fun p => torP_length h25 p)
  have HTL := Lib.hid (fun i => torAllTo_length h25 ps i)
  have HCP := Lib.hid hcp
  clear hcp hal hp h25
  obtain ⟨wA, hwA⟩ : ∃ wA, wA = w.alloc (.cells #[] 3) := ⟨_, rfl⟩
  have hbA : Below w.heap.size w wA := by rw [hwA]; exact (Below.refl _ _).alloc (Nat.le_refl _) _
  have hoA : wA.ownsRow w.heap.size 3 1 (.slice (some ⟨w.heap.size, 0, none⟩) 0 0) 0 [] := by rw [hwA]; exact ownsRow_empty _ _ _
  have HBA := Lib.hid hbA
  have HWA := Lib.hid hwA
  have HOA := Lib.hid hoA
  have hszA := hbA.size
  clear hbA hwA hoA
  go_enter Tryz.func96, Tryz.ntmps96
  go_wp2
  rw [← HWA.out]
  go_loopw [7, 8] (fun s i wr => ∃ k : Nat, k ≤ ps.length ∧ i = .int .i64 k ∧ (∃ ad' c', s = .slice ad' (putAllG ltI (torAllTo W H ps k)).length c' ∧ wr.ownsRow w.heap.size 3 1 (.slice ad' (putAllG ltI (torAllTo W H ps k)).length c') (putAllG ltI (torAllTo W H ps k)).length (ints (putAllG ltI (torAllTo W H ps k)))) ∧ Below wA.heap.size wA wr) (fun _ i _ => ps.length - (intOf i).toNat)
  case atStart => exact ⟨0, by omega, rfl, ⟨_, _, rfl, HOA.out⟩, Below.refl _ _⟩
  case round =>
    obtain ⟨i, hi, rfl, ⟨a2, c2, rfl, ho2⟩, hb2⟩ := hrel
    have HO2 := Lib.hid ho2
    have HB2 := Lib.hid hb2
    have hsz2 := hb2.size
    have hti := HTL.out i
    clear ho2 hb2
    by_cases hilt : i < ps.length
    · have hil : (i : Int) < (ps.length : Int) := by omega
      obtain ⟨g, off, ai, ci, rfl, hg, hcell, hrow⟩ := HCP.out.row hilt
      have hst : torAllTo W H ps (i + 1) = torAllTo W H ps i ++ torP W H ps[i] := by rw [← getDG hilt]; rfl
      have hpl := HPL.out _ (List.getElem_mem hilt)
      have HST := Lib.hid hst
      have HROW := Lib.hid hrow
      have HCELL := Lib.hid hcell
      clear hst hrow hcell
      generalize ps[i] = p at hpl HST HROW HCELL
      have hlp := HLEN.out p
      generalize torAllTo W H ps i = L at hti HO2 HST ⊢
      have HBW := Lib.hid (HBA.out.trans (HB2.out.mono hszA))
      have x0 := (HBW.out.cell (p := ⟨g, off + i, none⟩) hg).trans HCELL.out
      go_wp2_with fail
      refine (HPLA.out ai ci p wr hpl (HROW.out.below HBW.out)).mono ?_
      rintro e w4 ⟨a4, c4, rfl, ho4, hb4⟩
      have HO4 := Lib.hid (ownsRow_cellsAt ho4)
      have HB4 := Lib.hid (HB2.out.trans (hb4.mono hsz2))
      have HOO := Lib.hid (ownsRow_far_below HO2.out hb4 (Nat.le_refl _))
      have hsz4 := HB4.out.size
      clear ho4 hb4 x0
      generalize torP W H p = Q at HO4 HST hlp ⊢
      go_wp2
      go_loopw [7, 10] (fun s i wr => ∃ k : Nat, k ≤ Q.length ∧ i = .int .i64 k ∧ (∃ ad' c', s = .slice ad' (putAllG ltI (L ++ Q.take k)).length c' ∧ wr.ownsRow w.heap.size 3 1 (.slice ad' (putAllG ltI (L ++ Q.take k)).length c') (putAllG ltI (L ++ Q.take k)).length (ints (putAllG ltI (L ++ Q.take k)))) ∧ Below w4.heap.size w4 wr) (fun _ i _ => Q.length - (intOf i).toNat)
      case atStart => exact ⟨0, by omega, rfl, by rw [List.take_zero, List.append_nil]; exact ⟨a2, c2, rfl, HOO.out⟩, Below.refl _ _⟩
      case round =>
        obtain ⟨k, hk, rfl, ⟨a5, c5, rfl, ho5⟩, hb5⟩ := hrel
        have HO5 := Lib.hid ho5
        have HB5 := Lib.hid hb5
        have hsz5 := hb5.size
        clear ho5 hb5
        by_cases hlt : k < Q.length
        · have hkl : (k : Int) < (Q.length : Int) := by omega
          obtain ⟨gq, oq, rfl, hgq, hcq⟩ := HO4.out.open (by rw [ints_length]; omega)
          have z0 := (HB5.out.cell (p := ⟨gq, oq + k, none⟩) hgq).trans (hcq k _ (ints_at Q k hlt))
          have htk := List.take_succ_eq_append_getElem hlt
          have hlen := putAllG_length (lt := ltI) (L ++ Q.take k)
          rw [List.length_append, List.length_take] at hlen
          clear hcq
          generalize Q[k] = v at z0 htk
          have hpu := l7Put_any w.heap.size a5 c5 (putAllG ltI (L ++ Q.take k)) v wr (by omega) (by omega) HO5.out
          rw [← putAllG_snoc, List.append_assoc, ← htk] at hpu
          have HPU := Lib.hid hpu
          clear hpu htk
          generalize (putAllG ltI (L ++ Q.take k)).length = nR at HPU hlen ⊢
          go_wp2_with fail
          refine HPU.out.mono ?_
          rintro e w8 ⟨a8, c8, rfl, ho8, hb8⟩
          have HO8 := Lib.hid ho8
          have HB8 := Lib.hid (HB5.out.trans (hb8.mono hsz5))
          clear ho8 hb8
          go_wp2
          go_roundw
          case rel => exact ⟨k + 1, by omega, by go_num, ⟨a8, c8, rfl, HO8.out⟩, HB8.out⟩
          case measure => simp [intOf]; omega
        · obtain rfl : k = Q.length := by omega
          rw [List.take_length, ← HST.out] at HO5
          go_wp2
          go_roundw
          case rel => exact ⟨i + 1, by omega, by go_num, by rw [List.take_length, ← HST.out]; exact ⟨a5, c5, rfl, HO5.out⟩, HB4.out.trans (HB5.out.mono hsz4)⟩
          case measure => simp [intOf]; omega
    · obtain rfl : i = ps.length := by omega
      go_wp2
      go_ret
      exact ⟨a2, c2, rfl, HO2.out, HBA.out.trans (HB2.out.mono hszA)⟩

set_option maxRecDepth 100000 in
set_option maxHeartbeats 3200000 in
theorem implTAll_yes (W H : Nat) (hW : 1 ≤ W ∧ W ≤ 5) (hH : 1 ≤ H ∧ H ≤ 5) (sa : Option Addr) (cs : Nat) (ps : List (List Cl)) (w : World) (hp : Pcs ps) (hcp : ShpsAt w sa ps) :
    Calls Tryz.prog 93 #[.int .i64 W, .int .i64 H, .slice sa ps.length cs] w fun e w' => ∃ ad' c', e = .returned (.tuple #[.slice ad' (torAll W H ps).length c', .bool true]) ∧ w'.ownsRow w.heap.size 3 1 (.slice ad' (torAll W H ps).length c') (torAll W H ps).length (ints (torAll W H ps)) ∧ Below w.heap.size w w' := by
  have hal : torAll W H ps = putAllG ltI (torAllTo W H ps ps.length) := rfl
  rw [hal]
  have hp5 := hp.2.2
  have h25 : W * H ≤ 25 := Nat.mul_le_mul hW.2 hH.2
  have hpl0 : ∀ p ∈ ps, p.length ≤ 1048576 := fun p h => by have := (hp.1 p h).2.2; omega
  have hpc := implPieces sa cs ps w (by omega) hpl0 hcp
  rw [decide_eq_true hp] at hpc
  have HPC := Lib.hid hpc
  have HSH := Lib.hid hp.1
  have HPL := Lib.hid hpl0
  have HPLA := Lib.hid (fun a2 c2 p w' hs hn h => implTorP W H hW hH a2 c2 p w' hs hn h)
  have HLEN := Lib.hid (fun p => torP_length h25 p)
  have HTL := Lib.hid (fun i => torAllTo_length h25 ps i)
  have HCP := Lib.hid hcp
  have HF := Lib.hid (isTorus_yes (W : Int) (H : Int) w (by omega) (by omega) (by omega) (by omega))
  clear hcp hal hp h25 hpc hpl0
  go_enter Tryz.func93, Tryz.ntmps93
  go_wp2_with fail
  refine HF.out.mono ?_
  rintro e w' ⟨rfl, rfl⟩
  go_wp2_with fail
  refine HPC.out.mono ?_
  rintro e wA ⟨rfl, hbA⟩
  have HBA := Lib.hid hbA
  have hszA := hbA.size
  clear hbA
  go_wp2
  go_loopw [8, 22] (fun s i wr => ∃ k : Nat, k ≤ ps.length ∧ i = .int .i64 k ∧ (∃ ad' c', s = .slice ad' (torAllTo W H ps k).length c' ∧ wr.ownsRow wA.heap.size 3 1 (.slice ad' (torAllTo W H ps k).length c') (torAllTo W H ps k).length (ints (torAllTo W H ps k))) ∧ Below wA.heap.size wA wr) (fun _ i _ => ps.length - (intOf i).toNat)
  case atStart => exact ⟨0, by omega, rfl, ⟨none, 0, rfl, World.ownsRow_nil _ _ _ _⟩, Below.refl _ _⟩
  case round =>
    obtain ⟨i, hi, rfl, ⟨a2, c2, rfl, ho2⟩, hb2⟩ := hrel
    have HO2 := Lib.hid ho2
    have HB2 := Lib.hid hb2
    have hsz2 := hb2.size
    have hti := HTL.out i
    clear ho2 hb2
    by_cases hilt : i < ps.length
    · have hil : (i : Int) < (ps.length : Int) := by omega
      obtain ⟨g, off, ai, ci, rfl, hg, hcell, hrow⟩ := HCP.out.row hilt
      have hst : torAllTo W H ps (i + 1) = torAllTo W H ps i ++ torP W H ps[i] := by rw [← getDG hilt]; rfl
      have hpl := HPL.out _ (List.getElem_mem hilt)
      have hsh := HSH.out _ (List.getElem_mem hilt)
      have HSP := Lib.hid hsh
      have HST := Lib.hid hst
      have HROW := Lib.hid hrow
      have HCELL := Lib.hid hcell
      clear hst hrow hcell hsh
      generalize ps[i] = p at hpl HST HROW HCELL HSP
      have hlp := HLEN.out p
      generalize torAllTo W H ps i = L at hti HO2 HST ⊢
      have HBW := Lib.hid (HBA.out.trans (HB2.out.mono hszA))
      have x0 := (HBW.out.cell (p := ⟨g, off + i, none⟩) hg).trans HCELL.out
      go_wp2_with fail
      refine (HPLA.out ai ci p wr HSP.out hpl (HROW.out.below HBW.out)).mono ?_
      rintro e w4 ⟨a4, c4, rfl, ho4, hb4⟩
      have HO4 := Lib.hid (ownsRow_cellsAt ho4)
      have HN4 := Lib.hid (ownsRow_le_cap ho4).2
      have HB4 := Lib.hid (HB2.out.trans (hb4.mono hsz2))
      have HOO := Lib.hid (ownsRow_far_below HO2.out hb4 (Nat.le_refl _))
      have hsz4 := HB4.out.size
      clear ho4 hb4 x0
      generalize torP W H p = Q at HO4 HN4 HST hlp ⊢
      have hLl := ints_length L
      have hQl := ints_length Q
      go_wp2_with (at_builtin; refine wpList_appN rfl (.tmp 26) (.tmp 30) 24 rfl wA.heap.size 3 _ 1 8 Tryz.elemInt _ L.length (ints L) rfl HOO.out a4 Q.length c4 (ints Q) rfl HN4.out (by omega) HO4.out (ints_one Q) (by unfold maxLen; omega) (by omega) (by omega) ?_; intro a5 c5 w5 q1 q2 q3)
      have HO5 := Lib.hid q1
      have HB5 := Lib.hid (HB4.out.trans q2)
      clear q1 q2 q3
      go_roundw
      case rel =>
        refine ⟨i + 1, by omega, by go_num, ?_, HB5.out⟩
        rw [HST.out]
        refine ⟨a5, c5, by rw [List.length_append], ?_⟩
        rw [List.length_append, ints_append]
        exact HO5.out
      case measure => simp [intOf]; omega
    · obtain rfl : i = ps.length := by omega
      have hod := ordered_any a2 c2 (torAllTo W H ps ps.length) wr (by omega) (ownsRow_le_cap HO2.out).2 (ownsRow_cellsAt HO2.out)
      have HOD := Lib.hid hod
      clear hod
      generalize hLL : torAllTo W H ps ps.length = L at HOD
      have HLL := Lib.hid hLL
      clear hLL
      go_wp2_with fail
      refine HOD.out.mono ?_
      rintro e w4 ⟨a4, c4, rfl, ho4, hb4⟩
      have HO4 := Lib.hid ho4
      have HB4 := Lib.hid (HBA.out.trans ((HB2.out.trans (hb4.mono hsz2)).mono hszA))
      clear ho4 hb4
      go_wp2
      go_ret2
      rw [HLL.out]
      exact ⟨a4, c4, rfl, ownsRow_rebase HO4.out (by omega), HB4.out⟩

set_option maxRecDepth 100000 in
set_option maxHeartbeats 3200000 in
theorem implTAll_no (x y : Int) (sa : Option Addr) (cs : Nat) (ps : List (List Cl)) (w : World) (h : ¬ ((1 ≤ x ∧ x ≤ 5 ∧ 1 ≤ y ∧ y ≤ 5) ∧ Pcs ps)) (hnp : ps.length ≤ 1048576) (hl : ∀ p ∈ ps, p.length ≤ 1048576) (hcp : ShpsAt w sa ps) :
    Calls Tryz.prog 93 #[.int .i64 x, .int .i64 y, .slice sa ps.length cs] w fun e w' => e = .returned (.tuple #[.slice none 0 0, .bool false]) ∧ Below w.heap.size w w' := by
  by_cases hf : 1 ≤ x ∧ x ≤ 5 ∧ 1 ≤ y ∧ y ≤ 5
  · have hs : ¬ Pcs ps := fun q => h ⟨hf, q⟩
    obtain ⟨h1, h2, h3, h4⟩ := hf
    have hpc := implPieces sa cs ps w hnp hl hcp
    rw [decide_eq_false hs] at hpc
    have HPC := Lib.hid hpc
    have HF := Lib.hid (isTorus_yes x y w (by omega) (by omega) (by omega) (by omega))
    clear hs h hcp hpc hl
    go_enter Tryz.func93, Tryz.ntmps93
    go_wp2_with fail
    refine HF.out.mono ?_
    rintro e w' ⟨rfl, rfl⟩
    go_wp2_with fail
    refine HPC.out.mono ?_
    rintro e w1 ⟨rfl, hb1⟩
    have HB1 := Lib.hid hb1
    clear hb1
    go_wp2
    go_ret2
    exact ⟨rfl, HB1.out⟩
  · have HF := Lib.hid (isTorus_no x y w hf)
    clear h hcp hf hl
    go_enter Tryz.func93, Tryz.ntmps93
    go_wp2_with fail
    refine HF.out.mono ?_
    rintro e w' ⟨rfl, rfl⟩
    go_wp2
    go_ret2
    exact ⟨rfl, Below.refl _ _⟩
end Go.Proofs.YtajmdgcnnipdoaaGreatDoor
