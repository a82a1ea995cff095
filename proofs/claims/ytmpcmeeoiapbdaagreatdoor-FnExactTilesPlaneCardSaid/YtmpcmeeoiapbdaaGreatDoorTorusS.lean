/- TorusS: the walk of the reference's TorusPlacements on a torus that is one. -/
import Derived.Test.YtmpcmeeoiapbdaaGreatDoorOrient
import Derived.Test.YtmpcmeeoiapbdaaGreatDoorTorus0
import Derived.Test.YtmpcmeeoiapbdaaGreatDoorFine
import Derived.Test.YtmpcmeeoiapbdaaGreatDoorPut
namespace Go.Proofs.YtmpcmeeoiapbdaaGreatDoor
open Go.RowKit

attribute [local go_sem ↓] Go.wp_at_zero Go.wp_at_succ


set_option maxRecDepth 100000 in
set_option maxHeartbeats 6400000 in
theorem specTorus_yes (W H : Nat) (hW : 1 ≤ W ∧ W ≤ 5) (hH : 1 ≤ H ∧ H ≤ 5) (ad : Option Addr) (c : Nat) (l : List Cl) (w : World) (hn : l.length ≤ 1048576) (hc : CellsAt w ad (cls l)) :
    Calls Tryz.prog 66 #[.int .i64 W, .int .i64 H, .slice ad l.length c] w fun e w' => ∃ ad' c', e = .returned (.slice ad' (putAllG ltI (torTo W H (orientL l) (orientL l).length)).length c') ∧ w'.ownsRow w.heap.size 3 1 (.slice ad' (putAllG ltI (torTo W H (orientL l) (orientL l).length)).length c') (putAllG ltI (torTo W H (orientL l) (orientL l).length)).length (ints (putAllG ltI (torTo W H (orientL l) (orientL l).length))) ∧ Below w.heap.size w w' := by
  have HSHP := Lib.hid (fun t (ht : t ∈ orientL l) => orientL_shape ht)
  have hrl := orientL_length l
  have HOR := Lib.hid (fun w' hc' => specOrient ad c l w' hn hc')
  have HC := Lib.hid hc
  clear hc
  generalize orientL l = rows at HSHP hrl HOR ⊢
  obtain ⟨WH, hWH⟩ : ∃ WH, WH = W * H := ⟨_, rfl⟩
  have hWH25 : WH ≤ 25 := by rw [hWH]; exact Nat.mul_le_mul hW.2 hH.2
  have hm : (W : Int) * (H : Int) = (WH : Int) := by rw [hWH]; norm_cast
  have swh : IntKind.i64.wrap (WH : Int) = (WH : Int) := IntWalk.i64_in _ (by omega)
  have HTL := Lib.hid (fun i => torTo_length W H (by rw [← hWH]; exact hWH25) rows i)
  have HWH := Lib.hid hWH
  obtain ⟨hW1, hW5⟩ := hW
  obtain ⟨hH1, hH5⟩ := hH
  clear hWH
  obtain ⟨w0, hw0⟩ : ∃ w0, w0 = w.alloc (.cells #[] 3) := ⟨_, rfl⟩
  have hb0 : Below w.heap.size w w0 := by rw [hw0]; exact (Below.refl _ _).alloc (Nat.le_refl _) _
  have ho0 : w0.ownsRow w.heap.size 3 1 (.slice (some ⟨w.heap.size, 0, none⟩) 0 0) 0 [] := by rw [hw0]; exact ownsRow_empty _ _ _
  have hsz0 := hb0.size
  have HB0 := Lib.hid hb0
  have HO0 := Lib.hid ho0
  have HW0 := Lib.hid hw0
  clear hb0 ho0 hw0
  go_enter Tryz.func66, Tryz.ntmps66
  go_wp2_with fail
  rw [← HW0.out]
  refine (HOR.out w0 (HC.out.below HB0.out)).mono ?_
  rintro e w1 ⟨a1, c1, rfl, hsp, hb1⟩
  have HB1 := Lib.hid (HB0.out.trans (hb1.mono hsz0))
  have hsz1 := HB1.out.size
  have HSP := Lib.hid hsp
  have HO1 := Lib.hid (ownsRow_far_below HO0.out hb1 (Nat.le_refl _))
  clear hsp hb1
  go_wp2
  go_loopw [7, 9] (fun s i wr => ∃ k : Nat, k ≤ rows.length ∧ i = .int .i64 k ∧ (∃ ad' c', s = .slice ad' (putAllG ltI (torTo W H rows k)).length c' ∧ wr.ownsRow w.heap.size 3 1 (.slice ad' (putAllG ltI (torTo W H rows k)).length c') (putAllG ltI (torTo W H rows k)).length (ints (putAllG ltI (torTo W H rows k)))) ∧ Below w.heap.size w wr ∧ Below w1.heap.size w1 wr) (fun _ i _ => rows.length - (intOf i).toNat)
  case atStart => exact ⟨0, by omega, rfl, ⟨_, _, rfl, HO1.out⟩, HB1.out, Below.refl _ _⟩
  case round =>
    obtain ⟨i, hi, rfl, ⟨a2, c2, rfl, ho2⟩, hb2, hb21⟩ := hrel
    have HO2 := Lib.hid ho2
    have HB2 := Lib.hid hb2
    have HB21 := Lib.hid hb21
    have hsz2 := hb2.size
    have hti := HTL.out i
    clear ho2 hb2 hb21
    by_cases hilt : i < rows.length
    · have hil : (i : Int) < (rows.length : Int) := by omega
      obtain ⟨g, off, ai, ci, rfl, hg, hcell, hrow⟩ := HSP.out.row hilt
      have hsh := HSHP.out _ (List.getElem_mem hilt)
      have hst : torTo W H rows (i + 1) = torTo W H rows i ++ torRow W H rows[i] WH := by rw [HWH.out, ← getDG hilt]; rfl
      have HST := Lib.hid hst
      have HROW := Lib.hid hrow
      have HCELL := Lib.hid hcell
      clear hst hrow hcell
      generalize rows[i] = t at hsh HST HROW HCELL
      have HT8 := Lib.hid hsh.2
      have HTIN := Lib.hid hsh.1.2
      generalize torTo W H rows i = L at hti HO2 HST ⊢
      clear hsh
      go_wp2_with (go_at_call 41; refine (l16Fine_yes _ _ _ (by omega) (by omega) (by omega) (by omega)).mono ?_; rintro e w' ⟨rfl, rfl⟩)
      go_loopw [7, 10] (fun s i wr => ∃ a : Nat, a ≤ WH ∧ i = .int .i64 a ∧ (∃ ad' c', s = .slice ad' (putAllG ltI (L ++ torRow W H t a)).length c' ∧ wr.ownsRow w.heap.size 3 1 (.slice ad' (putAllG ltI (L ++ torRow W H t a)).length c') (putAllG ltI (L ++ torRow W H t a)).length (ints (putAllG ltI (L ++ torRow W H t a)))) ∧ Below w.heap.size w wr ∧ Below w1.heap.size w1 wr) (fun _ i _ => WH - (intOf i).toNat)
      case atStart => exact ⟨0, by omega, rfl, by rw [show L ++ torRow W H t 0 = L from List.append_nil _]; exact ⟨_, _, rfl, HO2.out⟩, HB2.out, HB21.out⟩
      case round =>
        obtain ⟨a, ha, rfl, ⟨a3, c3, rfl, ho3⟩, hb3, hb31⟩ := hrel
        obtain ⟨wo, rfl⟩ : ∃ wo, wo = wr := ⟨_, rfl⟩
        have HO3 := Lib.hid ho3
        have HB3 := Lib.hid hb3
        have HB31 := Lib.hid hb31
        have hsz3 := hb3.size
        have hsz31 := hb31.size
        have htr := torRow_length W H t a
        clear ho3 hb3 hb31
        by_cases halt : a < WH
        · have hal : (a : Int) < (WH : Int) := by omega
          have hcell := (HB31.out.cell (p := ⟨g, off + i, none⟩) (by simp; omega)).trans HCELL.out
          have hlen3 := putAllG_length (lt := ltI) (L ++ torRow W H t a)
          rw [List.length_append] at hlen3
          have hst2 : torRow W H t (a + 1) = torRow W H t a ++ torOne W H t a := rfl
          have HST2 := Lib.hid hst2
          have HCO := Lib.hid (HROW.out.below HB31.out)
          obtain ⟨ht1, ht8⟩ := HT8.out
          clear hst2
          rw [HWH.out] at halt
          go_wp2
          go_loopw [11, 12, 13] (fun m f i wr => ∃ k : Nat, k ≤ t.length ∧ i = .int .i64 k ∧ m = .int .i64 ((torS W H a (t.take k)).1 : Nat) ∧ f = .bool (torS W H a (t.take k)).2 ∧ Below wo.heap.size wo wr) (fun _ _ i _ => t.length - (intOf i).toNat)
          case atStart => exact ⟨0, by omega, rfl, rfl, rfl, Below.refl _ _⟩
          case round =>
            obtain ⟨k, hk, rfl, rfl, rfl, hbk⟩ := hrel
            have HBK := Lib.hid hbk
            have hszk := hbk.size
            have cellk := (hbk.cell (p := ⟨g, off + i, none⟩) (by simp; omega)).trans hcell
            clear hbk
            by_cases hlt : k < t.length
            · have i1 : (k : Int) < (t.length : Int) := by omega
              obtain ⟨gt, ot, rfl, hgt, hcc⟩ := cl_open HCO.out (by omega)
              obtain ⟨v0, v1⟩ := hcc k hlt
              have x0 := (HBK.out.cell (p := ⟨gt, ot + k * 2, none⟩) hgt).trans v0
              have x1 := (HBK.out.cell (p := ⟨gt, ot + k * 2 + 1, none⟩) hgt).trans v1
              have hon := HTIN.out _ (List.getElem_mem hlt)
              obtain ⟨M, F, hS⟩ : ∃ M F, torS W H a (t.take k) = (M, F) := ⟨_, _, rfl⟩
              obtain ⟨X, Y, hd, hX7, hY7⟩ : ∃ X Y : Nat, t[k] = ⟨(X : Int), (Y : Int)⟩ ∧ X ≤ 7 ∧ Y ≤ 7 := by
                unfold OnB at hon
                refine ⟨t[k].x.toNat, t[k].y.toNat, ?_, by omega, by omega⟩
                rw [Int.toNat_of_nonneg hon.1.1, Int.toNat_of_nonneg hon.2.1]
              rw [hS]
              rw [hd] at x0 x1
              simp only at x0 x1
              clear v0 v1 hcc hon
              obtain ⟨q, r, s1, s2, s3, s4, s5, b, hb, n0, n1, n2, n3, n4, n5, n6, n7, e1, e2, e3, e4, e5, e6, e7, e8⟩ := tor_nums (a := a) (X := X) (Y := Y) ⟨hW1, hW5⟩ ⟨hH1, hH5⟩ halt hX7 hY7
              have t1 : IntKind.i64.wrap (q : Int) = (q : Int) := IntWalk.i64_in _ (by omega)
              have t2 : IntKind.i64.wrap (s1 : Int) = (s1 : Int) := IntWalk.i64_in _ (by omega)
              have t3 : IntKind.i64.wrap (s3 : Int) = (s3 : Int) := IntWalk.i64_in _ (by omega)
              have t4 : IntKind.i64.wrap (s4 : Int) = (s4 : Int) := IntWalk.i64_in _ (by omega)
              have t5 : IntKind.i64.wrap (b : Int) = (b : Int) := IntWalk.i64_in _ (by omega)
              have w0_ : ¬ W = 0 := by omega
              have h0_ : ¬ H = 0 := by omega
              have hnx : torS W H a (t.take (k + 1)) = (M ||| 2 ^ b, F && !M.testBit b) := by
                rw [torS_take W H a t k hlt, hS, hd]
                unfold torStep
                rw [← hb]
              have HNX := Lib.hid hnx
              have hM2 : M < 33554432 := by
                have h := torS_lt (W := W) (H := H) (a := a) (by omega) (by omega) (t.take k)
                rw [hS] at h
                have h2 : 2 ^ (W * H) ≤ 2 ^ 25 := Nat.pow_le_pow_right (by omega) (show W * H ≤ 25 from Nat.mul_le_mul hW5 hH5)
                have h3 : (2 : Nat) ^ 25 = 33554432 := by decide
                omega
              obtain ⟨pb, hpb⟩ : ∃ pb, pb = 2 ^ b := ⟨_, rfl⟩
              have hpb1 : pb ≤ 16777216 := by
                have h2 : 2 ^ b ≤ 2 ^ 24 := Nat.pow_le_pow_right (by omega) n0
                have h3 : (2 : Nat) ^ 24 = 16777216 := by decide
                omega
              have hpw : wrap64 (2 ^ b) = (pb : Int) := by
                rw [hpb, show ((2 : Int) ^ b) = ((2 ^ b : Nat) : Int) by norm_cast]
                rw [← hpb]
                have := IntWalk.i64_in (pb : Int) (by omega)
                rw [IntWalk.i64_left] at this
                exact this
              rw [← hpb] at HNX
              clear hpb hnx
              have hor : bits .or .i64 (M : Int) (pb : Int) = ((M ||| pb : Nat) : Int) := i64_or_nat M pb (Nat.lt_trans hM2 (by decide)) (Nat.lt_of_le_of_lt hpb1 (by decide))
              have hsh := and_shr_one M b (Nat.lt_trans hM2 (by decide))
              clear hS hd hb
              cases F with
              | true =>
                cases htb : M.testBit b with
                | true =>
                  rw [htb, if_pos rfl] at hsh
                  rw [htb] at HNX
                  go_wp2
                  go_big_quiet (fail)
                  go_wp2
                  go_roundw
                  case rel => exact ⟨k + 1, by omega, by go_num, by rw [HNX.out], by rw [HNX.out]; rfl, below_drewN HBK.out _⟩
                  case measure => simp [intOf]; omega
                | false =>
                  rw [htb, if_neg (by simp)] at hsh
                  rw [htb] at HNX
                  go_wp2
                  go_big_quiet (fail)
                  go_wp2
                  go_roundw
                  case rel => exact ⟨k + 1, by omega, by go_num, by rw [HNX.out], by rw [HNX.out]; rfl, below_drewN HBK.out _⟩
                  case measure => simp [intOf]; omega
              | false =>
                rw [Bool.false_and] at HNX
                clear hsh
                go_wp2
                go_big_quiet (fail)
                go_wp2
                go_roundw
                case rel => exact ⟨k + 1, by omega, by go_num, by rw [HNX.out], by rw [HNX.out], below_drewN HBK.out _⟩
                case measure => simp [intOf]; omega
            · obtain rfl : k = t.length := by omega
              rw [List.take_length]
              have i1 : ¬ (t.length : Int) < (t.length : Int) := by omega
              have hone : torOne W H t a = if (torS W H a t).2 = true then [(((torS W H a t).1 : Nat) : Int)] else [] := rfl
              obtain ⟨M, F, hS⟩ : ∃ M F, torS W H a t = (M, F) := ⟨_, _, rfl⟩
              rw [hS] at hone ⊢
              clear hS
              cases F with
              | true =>
                rw [if_pos rfl] at hone
                have HPUT := Lib.hid (show putAllG ltI (L ++ torRow W H t (a + 1)) = putG ltI (putAllG ltI (L ++ torRow W H t a)) (M : Int) by rw [HST2.out, hone, ← List.append_assoc, putAllG_snoc])
                have HL7 := Lib.hid (l7Put_any w.heap.size a3 c3 (putAllG ltI (L ++ torRow W H t a)) (M : Int) wr (by omega) (by omega) (ownsRow_far_below HO3.out HBK.out (Nat.le_refl _)))
                rw [← HPUT.out] at HL7
                clear hone
                generalize (putAllG ltI (L ++ torRow W H t a)).length = n3 at HL7 hlen3 ⊢
                go_wp2_with fail
                refine HL7.out.mono ?_
                rintro e w4 ⟨a4, c4, rfl, ho4, hb4⟩
                have HO4 := Lib.hid ho4
                have hbb := HBK.out.trans (hb4.mono hszk)
                have HBB := Lib.hid hbb
                clear ho4 hb4 hbb
                go_wp2
                go_roundw
                case rel => exact ⟨a + 1, by rw [HWH.out]; omega, by go_num, ⟨a4, c4, rfl, HO4.out⟩, HB3.out.trans (HBB.out.mono hsz3), HB31.out.trans (HBB.out.mono hsz31)⟩
                case measure => simp [intOf]; omega
              | false =>
                rw [if_neg (by simp)] at hone
                have HSAME := Lib.hid (show L ++ torRow W H t (a + 1) = L ++ torRow W H t a by rw [HST2.out, hone, List.append_nil])
                clear hone
                go_wp2
                go_roundw
                case rel => exact ⟨a + 1, by rw [HWH.out]; omega, by go_num, by rw [HSAME.out]; exact ⟨a3, c3, rfl, ownsRow_far_below HO3.out HBK.out (Nat.le_refl _)⟩, HB3.out.trans (HBK.out.mono hsz3), HB31.out.trans (HBK.out.mono hsz31)⟩
                case measure => simp [intOf]; omega
        · obtain rfl : a = WH := by omega
          go_wp2
          go_roundw
          case rel => exact ⟨i + 1, by omega, by go_num, by rw [HST.out]; exact ⟨a3, c3, rfl, HO3.out⟩, HB3.out, HB31.out⟩
          case measure => simp [intOf]; omega
    · obtain rfl : i = rows.length := by omega
      go_wp2
      go_ret
      exact ⟨a2, c2, rfl, HO2.out, HB2.out⟩

end Go.Proofs.YtmpcmeeoiapbdaaGreatDoor
