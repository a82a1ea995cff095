/- Cyl: the walks of CylinderCount and GrowthTable, the reference's and the program's. -/
import Derived.Test.YtgplpngphaaefaaDoorWays
import Derived.Test.YtgplpngphaaefaaDoorMulI
import Derived.Test.YtgplpngphaaefaaDoorCyl0
namespace Go.Proofs.YtgplpngphaaefaaDoor
open Go.RowKit

theorem unitM_take {n i : Nat} (h : i < n) : (unitM n).take (i + 1) = (unitM n).take i ++ [(List.replicate n 0).set i 1] := by
  rw [List.take_succ_eq_append_getElem (by simp [unitM]; exact h)]
  simp [unitM]

def UpTo (w wr : World) (M : List (List Int)) (N j : Nat) (v : Value) : Prop :=
  ∃ ad c, v = .slice ad N c ∧ OwnMat wr w.heap.size (.slice ad N c) (upM M N j) ∧ Below w.heap.size w wr

set_option maxRecDepth 100000 in
set_option maxHeartbeats 1600000 in
theorem l17Power_any (am : Option Addr) (cm N n : Nat) (M : List (List Int)) (hM : Sq M N) (hN : N ≤ 16) (hn : n ≤ 12) (w : World) (hm : MatAt w am M) :
    Calls Tryd.prog 32 #[.slice am N cm, .int .i64 n] w fun e w' => ∃ ad' cap', e = .returned (.slice ad' N cap') ∧ OwnMat w' w.heap.size (.slice ad' N cap') (upM M N n) ∧ Below w.heap.size w w' := by
  have HM := Lib.hid hM
  have HMM := Lib.hid hm
  have hul : (unitM N).length = N := by simp [unitM]
  have HUL := Lib.hid hul
  have h0 : MatTo w (w.alloc (.cells #[] 29)) (unitM N) 0 (.slice (some ⟨w.heap.size, 0, none⟩) 0 0) := ⟨[], ownsRow_empty w 29 1, RowsIn.nil _ _, (Below.refl _ _).alloc (Nat.le_refl _) _⟩
  have H0 := Lib.hid h0
  clear hM hm h0 hul
  go_enter Tryd.func32, Tryd.ntmps32
  go_wp2
  go_loopw [5, 6] (fun v i wr => ∃ a : Nat, a ≤ N ∧ i = .int .i64 a ∧ MatTo w wr (unitM N) a v) (fun _ i _ => N - (intOf i).toNat)
  case atStart => exact ⟨0, by omega, rfl, H0.out⟩
  case round =>
    obtain ⟨a, ha, rfl, hmt⟩ := hrel
    obtain ⟨wo, rfl⟩ : ∃ wo : World, wo = wr := ⟨_, rfl⟩
    obtain ⟨vals, hown, hrows, hbo⟩ := hmt
    have HOWN := Lib.hid hown
    have HROWS := Lib.hid hrows
    have HBO := Lib.hid hbo
    have hsz := hbo.size
    by_cases hlt : a < N
    · clear hrows hbo hown
      go_wp2_with (at_make; refine wpList_make _ rfl _ _ 29 rfl 3 (.int .i64 0) 1 8 Tryd.elemInt (.int .i64 0) ?c0 N rfl rfl ?c1 ?c2 (ints (List.replicate N 0)) ?c3 ?_)
      case c0 =>
        intro i hi
        obtain rfl : i = 0 := by simpa [Value.cells] using hi
        rfl
      case c1 => omega
      case c2 => unfold maxLen; omega
      case c3 => rw [ints_length, List.length_replicate]; omega
      intro w1 hrow _ hb1
      rw [zeros_made] at hrow
      have hck := hrow.cellAt a (by omega)
      rw [ints, List.getElem?_map, List.getElem?_eq_getElem (by rw [List.length_replicate]; exact hlt)] at hck
      simp only [Option.map_some, List.getElem_replicate] at hck
      have hfz := hrow.frozenAt a
      have hst := (hrow.stored a (.int .i64 1)).1
      rw [ints_set] at hst
      have hbs : Below wo.heap.size wo (w1.setCell ⟨wo.heap.size, a, none⟩ (.int .i64 1)) := hb1.setCell (Nat.le_refl _) _
      have hfar := ownsRow_far_below HOWN.out hbs (Nat.le_refl _)
      have hsz2 := hbs.size
      have HST := Lib.hid hst
      have HBS := Lib.hid hbs
      have HFAR := Lib.hid hfar
      clear hrow hst hbs hfar hb1
      go_wp2_with (at_builtin; refine wpList_app1 rfl (.tmp 22) (.tmp 24) 37 rfl w.heap.size 29 _ 1 24 Tryd.elemInts _ a vals _ _ _ rfl rfl (by simp) HFAR.out (by rfl) (by simp [Value.oneCell']) (by unfold maxLen; omega) (by omega) (by simp at hsz2; omega) ?_; intro g' cap w3 q1 q2 q3 q4 q5 q6)
      go_roundw
      case rel =>
        refine ⟨a + 1, by omega, by go_num, ?_⟩
        exact MatTo.next HROWS.out hsz HBS.out HFAR.out HST.out (by simp) q1 q3 ((HBO.out.trans (HBS.out.mono hsz)).trans q2) (unitM_take hlt)
      case measure => simp [intOf]; omega
    · obtain rfl : a = N := by omega
      obtain ⟨ad', cap', rfl, _⟩ := ownsRow_cells hown
      have hown2 := hown
      have hrows2 := hrows
      rw [List.take_of_length_le (by rw [HUL.out]; exact Nat.le_refl _)] at hrows2
      have hu0 : UpTo w wo M a 0 (.slice ad' a cap') := ⟨ad', cap', rfl, ⟨vals, by show wo.ownsRow w.heap.size _ 1 _ (unitM a).length vals; rw [HUL.out]; exact hown2, hrows2⟩, hbo⟩
      have HU0 := Lib.hid hu0
      clear hrows hbo hown hown2 hrows2 hu0
      go_wp2
      go_loopw [5, 8] (fun v i wr => ∃ j : Nat, j ≤ n ∧ i = .int .i64 j ∧ UpTo w wr M a j v) (fun _ i _ => n - (intOf i).toNat)
      case atStart => exact ⟨0, by omega, rfl, HU0.out⟩
      case round =>
        obtain ⟨j, hj, rfl, hu⟩ := hrel
        obtain ⟨ad, c, rfl, hmat, hb⟩ := hu
        have HMAT := Lib.hid hmat
        have HB := Lib.hid hb
        have hsz3 := hb.size
        clear hmat hb
        by_cases hlj : j < n
        · have hsq : Sq (upM M a j) a := upM_sq j
          have hmul := l12Times_any ad am c cm a (upM M a j) M hsq HM.out (by omega) wr (HMAT.out.matAt hsq.1.symm) (HMM.out.below HB.out)
          have HMUL := Lib.hid hmul
          clear hsq hmul
          go_wp2_with fail
          refine HMUL.out.mono ?_
          rintro e w2 ⟨ad2, c2, rfl, hmat2, hb2⟩
          have HM2 := Lib.hid hmat2
          clear hmat2
          go_wp2_with fail
          go_roundw
          case rel => exact ⟨j + 1, by omega, by go_num, ad2, c2, rfl, HM2.out.rebase hsz3, HB.out.trans (hb2.mono hsz3)⟩
          case measure => simp [intOf]; omega
        · obtain rfl : j = n := by omega
          go_wp2
          go_ret
          exact ⟨ad, c, rfl, HMAT.out, HB.out⟩

theorem cylCount_no {w n : Int} (h : ¬ (WOk w ∧ 1 ≤ n ∧ n ≤ 12)) : cylCount w n = -1 := if_neg h
theorem cylCount_yes {w n : Nat} (h1 : 1 ≤ w) (h2 : w ≤ 4) (h3 : 1 ≤ n) (h4 : n ≤ 12) : cylCount w n = cylV w n := by
  unfold cylCount
  rw [if_pos ⟨⟨by omega, by omega⟩, by omega, by omega⟩]
  simp

set_option maxRecDepth 100000 in
set_option maxHeartbeats 1600000 in
theorem specCyl (x y : Int) (w : World) :
    Calls Tryd.prog 15 #[.int .i64 x, .int .i64 y] w fun e w' => e = .returned (.int .i64 (cylCount x y)) ∧ Below w.heap.size w w' := by
  by_cases hx : 1 ≤ x ∧ x ≤ 4
  · by_cases hy : 1 ≤ y ∧ y ≤ 12
    · obtain ⟨W, rfl⟩ := Int.eq_ofNat_of_zero_le (show 0 ≤ x by omega)
      obtain ⟨n, rfl⟩ := Int.eq_ofNat_of_zero_le (show 0 ≤ y by omega)
      have hv := cylCount_yes (w := W) (n := n) (by omega) (by omega) (by omega) (by omega)
      have hup := upM_powM W (by omega) (n - 1)
      rw [show n - 1 + 1 = n from by omega] at hup
      rw [hv, cylV, ← hup]
      have ht := specTrans W (by omega) (by omega)
      obtain ⟨N, hN⟩ : ∃ N : Nat, N = 2 ^ W := ⟨_, rfl⟩
      have hN16 : N ≤ 16 := by rw [hN]; exact pow4 (by omega)
      have hsq := transM_sq W
      rw [← hN] at ht hsq ⊢
      have hsq2 := upM_sq (M := transM W) (k := N) n
      have HT := Lib.hid ht
      have HSQ := Lib.hid hsq
      have HSQ2 := Lib.hid hsq2
      obtain ⟨hx1, hx2⟩ := hx
      obtain ⟨hy1, hy2⟩ := hy
      clear hv hup hN ht hsq hsq2
      go_enter Tryd.func15, Tryd.ntmps15
      go_wp2_with fail
      refine (HT.out _).mono ?_
      rintro e w1 ⟨a1, c1, rfl, hm1, hb1⟩
      have HM1 := Lib.hid hm1
      have HB1 := Lib.hid hb1
      clear hm1 hb1
      go_wp2_with fail
      refine (l1In_yes _ _ _ _ (by omega) (by omega)).mono ?_
      rintro e w' ⟨rfl, rfl⟩
      have hpow := l17Power_any a1 c1 N n (transM W) HSQ.out (by omega) (by omega) w1 (HM1.out.matAt HSQ.out.1.symm)
      have HPOW := Lib.hid hpow
      clear hpow
      go_wp2_with fail
      refine HPOW.out.mono ?_
      rintro e w2 ⟨a2, c2, rfl, hm2, hb2⟩
      have HM2 := Lib.hid (hm2.matAt HSQ2.out.1.symm)
      have HB2 := Lib.hid (HB1.out.trans (hb2.mono HB1.out.size))
      clear hm2 hb2
      go_wp2
      go_loopw [8, 9] (fun v i wr => ∃ k : Nat, k ≤ N ∧ i = .int .i64 k ∧ v = .int .i64 (traceTo (upM (transM W) N n) k) ∧ w2 = wr) (fun _ i _ => N - (intOf i).toNat)
      case atStart => exact ⟨0, by omega, rfl, rfl, rfl⟩
      case round =>
        obtain ⟨k, hk, rfl, rfl, rfl⟩ := hrel
        by_cases hlt : k < N
        · obtain ⟨g, off, gi, oi, ci, rfl, hg, hgi, x1, x2⟩ := HM2.out.at HSQ2.out hlt hlt
          have ht : traceTo (upM (transM W) N n) (k + 1) = wrap64 (traceTo (upM (transM W) N n) k + ((upM (transM W) N n).getD k []).getD k 0) := rfl
          obtain ⟨x, hx⟩ : ∃ x, x = ((upM (transM W) N n).getD k []).getD k 0 := ⟨_, rfl⟩
          obtain ⟨t, htt⟩ : ∃ t, t = traceTo (upM (transM W) N n) k := ⟨_, rfl⟩
          rw [← hx, ← htt] at ht
          rw [← hx] at x2
          rw [← htt]
          have HTR := Lib.hid ht
          clear ht hx htt
          go_wp2
          go_roundw
          case rel => exact ⟨k + 1, by omega, by go_num, by rw [HTR.out], trivial⟩
          case measure => simp [intOf]; omega
        · obtain rfl : k = N := by omega
          go_wp2
          go_ret
          exact ⟨rfl, HB2.out⟩
    · obtain ⟨W, rfl⟩ := Int.eq_ofNat_of_zero_le (show 0 ≤ x by omega)
      rw [cylCount_no (fun h => hy h.2)]
      have ht := specTrans W (by omega) (by omega)
      have HT := Lib.hid ht
      have HY := Lib.hid (show y < 1 ∨ 12 < y by omega)
      clear hx hy ht
      go_enter Tryd.func15, Tryd.ntmps15
      go_wp2_with fail
      refine (HT.out _).mono ?_
      rintro e w1 ⟨a1, c1, rfl, hm1, hb1⟩
      clear hm1
      go_wp2_with fail
      refine (l1In_no _ _ _ _ HY.out).mono ?_
      rintro e w' ⟨rfl, rfl⟩
      go_wp2
      go_ret
      exact ⟨rfl, hb1⟩
  · rw [cylCount_no (fun h => hx h.1)]
    have ht := specTrans_no x (by omega)
    have HT := Lib.hid ht
    clear hx ht
    go_enter Tryd.func15, Tryd.ntmps15
    go_wp2_with fail
    refine (HT.out _).mono ?_
    rintro e w1 ⟨a1, c1, rfl, hb1⟩
    go_wp2
    go_ret
    exact ⟨rfl, hb1⟩

def PowTo (w wr : World) (M : List (List Int)) (N j : Nat) (v : Value) : Prop :=
  ∃ ad c, v = .slice ad N c ∧ MatAt wr ad (powM M N j) ∧ Below w.heap.size w wr

set_option maxRecDepth 100000 in
set_option maxHeartbeats 1600000 in
theorem implCyl (x y : Int) (w : World) :
    Calls Tryd.prog 12 #[.int .i64 x, .int .i64 y] w fun e w' => e = .returned (.int .i64 (cylCount x y)) ∧ Below w.heap.size w w' := by
  by_cases hx : 1 ≤ x ∧ x ≤ 4
  · by_cases hy : 1 ≤ y ∧ y ≤ 12
    · obtain ⟨W, rfl⟩ := Int.eq_ofNat_of_zero_le (show 0 ≤ x by omega)
      obtain ⟨n, rfl⟩ := Int.eq_ofNat_of_zero_le (show 0 ≤ y by omega)
      have hv := cylCount_yes (w := W) (n := n) (by omega) (by omega) (by omega) (by omega)
      rw [hv, cylV]
      have ht := implTrans W (by omega) (by omega)
      obtain ⟨N, hN⟩ : ∃ N : Nat, N = 2 ^ W := ⟨_, rfl⟩
      have hN16 : N ≤ 16 := by rw [hN]; exact pow4 (by omega)
      have hsq := transM_sq W
      rw [← hN] at ht hsq ⊢
      have hsq2 := fun j => powM_sq (M := transM W) (k := N) hsq j
      have HT := Lib.hid ht
      have HSQ := Lib.hid hsq
      have HSQ2 := Lib.hid hsq2
      obtain ⟨hx1, hx2⟩ := hx
      obtain ⟨hy1, hy2⟩ := hy
      clear hv hN ht hsq hsq2
      go_enter Tryd.func12, Tryd.ntmps12
      go_wp2_with fail
      refine (HT.out _).mono ?_
      rintro e w1 ⟨a1, c1, rfl, hm1, hb1⟩
      have HM1 := Lib.hid (hm1.matAt HSQ.out.1.symm)
      have HB1 := Lib.hid hb1
      clear hm1 hb1
      go_wp2_with fail
      refine (between_yes _ _ _ _ (by omega) (by omega)).mono ?_
      rintro e w' ⟨rfl, rfl⟩
      have hp0 : PowTo w w1 (transM W) N 0 (.slice a1 N c1) := ⟨a1, c1, rfl, HM1.out, HB1.out⟩
      have HP0 := Lib.hid hp0
      clear hp0
      go_wp2_with fail
      go_loopw [7, 8] (fun v i wr => ∃ k : Nat, 1 ≤ k ∧ k ≤ n ∧ i = .int .i64 k ∧ PowTo w wr (transM W) N (k - 1) v ∧ Below w1.heap.size w1 wr) (fun _ i _ => n - (intOf i).toNat)
      case atStart => exact ⟨1, by omega, by omega, rfl, HP0.out, Below.refl _ _⟩
      case round =>
        obtain ⟨k, hk1, hk, rfl, hp, hbw⟩ := hrel
        obtain ⟨ad, c, rfl, hmat, hb⟩ := hp
        have HMAT := Lib.hid hmat
        have HB := Lib.hid hb
        have HBW := Lib.hid hbw
        have hsz3 := hb.size
        clear hmat hb hbw
        by_cases hlt : k < n
        · have hmul := product_any ad a1 c c1 N (powM (transM W) N (k - 1)) (transM W) (HSQ2.out _) HSQ.out (by omega) wr HMAT.out (HM1.out.below HBW.out)
          have HMUL := Lib.hid hmul
          clear hmul
          go_wp2_with fail
          refine HMUL.out.mono ?_
          rintro e w2 ⟨ad2, c2, rfl, hmat2, hb2⟩
          have HM2 := Lib.hid (hmat2.matAt (by rw [mulM, List.length_map]; exact (HSQ2.out _).1.symm))
          clear hmat2
          go_wp2_with fail
          go_roundw
          case rel =>
            refine ⟨k + 1, by omega, by omega, by go_num, ⟨ad2, c2, rfl, ?_, HB.out.trans (hb2.mono hsz3)⟩, HBW.out.trans (hb2.mono HBW.out.size)⟩
            have e : k + 1 - 1 = k - 1 + 1 := by omega
            rw [e, powM]
            exact HM2.out
          case measure => simp [intOf]; omega
        · obtain rfl : k = n := by omega
          have hdiag := diagonal_any ad c N (powM (transM W) N (k - 1)) (HSQ2.out _) (by omega) wr HMAT.out
          have HD := Lib.hid hdiag
          clear hdiag
          go_wp2_with fail
          refine HD.out.mono ?_
          rintro e w' ⟨rfl, rfl⟩
          go_wp2
          go_ret
          exact ⟨rfl, HB.out⟩
    · obtain ⟨W, rfl⟩ := Int.eq_ofNat_of_zero_le (show 0 ≤ x by omega)
      rw [cylCount_no (fun h => hy h.2)]
      have ht := implTrans W (by omega) (by omega)
      have HT := Lib.hid ht
      have HY := Lib.hid (show y < 1 ∨ 12 < y by omega)
      clear hx hy ht
      go_enter Tryd.func12, Tryd.ntmps12
      go_wp2_with fail
      refine (HT.out _).mono ?_
      rintro e w1 ⟨a1, c1, rfl, hm1, hb1⟩
      clear hm1
      go_wp2_with fail
      refine (between_no _ _ _ _ HY.out).mono ?_
      rintro e w' ⟨rfl, rfl⟩
      go_wp2
      go_ret
      exact ⟨rfl, hb1⟩
  · rw [cylCount_no (fun h => hx h.1)]
    have ht := implTrans_no x (by omega)
    have HT := Lib.hid ht
    clear hx ht
    go_enter Tryd.func12, Tryd.ntmps12
    go_wp2_with fail
    refine (HT.out _).mono ?_
    rintro e w1 ⟨a1, c1, rfl, hb1⟩
    go_wp2
    go_ret
    exact ⟨rfl, hb1⟩
end Go.Proofs.YtgplpngphaaefaaDoor
