/- Grow: the walks of GrowthTable, the reference's and the program's. -/
import Derived.Test.YtgplpngphaaefaaDoorCyl
namespace Go.Proofs.YtgplpngphaaefaaDoor
open Go.RowKit

theorem growL_yes {w n : Int} (h1 : WOk w) (h2 : n ≤ 12) : growL w n = growTo w n.toNat := if_pos ⟨h1, h2⟩
theorem growL_no {w n : Int} (h : ¬ (WOk w ∧ n ≤ 12)) : growL w n = [] := if_neg h

set_option maxRecDepth 100000 in
set_option maxHeartbeats 1600000 in
theorem specGrow (x y : Int) (w : World) :
    Calls Tryd.prog 16 #[.int .i64 x, .int .i64 y] w fun e w' => ∃ ad' cap', e = .returned (.slice ad' (growL x y).length cap') ∧ w'.ownsRow w.heap.size 3 1 (.slice ad' (growL x y).length cap') (growL x y).length (ints (growL x y)) ∧ Below w.heap.size w w' := by
  have HE := Lib.hid (ownsRow_empty w 3 1)
  have HB0 := Lib.hid (show Below w.heap.size w (w.alloc (.cells #[] 3)) from (Below.refl _ _).alloc (Nat.le_refl _) _)
  by_cases hx : WOk x
  · by_cases hy : y ≤ 12
    · rw [growL_yes hx hy, growTo_length]
      obtain ⟨n, hn⟩ : ∃ n : Nat, n = y.toNat := ⟨_, rfl⟩
      rw [← hn]
      have hn12 : n ≤ 12 := by omega
      have HY := Lib.hid (show ∀ k : Nat, ((k : Int) + 1 ≤ y ↔ k < n) by intro k; omega)
      obtain ⟨hx1, hx2⟩ := hx
      clear hn
      go_enter Tryd.func16, Tryd.ntmps16
      go_wp2_with fail
      go_loopw [5, 6] (fun v i wr => ∃ k : Nat, k ≤ n ∧ i = .int .i64 ((k : Int) + 1) ∧ wr.ownsRow w.heap.size 3 1 v k (ints (growTo x k)) ∧ Below w.heap.size w wr) (fun _ i _ => n - ((intOf i).toNat - 1))
      case atStart => exact ⟨0, by omega, rfl, HE.out, HB0.out⟩
      case round =>
        obtain ⟨k, hk, rfl, hown, hb⟩ := hrel
        have HO := Lib.hid hown
        have HB := Lib.hid hb
        have hsz := hb.size
        clear hown hb
        by_cases hlt : k < n
        · have hd : decide ((k : Int) + 1 ≤ y) = true := decide_eq_true ((HY.out k).2 hlt)
          have hd2 : decide (y ≤ 12) = true := decide_eq_true hy
          have hc := fun w => specCyl x ((k : Int) + 1) w
          have hs := growTo_snoc x k
          obtain ⟨z, hz⟩ : ∃ z, z = cylCount x ((k : Int) + 1) := ⟨_, rfl⟩
          rw [← hz] at hc hs
          have HC := Lib.hid hc
          have HS := Lib.hid hs
          clear hc hs hz
          go_wp2_with fail
          refine (l1In_yes _ _ _ _ (by omega) (by omega)).mono ?_
          rintro e w' ⟨rfl, rfl⟩
          go_wp2_with fail
          refine (HC.out _).mono ?_
          rintro e w2 ⟨rfl, hb2⟩
          have hfar := ownsRow_far_below HO.out hb2 (Nat.le_refl _)
          have HFAR := Lib.hid hfar
          have hsz2 := hb2.size
          have HB2 := Lib.hid hb2
          clear hfar hb2
          go_wp2_with (at_builtin; refine wpList_app1 rfl (.tmp 21) (.tmp 25) 29 rfl w.heap.size 3 _ 1 8 Tryd.elemInt _ k _ _ _ _ rfl rfl rfl HFAR.out (by rfl) (by simp [Value.oneCell']) (by unfold maxLen; omega) (by omega) (by omega) ?_; intro g' cap w3 q1 q2 q3 q4 q5 q6)
          go_roundw
          case rel =>
            refine ⟨k + 1, by omega, by go_num, ?_, (HB.out.trans (HB2.out.mono hsz)).trans q2⟩
            rw [HS.out, ints_append]
            exact q1
          case measure => simp [intOf]; omega
        · have hd : decide ((k : Int) + 1 ≤ y) = false := decide_eq_false (fun h => hlt ((HY.out k).1 h))
          obtain rfl : k = n := by omega
          obtain ⟨ad, c, rfl, _⟩ := ownsRow_cells HO.out
          go_wp2
          go_ret
          exact ⟨ad, c, rfl, HO.out, HB.out⟩
    · rw [growL_no (fun h => hy h.2)]
      have hd : decide (1 ≤ y) = true := by simp; omega
      have hd2 : decide (y ≤ 12) = false := by simp; omega
      clear hx
      go_enter Tryd.func16, Tryd.ntmps16
      go_wp2_with fail
      refine wp_loop_rounds 1 ?_
      rw [rounds_succ]
      go_wp2
      go_ret
      exact ⟨_, _, rfl, HE.out, HB0.out⟩
  · rw [growL_no (fun h => hx h.1)]
    have HX := Lib.hid (show x < 1 ∨ 4 < x by unfold WOk at hx; omega)
    clear hx
    by_cases hy1 : 1 ≤ y
    · have hd : decide (1 ≤ y) = true := by simp; omega
      by_cases hy : y ≤ 12
      · have hd2 : decide (y ≤ 12) = true := by simp; omega
        go_enter Tryd.func16, Tryd.ntmps16
        go_wp2_with fail
        refine wp_loop_rounds 1 ?_
        rw [rounds_succ]
        go_wp2_with fail
        refine (l1In_no _ _ _ _ HX.out).mono ?_
        rintro e w' ⟨rfl, rfl⟩
        go_wp2
        go_ret
        exact ⟨_, _, rfl, HE.out, HB0.out⟩
      · have hd2 : decide (y ≤ 12) = false := by simp; omega
        go_enter Tryd.func16, Tryd.ntmps16
        go_wp2_with fail
        refine wp_loop_rounds 1 ?_
        rw [rounds_succ]
        go_wp2
        go_ret
        exact ⟨_, _, rfl, HE.out, HB0.out⟩
    · have hd : decide (1 ≤ y) = false := by simp; omega
      go_enter Tryd.func16, Tryd.ntmps16
      go_wp2_with fail
      refine wp_loop_rounds 1 ?_
      rw [rounds_succ]
      go_wp2
      go_ret
      exact ⟨_, _, rfl, HE.out, HB0.out⟩

set_option maxRecDepth 100000 in
set_option maxHeartbeats 1600000 in
theorem implGrow (x y : Int) (w : World) :
    Calls Tryd.prog 14 #[.int .i64 x, .int .i64 y] w fun e w' => ∃ ad' cap', e = .returned (.slice ad' (growL x y).length cap') ∧ w'.ownsRow w.heap.size 3 1 (.slice ad' (growL x y).length cap') (growL x y).length (ints (growL x y)) ∧ Below w.heap.size w w' := by
  by_cases h : WOk x ∧ 1 ≤ y ∧ y ≤ 12
  · obtain ⟨hx, hy1, hy⟩ := h
    rw [growL_yes hx hy, growTo_length]
    obtain ⟨n, rfl⟩ := Int.eq_ofNat_of_zero_le (show 0 ≤ y by omega)
    obtain ⟨X, rfl⟩ := Int.eq_ofNat_of_zero_le (show 0 ≤ x by have := hx.1; omega)
    rw [Int.toNat_natCast]
    have hc0 := fun w => implCyl (X : Int) (n : Int) w
    have hge : 0 ≤ cylCount (X : Int) (n : Int) := by
      rw [cylCount_yes (by have := hx.1; omega) (by have := hx.2; omega) (by omega) (by omega)]
      exact cylV_nonneg (by have := hx.2; omega) (by omega)
    obtain ⟨z0, hz0⟩ : ∃ z, z = cylCount (X : Int) (n : Int) := ⟨_, rfl⟩
    rw [← hz0] at hc0 hge
    have HC0 := Lib.hid hc0
    have hd0 : decide (z0 < 0) = false := by simp; omega
    obtain ⟨hx1, hx2⟩ := hx
    clear hc0 hz0
    go_enter Tryd.func14, Tryd.ntmps14
    go_wp2_with fail
    refine (HC0.out _).mono ?_
    rintro e w1 ⟨rfl, hb1⟩
    have HB1 := Lib.hid hb1
    clear hb1
    go_wp2_with fail
    go_loopw [5, 6] (fun v i wr => ∃ k : Nat, k ≤ n ∧ i = .int .i64 ((k : Int) + 1) ∧ wr.ownsRow w.heap.size 3 1 v k (ints (growTo X k)) ∧ Below w.heap.size w wr) (fun _ i _ => n - ((intOf i).toNat - 1))
    case atStart => exact ⟨0, by omega, rfl, World.ownsRow_nil _ _ _ _, HB1.out⟩
    case round =>
      obtain ⟨k, hk, rfl, hown, hb⟩ := hrel
      have HO := Lib.hid hown
      have HB := Lib.hid hb
      have hsz := hb.size
      clear hown hb
      by_cases hlt : k < n
      · have hd : decide ((k : Int) + 1 ≤ (n : Int)) = true := decide_eq_true (by omega)
        have hc := fun w => implCyl (X : Int) ((k : Int) + 1) w
        have hs := growTo_snoc (X : Int) k
        obtain ⟨z, hz⟩ : ∃ z, z = cylCount (X : Int) ((k : Int) + 1) := ⟨_, rfl⟩
        rw [← hz] at hc hs
        have HC := Lib.hid hc
        have HS := Lib.hid hs
        clear hc hs hz
        go_wp2_with fail
        refine (HC.out _).mono ?_
        rintro e w2 ⟨rfl, hb2⟩
        have hfar := ownsRow_far_below HO.out hb2 (Nat.le_refl _)
        have HFAR := Lib.hid hfar
        have hsz2 := hb2.size
        have HB2 := Lib.hid hb2
        clear hfar hb2
        go_wp2_with (at_builtin; refine wpList_app1 rfl (.tmp 16) (.tmp 20) 29 rfl w.heap.size 3 _ 1 8 Tryd.elemInt _ k _ _ _ _ rfl rfl rfl HFAR.out (by rfl) (by simp [Value.oneCell']) (by unfold maxLen; omega) (by omega) (by omega) ?_; intro g' cap w3 q1 q2 q3 q4 q5 q6)
        go_roundw
        case rel =>
          refine ⟨k + 1, by omega, by go_num, ?_, (HB.out.trans (HB2.out.mono hsz)).trans q2⟩
          rw [HS.out, ints_append]
          exact q1
        case measure => simp [intOf]; omega
      · have hd : decide ((k : Int) + 1 ≤ (n : Int)) = false := decide_eq_false (by omega)
        obtain rfl : k = n := by omega
        obtain ⟨ad, c, rfl, _⟩ := ownsRow_cells HO.out
        go_wp2
        go_ret
        exact ⟨ad, c, rfl, HO.out, HB.out⟩
  · have hnil : growL x y = [] := by
      by_cases h2 : WOk x ∧ y ≤ 12
      · rw [growL_yes h2.1 h2.2]
        have : y.toNat = 0 := by
          have : ¬ 1 ≤ y := fun q => h ⟨h2.1, q, h2.2⟩
          omega
        rw [this]
        rfl
      · exact growL_no h2
    rw [hnil]
    have hc0 := fun w => implCyl x y w
    rw [cylCount_no h] at hc0
    have HC0 := Lib.hid hc0
    clear hc0 hnil h
    go_enter Tryd.func14, Tryd.ntmps14
    go_wp2_with fail
    refine (HC0.out _).mono ?_
    rintro e w1 ⟨rfl, hb1⟩
    go_wp2
    go_ret
    exact ⟨none, 0, rfl, World.ownsRow_nil _ _ _ _, hb1⟩
end Go.Proofs.YtgplpngphaaefaaDoor
