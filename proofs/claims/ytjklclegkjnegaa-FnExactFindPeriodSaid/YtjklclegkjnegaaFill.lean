/- Fill: the walk of the program's IsWangFill. -/
import Derived.Test.YtjklclegkjnegaaFillS
namespace Go.Proofs.Ytjklclegkjnegaa
open Go.RowKit

theorem isWangGrid_any (a b : Int) (w : World) : Calls Try.prog 31 #[.int .i64 a, .int .i64 b] w fun e w' => e = .returned (.bool (decide (Sides a b))) ∧ w = w' := by
  by_cases h1 : 1 ≤ a ∧ a ≤ 4
  · by_cases h2 : 1 ≤ b ∧ b ≤ 4
    · rw [decide_eq_true (show Sides a b from ⟨h1, h2⟩)]
      go_enter Try.func31, Try.ntmps31
      go_wp2_with (go_at_call 24; refine (between_yes _ _ _ _ (by omega) (by omega)).mono ?_; rintro e w' ⟨rfl, rfl⟩)
      go_ret
      exact ⟨rfl, rfl⟩
    · rw [decide_eq_false (show ¬ Sides a b from fun h => h2 h.2)]
      go_enter Try.func31, Try.ntmps31
      go_wp2_with fail
      refine (between_yes _ _ _ _ (by omega) (by omega)).mono ?_
      rintro e w' ⟨rfl, rfl⟩
      go_wp2_with fail
      refine (between_no _ _ _ _ (by omega)).mono ?_
      rintro e w' ⟨rfl, rfl⟩
      go_wp2
      go_ret
      exact ⟨rfl, rfl⟩
  · rw [decide_eq_false (show ¬ Sides a b from fun h => h1 h.1)]
    go_enter Try.func31, Try.ntmps31
    go_wp2_with fail
    refine (between_no _ _ _ _ (by omega)).mono ?_
    rintro e w' ⟨rfl, rfl⟩
    go_wp2
    go_ret
    exact ⟨rfl, rfl⟩

set_option maxRecDepth 100000 in
set_option maxHeartbeats 1600000 in
theorem implFill (ad af : Option Addr) (c cf : Nat) (ts : List Tile) (a b : Int) (xs : List Int) (w : World) (hn : ts.length ≤ 1048576) (hf : xs.length ≤ 1048576) (hcap : xs.length ≤ cf)
    (hc : CellsAt w ad (wangs ts)) (hcf : CellsAt w af (ints xs)) :
    Calls Try.prog 34 #[.slice ad ts.length c, .int .i64 a, .int .i64 b, .slice af xs.length cf] w fun e w' => e = .returned (.bool (decide (IsFill ts a b xs))) ∧ Below w.heap.size w w' := by
  have hare := implAre ad c ts w hn hc
  have hsid := fun w => isWangGrid_any a b w
  by_cases hW : Wangs ts
  · rw [decide_eq_true hW] at hare
    by_cases hS : Sides a b
    · rw [decide_eq_true hS] at hsid
      obtain ⟨⟨ha1, ha2⟩, hb1, hb2⟩ := hS
      obtain ⟨A, rfl⟩ := Int.eq_ofNat_of_zero_le (show 0 ≤ a by omega)
      obtain ⟨B, rfl⟩ := Int.eq_ofNat_of_zero_le (show 0 ≤ b by omega)
      have q0 : A * B ≤ 16 := Nat.mul_le_mul (show A ≤ 4 by omega) (show B ≤ 4 by omega)
      have q1 : 0 ≤ (A : Int) * (B : Int) := by exact Int.mul_nonneg (by omega) (by omega)
      have q2 : (A : Int) * (B : Int) ≤ 16 := by exact_mod_cast q0
      by_cases hl : (xs.length : Int) = (A : Int) * (B : Int)
      · have hle : xs.length ≤ 16 := by omega
        have hld : ((xs.length : Int) != (A : Int) * (B : Int)) = false := by simp [hl]
        have hiff : IsFill ts A B xs ↔ FillTo ts A xs xs.length := ⟨fun h => h.2.2.2, fun h => ⟨hW, ⟨⟨ha1, ha2⟩, hb1, hb2⟩, hl, h⟩⟩
        have HIFF := Lib.hid hiff
        have HARE := Lib.hid hare
        have HSID := Lib.hid hsid
        have HC := Lib.hid hc
        have HCF := Lib.hid hcf
        have h6 := hW.2.2
        have h16 := hW.2.1
        have hlx := ints_length xs
        clear hiff hare hsid hc hcf hW hl
        go_enter Try.func34, Try.ntmps34
        go_wp2_with fail
        refine HARE.out.mono ?_
        rintro e w1 ⟨rfl, hb0⟩
        go_wp2_with fail
        refine (HSID.out _).mono ?_
        rintro e w' ⟨rfl, rfl⟩
        go_wp2
        go_loopw [30] (fun i wr => ∃ k : Nat, k ≤ xs.length ∧ i = .int .i64 k ∧ FillTo ts A xs k ∧ Below w.heap.size w wr) (fun i _ => xs.length - (intOf i).toNat)
        case atStart => exact ⟨0, by omega, rfl, FillTo.zero _ _ _, hb0⟩
        case round =>
          obtain ⟨k, hk, rfl, ht, hbr⟩ := hrel
          have HT := Lib.hid ht
          have HCR := Lib.hid (HC.out.below hbr)
          have HFR := Lib.hid (HCF.out.below hbr)
          clear ht
          by_cases hlt : k < xs.length
          · obtain ⟨g, off, rfl, hg, hcc⟩ := HFR.out.open (by omega)
            have hx := hcc k _ (Xa_at hlt)
            clear hcc
            obtain ⟨x, hxx⟩ : ∃ x, x = Xa xs k := ⟨_, rfl⟩
            rw [← hxx] at hx
            have HX := Lib.hid hxx
            clear hxx
            by_cases hr : 0 ≤ x ∧ x < ts.length
            · obtain ⟨hr1, hr2⟩ := hr
              obtain ⟨t, rfl⟩ := Int.eq_ofNat_of_zero_le hr1
              have hpl : ((xs.take k).map Int.toNat).length = k := by simp; omega
              have hcut : CellsAt wr (some ⟨g, off, none⟩) (ints (nats ((xs.take k).map Int.toNat ++ [t]))) := by
                rw [nats_snoc, nats_take HT.out hk]
                have e : xs.take k ++ [(t : Int)] = xs.take (k + 1) := by
                  rw [List.take_succ_eq_append_getElem hlt]
                  have : Xa xs k = xs[k] := by simp [Xa, hlt]
                  rw [← this, ← HX.out]
                rw [e, ints, List.map_take]
                exact HFR.out.take (k + 1)
              have hfit := wangFits_any ad (some ⟨g, off, none⟩) c cf ts ((xs.take k).map Int.toNat) A t wr hn (by omega) ⟨by omega, by omega⟩ (by omega) (At_take HT.out hk) HCR.out hcut
              rw [hpl] at hfit
              have hXt : (Xa xs k).toNat = t := by rw [← HX.out]; rfl
              have HXT := Lib.hid hXt
              clear hcut hpl hXt
              by_cases hfb : fitsB ts A ((xs.take k).map Int.toNat) t = true
              · rw [hfb] at hfit
                have HFB := Lib.hid hfb
                have HFIT := Lib.hid hfit
                clear hfb hfit
                go_wp2_with fail
                refine (between_yes _ _ _ _ (by omega) (by omega)).mono ?_
                rintro e w' ⟨rfl, rfl⟩
                go_wp2_with fail
                refine HFIT.out.mono ?_
                rintro e w2 ⟨rfl, hb2⟩
                go_wp2
                go_roundw
                case rel => exact ⟨k + 1, by omega, by go_num, HT.out.succ (by rw [← HX.out]; omega) (by rw [HXT.out]; exact HFB.out), hbr.trans (hb2.mono hbr.size)⟩
                case measure => simp [intOf]; omega
              · have hfb' : fitsB ts A ((xs.take k).map Int.toNat) t = false := by simpa using hfb
                rw [hfb'] at hfit
                have HFB := Lib.hid hfb'
                have HFIT := Lib.hid hfit
                clear hfb hfb' hfit
                go_wp2_with fail
                refine (between_yes _ _ _ _ (by omega) (by omega)).mono ?_
                rintro e w' ⟨rfl, rfl⟩
                go_wp2_with fail
                refine HFIT.out.mono ?_
                rintro e w2 ⟨rfl, hb2⟩
                go_wp2
                go_ret
                have hno : ¬ IsFill ts A B xs := by
                  rw [HIFF.out]
                  intro h
                  have h2 := (h k hlt).2
                  rw [HXT.out, HFB.out] at h2
                  cases h2
                rw [decide_eq_false hno]
                exact ⟨rfl, hbr.trans (hb2.mono hbr.size)⟩
            · have hr' : x < 0 ∨ (ts.length : Int) - 1 < x := by omega
              have hno : ¬ IsFill ts A B xs := by
                rw [HIFF.out]
                intro h
                have h2 := (h k hlt).1
                rw [← HX.out] at h2
                exact hr h2
              have HNO := Lib.hid hno
              clear hno hr
              go_wp2_with fail
              refine (between_no _ _ _ _ (by omega)).mono ?_
              rintro e w' ⟨rfl, rfl⟩
              go_wp2
              go_ret
              rw [decide_eq_false HNO.out]
              exact ⟨rfl, hbr⟩
          · obtain rfl : k = xs.length := by omega
            go_wp2
            go_ret
            rw [decide_eq_true (HIFF.out.2 HT.out)]
            exact ⟨rfl, hbr⟩
      · have hld : ((xs.length : Int) != (A : Int) * (B : Int)) = true := by simp [hl]
        have hno : ¬ IsFill ts A B xs := fun h => hl h.2.2.1
        rw [decide_eq_false hno]
        have HARE := Lib.hid hare
        have HSID := Lib.hid hsid
        clear hare hsid hc hcf hW hl hno
        go_enter Try.func34, Try.ntmps34
        go_wp2_with fail
        refine HARE.out.mono ?_
        rintro e w1 ⟨rfl, hb0⟩
        go_wp2_with fail
        refine (HSID.out _).mono ?_
        rintro e w' ⟨rfl, rfl⟩
        go_wp2
        go_ret
        exact ⟨rfl, hb0⟩
    · have hno : ¬ IsFill ts a b xs := fun h => hS h.2.1
      rw [decide_eq_false hS] at hsid
      rw [decide_eq_false hno]
      have HARE := Lib.hid hare
      have HSID := Lib.hid hsid
      clear hare hsid hc hcf hW hS hno
      go_enter Try.func34, Try.ntmps34
      go_wp2_with fail
      refine HARE.out.mono ?_
      rintro e w1 ⟨rfl, hb0⟩
      go_wp2_with fail
      refine (HSID.out _).mono ?_
      rintro e w' ⟨rfl, rfl⟩
      go_wp2
      go_ret
      exact ⟨rfl, hb0⟩
  · have hno : ¬ IsFill ts a b xs := fun h => hW h.1
    rw [decide_eq_false hW] at hare
    rw [decide_eq_false hno]
    have HARE := Lib.hid hare
    clear hare hsid hc hcf hW hno
    go_enter Try.func34, Try.ntmps34
    go_wp2_with fail
    refine HARE.out.mono ?_
    rintro e w1 ⟨rfl, hb0⟩
    go_wp2
    go_ret
    exact ⟨rfl, hb0⟩
end Go.Proofs.Ytjklclegkjnegaa
