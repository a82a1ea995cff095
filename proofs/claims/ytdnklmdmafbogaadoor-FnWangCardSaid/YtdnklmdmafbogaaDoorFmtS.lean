/- FmtS: the walk of the reference's FormatWang. -/
import Derived.Test.YtdnklmdmafbogaaDoorText1
import Derived.Lib.QuietBelow
import Derived.BigQuiet
import Derived.IntWalk
import Derived.Deep.DrawnRows
namespace Go.Proofs.YtdnklmdmafbogaaDoor
open Go.RowKit

attribute [local go_sem ↓] Go.wp_at_zero Go.wp_at_succ

set_option maxRecDepth 100000 in
set_option maxHeartbeats 3200000 in
theorem specFmt_yes (ad : Option Addr) (c : Nat) (ts : List Tile) (w : World) (hw : Wangs ts) (hc : CellsAt w ad (wangs ts)) :
    Calls Tryd.prog 9 #[.slice ad ts.length c] w fun e w' => e = .returned (.string (fmtTo ts ts.length)) ∧ Below w.heap.size w w' := by
  have hare := fun w' h => specAre ad c ts w' (by have := hw.2.2; omega) h
  rw [decide_eq_true hw] at hare
  have HARE := Lib.hid hare
  have HF := Lib.hid hw.1
  have HC := Lib.hid hc
  have hn6 := hw.2.2
  have hn1 := hw.2.1
  clear hare hw hc
  go_enter Tryd.func9, Tryd.ntmps9
  go_wp2
  go_loopw [3, 4] (fun sv iv wr => ∃ k : Nat, k ≤ ts.length ∧ iv = .int .i64 k ∧ sv = .string (fmtTo ts k) ∧ Below w.heap.size w wr) (fun _ iv _ => ts.length - (intOf iv).toNat)
  case atStart => exact ⟨0, Nat.zero_le _, rfl, rfl, Below.refl _ _⟩
  case round =>
    obtain ⟨k, hk, rfl, rfl, hb⟩ := hrel
    have HB := Lib.hid hb
    have hsz := hb.size
    by_cases hlt : k < ts.length
    · have i1 : (k : Int) < (ts.length : Int) := by omega
      obtain ⟨g, off, rfl, hg, hcc⟩ := wang_open HC.out (by omega)
      obtain ⟨y0, y1, y2, y3⟩ := hcc k hlt
      have x0 := (hb.cell (p := ⟨g, off + k * 4, none⟩) hg).trans y0
      have x1 := (hb.cell (p := ⟨g, off + k * 4 + 1, none⟩) hg).trans y1
      have x2 := (hb.cell (p := ⟨g, off + k * 4 + 2, none⟩) hg).trans y2
      have x3 := (hb.cell (p := ⟨g, off + k * 4 + 3, none⟩) hg).trans y3
      have hstep := fmtTo_succ hlt
      obtain ⟨h1, h2, h3, h4⟩ := HF.out ts[k] (List.getElem_mem hlt)
      have HAR := Lib.hid (HARE.out wr (HC.out.below hb))
      clear hcc hb y0 y1 y2 y3
      generalize ts[k] = x at x0 x1 x2 x3 hstep h1 h2 h3 h4
      obtain ⟨xt, xr, xb, xl⟩ := x
      unfold Col at h1 h2 h3 h4
      dsimp only at h1 h2 h3 h4
      obtain ⟨a, rfl⟩ := Int.eq_ofNat_of_zero_le h1.1
      obtain ⟨b, rfl⟩ := Int.eq_ofNat_of_zero_le h2.1
      obtain ⟨d, rfl⟩ := Int.eq_ofNat_of_zero_le h3.1
      obtain ⟨e, rfl⟩ := Int.eq_ofNat_of_zero_le h4.1
      unfold tileTo at hstep
      simp only [Int.toNat_natCast] at hstep
      have ha : a < 10 := by omega
      have hb' : b < 10 := by omega
      have hd : d < 10 := by omega
      have he : e < 10 := by omega
      clear h1 h2 h3 h4
      have hs30 := fmtTo_sz HF.out hn6 hk
      have za := numB_sz ha
      have zb := numB_sz hb'
      have zd := numB_sz hd
      have ze := numB_sz he
      have X0 := cell_regrown x0
      have X1 := cell_regrown x1
      have X2 := cell_regrown x2
      have X3 := cell_regrown x3
      have HN := Lib.hid (fun (n : Nat) (hn : n < 10) d os => Calls.regrown_of (d := d) (os := os) (specNum n hn (Go.Sort.grow (redrawn wr d) os)))
      clear x0 x1 x2 x3
      by_cases hk0 : 0 < k
      · rw [if_pos hk0] at hstep
        have g1 : decide ((0 : Int) < (k : Int)) = true := decide_eq_true (by omega)
        have g2 : decide (0 < k) = true := decide_eq_true hk0
        have HST := Lib.hid hstep
        clear hstep hk0
        go_wp2_with fail
        refine HAR.out.mono ?_
        rintro e w1 ⟨rfl, rfl⟩
        go_wp2
        refine wp_region_quiet_below (by kernel_rfl) (by kernel_rfl) ?_
        repeat (go_big_quiet_step (exact HN.out _ (by assumption) _ _))
        refine wpQuiet_nil ?_
        intro _ hw'
        obtain ⟨⟨dq, osq⟩, hw''⟩ := hw'
        subst hw''
        have hbr := below_regrown wr dq osq
        generalize Go.Sort.grow (redrawn wr dq) osq = w5 at hbr ⊢
        have HB5 := Lib.hid (HB.out.trans (hbr.mono hsz))
        clear hbr X0 X1 X2 X3
        go_wp2
        go_roundw
        case rel => exact ⟨k + 1, hlt, by go_num, by rw [HST.out], HB5.out⟩
        case measure => simp [intOf]; omega
      · rw [if_neg hk0] at hstep
        have g1 : decide ((0 : Int) < (k : Int)) = false := decide_eq_false (by omega)
        have g2 : decide (0 < k) = false := decide_eq_false hk0
        have HST := Lib.hid hstep
        clear hstep hk0
        go_wp2_with fail
        refine HAR.out.mono ?_
        rintro e w1 ⟨rfl, rfl⟩
        go_wp2
        refine wp_region_quiet_below (by kernel_rfl) (by kernel_rfl) ?_
        repeat (go_big_quiet_step (exact HN.out _ (by assumption) _ _))
        refine wpQuiet_nil ?_
        intro _ hw'
        obtain ⟨⟨dq, osq⟩, hw''⟩ := hw'
        subst hw''
        have hbr := below_regrown wr dq osq
        generalize Go.Sort.grow (redrawn wr dq) osq = w5 at hbr ⊢
        have HB5 := Lib.hid (HB.out.trans (hbr.mono hsz))
        clear hbr X0 X1 X2 X3
        go_wp2
        go_roundw
        case rel => exact ⟨k + 1, hlt, by go_num, by rw [HST.out], HB5.out⟩
        case measure => simp [intOf]; omega
    · obtain rfl : k = ts.length := by omega
      go_wp2
      go_ret
      exact ⟨rfl, HB.out⟩

set_option maxRecDepth 100000 in
set_option maxHeartbeats 1600000 in
theorem specFmt (ad : Option Addr) (c : Nat) (ts : List Tile) (w : World) (hn : ts.length ≤ 1048576) (hc : CellsAt w ad (wangs ts)) :
    Calls Tryd.prog 9 #[.slice ad ts.length c] w fun e w' => e = .returned (.string (fmtW ts)) ∧ Below w.heap.size w w' := by
  by_cases hw : Wangs ts
  · rw [show fmtW ts = fmtTo ts ts.length from if_pos hw]
    exact specFmt_yes ad c ts w hw hc
  · rw [show fmtW ts = ⟨#[]⟩ from if_neg hw]
    have hare := specAre ad c ts w hn hc
    rw [decide_eq_false hw] at hare
    have HARE := Lib.hid hare
    clear hare hw hc
    by_cases h0 : 0 < ts.length
    · have i1 : decide ((0 : Int) < (ts.length : Int)) = true := decide_eq_true (by omega)
      have i2 : decide (0 < ts.length) = true := decide_eq_true h0
      go_enter Tryd.func9, Tryd.ntmps9
      go_wp2
      go_loopw [3, 4] (fun sv iv wr => sv = .string ⟨#[]⟩ ∧ iv = .int .i64 0 ∧ wr = w) (fun _ iv _ => 0)
      case atStart => exact ⟨rfl, rfl, rfl⟩
      case round =>
        obtain ⟨rfl, rfl, rfl⟩ := hrel
        go_wp2_with fail
        refine HARE.out.mono ?_
        rintro e w1 ⟨rfl, rfl⟩
        go_wp2
        go_ret
        exact ⟨rfl, Below.refl _ _⟩
    · have e0 : ts.length = 0 := by omega
      rw [e0]
      go_enter Tryd.func9, Tryd.ntmps9
      go_wp2
      go_loopw [3, 4] (fun sv iv wr => sv = .string ⟨#[]⟩ ∧ iv = .int .i64 0 ∧ wr = w) (fun _ iv _ => 0)
      case atStart => exact ⟨rfl, rfl, rfl⟩
      case round =>
        obtain ⟨rfl, rfl, rfl⟩ := hrel
        go_wp2
        go_ret
        exact ⟨rfl, Below.refl _ _⟩
end Go.Proofs.YtdnklmdmafbogaaDoor
