/- AreWang: the walks of AreWang, the reference's and the program's. -/
import Derived.Test.YtjklclegkjnegaaWangH
namespace Go.Proofs.Ytjklclegkjnegaa
open Go.RowKit

def Col (x : Int) : Prop := 0 ≤ x ∧ x ≤ 3
def TileFine (x : Tile) : Prop := Col x.t ∧ Col x.r ∧ Col x.b ∧ Col x.l
instance (x : Int) : Decidable (Col x) := by unfold Col; infer_instance
instance (x : Tile) : Decidable (TileFine x) := by unfold TileFine; infer_instance
/-- When a list of tiles is valid. -/
def Wangs (ts : List Tile) : Prop := (∀ x ∈ ts, TileFine x) ∧ 1 ≤ ts.length ∧ ts.length ≤ 6
instance (ts : List Tile) : Decidable (Wangs ts) := by unfold Wangs; infer_instance
def FineTo (ts : List Tile) (k : Nat) : Prop := ∀ x ∈ ts.take k, TileFine x

theorem FineTo.zero (ts : List Tile) : FineTo ts 0 := by intro x hx; simp at hx
theorem FineTo.succ {ts : List Tile} {k : Nat} (h : FineTo ts k) (hk : k < ts.length) (hf : TileFine ts[k]) : FineTo ts (k + 1) := by
  intro x hx
  rw [List.take_succ_eq_append_getElem hk, List.mem_append] at hx
  rcases hx with hx | hx
  · exact h x hx
  · simp at hx; rw [hx]; exact hf
theorem not_wangs {ts : List Tile} {k : Nat} (hk : k < ts.length) (hf : ¬ TileFine ts[k]) : ¬ Wangs ts := fun h => hf (h.1 _ (List.getElem_mem hk))
theorem wangs_of {ts : List Tile} (h : FineTo ts ts.length) : Wangs ts ↔ (1 ≤ ts.length ∧ ts.length ≤ 6) := by
  unfold FineTo at h
  rw [List.take_length] at h
  exact ⟨fun q => q.2, fun q => ⟨h, q⟩⟩

theorem l18Color_any (x : Int) (w : World) : Calls Try.prog 35 #[.int .i64 x] w fun e w' => e = .returned (.bool (decide (Col x))) ∧ w = w' := by
  have hd : decide (Col x) = (decide (0 ≤ x) && decide (x ≤ 3)) := by rw [Bool.eq_iff_iff, decide_eq_true_iff]; simp [Col]
  rw [hd]
  clear hd
  go_enter Try.func35, Try.ntmps35
  go_wp2_with (go_at_call 36; refine (l1In_any _ _ _ _).mono ?_; rintro e w' ⟨rfl, rfl⟩)
  go_ret
  exact ⟨rfl, rfl⟩
theorem l18Color_yes (x : Int) (w : World) (h : Col x) : Calls Try.prog 35 #[.int .i64 x] w fun e w' => e = .returned (.bool true) ∧ w = w' :=
  (l18Color_any x w).mono fun _ _ ⟨a, b⟩ => ⟨by rw [a, decide_eq_true h], b⟩
theorem l18Color_no (x : Int) (w : World) (h : ¬ Col x) : Calls Try.prog 35 #[.int .i64 x] w fun e w' => e = .returned (.bool false) ∧ w = w' :=
  (l18Color_any x w).mono fun _ _ ⟨a, b⟩ => ⟨by rw [a, decide_eq_false h], b⟩

set_option maxRecDepth 100000 in
set_option maxHeartbeats 800000 in
theorem specAre (ad : Option Addr) (c : Nat) (ts : List Tile) (w : World) (hn : ts.length ≤ 1048576) (hc : CellsAt w ad (wangs ts)) :
    Calls Try.prog 20 #[.slice ad ts.length c] w fun e w' => e = .returned (.bool (decide (Wangs ts))) ∧ w = w' := by
  have HC := Lib.hid hc
  clear hc
  go_enter Try.func20, Try.ntmps20
  go_wp2
  go_loopw [3] (fun i wr => ∃ k : Nat, k ≤ ts.length ∧ i = .int .i64 k ∧ FineTo ts k ∧ w = wr) (fun i _ => ts.length - (intOf i).toNat)
  case atStart => exact ⟨0, by omega, rfl, FineTo.zero ts, rfl⟩
  case round =>
    obtain ⟨k, hk, rfl, ht, rfl⟩ := hrel
    have HT := Lib.hid ht
    clear ht
    by_cases hlt : k < ts.length
    · obtain ⟨g, off, rfl, hg, hcc⟩ := wang_open HC.out (by omega)
      obtain ⟨x0, x1, x2, x3⟩ := hcc k hlt
      clear hcc
      obtain ⟨x, hx⟩ : ∃ x, x = ts[k] := ⟨_, rfl⟩
      rw [← hx] at x0 x1 x2 x3
      have HX := Lib.hid hx
      clear hx
      have hno : ¬ TileFine x → decide (Wangs ts) = false := fun h => decide_eq_false (not_wangs hlt (by rw [← HX.out]; exact h))
      have HNO := Lib.hid hno
      clear hno
      obtain ⟨xa, xb, xc, xd⟩ := x
      simp only at x0 x1 x2 x3
      by_cases ha : Col xa
      · have A := Lib.hid (fun w => l18Color_yes xa w ha)
        by_cases hb : Col xb
        · have B := Lib.hid (fun w => l18Color_yes xb w hb)
          by_cases hcc : Col xc
          · have C := Lib.hid (fun w => l18Color_yes xc w hcc)
            by_cases hd : Col xd
            · have D := Lib.hid (fun w => l18Color_yes xd w hd)
              have HF := Lib.hid (show TileFine ⟨xa, xb, xc, xd⟩ from ⟨ha, hb, hcc, hd⟩)
              clear ha hb hcc hd
              go_wp2_with fail
              refine (A.out _).mono ?_
              rintro e w' ⟨rfl, rfl⟩
              go_wp2_with fail
              refine (B.out _).mono ?_
              rintro e w' ⟨rfl, rfl⟩
              go_wp2_with fail
              refine (C.out _).mono ?_
              rintro e w' ⟨rfl, rfl⟩
              go_wp2_with fail
              refine (D.out _).mono ?_
              rintro e w' ⟨rfl, rfl⟩
              go_wp2
              go_roundw
              case rel => exact ⟨k + 1, by omega, by go_num, HT.out.succ hlt (by rw [← HX.out]; exact HF.out), trivial⟩
              case measure => simp [intOf]; omega
            · have D := Lib.hid (fun w => l18Color_no xd w hd)
              have HF := Lib.hid (HNO.out (fun h => hd h.2.2.2))
              clear ha hb hcc hd
              go_wp2_with fail
              refine (A.out _).mono ?_
              rintro e w' ⟨rfl, rfl⟩
              go_wp2_with fail
              refine (B.out _).mono ?_
              rintro e w' ⟨rfl, rfl⟩
              go_wp2_with fail
              refine (C.out _).mono ?_
              rintro e w' ⟨rfl, rfl⟩
              go_wp2_with fail
              refine (D.out _).mono ?_
              rintro e w' ⟨rfl, rfl⟩
              go_wp2
              go_ret
              rw [HF.out]
              exact ⟨rfl, rfl⟩
          · have C := Lib.hid (fun w => l18Color_no xc w hcc)
            have HF := Lib.hid (HNO.out (fun h => hcc h.2.2.1))
            clear ha hb hcc
            go_wp2_with fail
            refine (A.out _).mono ?_
            rintro e w' ⟨rfl, rfl⟩
            go_wp2_with fail
            refine (B.out _).mono ?_
            rintro e w' ⟨rfl, rfl⟩
            go_wp2_with fail
            refine (C.out _).mono ?_
            rintro e w' ⟨rfl, rfl⟩
            go_wp2
            go_ret
            rw [HF.out]
            exact ⟨rfl, rfl⟩
        · have B := Lib.hid (fun w => l18Color_no xb w hb)
          have HF := Lib.hid (HNO.out (fun h => hb h.2.1))
          clear ha hb
          go_wp2_with fail
          refine (A.out _).mono ?_
          rintro e w' ⟨rfl, rfl⟩
          go_wp2_with fail
          refine (B.out _).mono ?_
          rintro e w' ⟨rfl, rfl⟩
          go_wp2
          go_ret
          rw [HF.out]
          exact ⟨rfl, rfl⟩
      · have A := Lib.hid (fun w => l18Color_no xa w ha)
        have HF := Lib.hid (HNO.out (fun h => ha h.1))
        clear ha
        go_wp2_with fail
        refine (A.out _).mono ?_
        rintro e w' ⟨rfl, rfl⟩
        go_wp2
        go_ret
        rw [HF.out]
        exact ⟨rfl, rfl⟩
    · obtain rfl : k = ts.length := by omega
      go_wp2_with fail
      refine (l1In_any _ _ _ _).mono ?_
      rintro e w' ⟨rfl, rfl⟩
      go_wp2
      go_ret
      refine ⟨?_, rfl⟩
      have hd : decide (Wangs ts) = (decide ((1 : Int) ≤ (ts.length : Int)) && decide ((ts.length : Int) ≤ 6)) := by
        rw [Bool.eq_iff_iff]; simp [wangs_of HT.out]; omega
      rw [hd]
      rfl

theorem between03_yes (x : Int) (w : World) (h : Col x) : Calls Try.prog 24 #[.int .i64 x, .int .i64 0, .int .i64 3] w fun e w' => e = .returned (.bool true) ∧ w = w' :=
  between_yes x 0 3 w h.1 h.2
theorem between03_no (x : Int) (w : World) (h : ¬ Col x) : Calls Try.prog 24 #[.int .i64 x, .int .i64 0, .int .i64 3] w fun e w' => e = .returned (.bool false) ∧ w = w' :=
  between_no x 0 3 w (by unfold Col at h; omega)

set_option maxRecDepth 100000 in
set_option maxHeartbeats 1600000 in
theorem implAre (ad : Option Addr) (c : Nat) (ts : List Tile) (w : World) (hn : ts.length ≤ 1048576) (hc : CellsAt w ad (wangs ts)) :
    Calls Try.prog 23 #[.slice ad ts.length c] w fun e w' => e = .returned (.bool (decide (Wangs ts))) ∧ Below w.heap.size w w' := by
  have HC := Lib.hid hc
  clear hc
  go_enter Try.func23, Try.ntmps23
  go_wp2
  go_loopw [9] (fun i wr => ∃ k : Nat, k ≤ ts.length ∧ i = .int .i64 k ∧ FineTo ts k ∧ Below w.heap.size w wr) (fun i _ => ts.length - (intOf i).toNat)
  case atStart => exact ⟨0, by omega, rfl, FineTo.zero ts, Below.refl _ _⟩
  case round =>
    obtain ⟨k, hk, rfl, ht, hbw⟩ := hrel
    have HT := Lib.hid ht
    clear ht
    by_cases hlt : k < ts.length
    · obtain ⟨g, off, rfl, hg, hcc⟩ := wang_open (HC.out.below hbw) (by omega)
      obtain ⟨x0, x1, x2, x3⟩ := hcc k hlt
      clear hcc
      obtain ⟨x, hx⟩ : ∃ x, x = ts[k] := ⟨_, rfl⟩
      rw [← hx] at x0 x1 x2 x3
      have HX := Lib.hid hx
      clear hx
      have hno : ¬ TileFine x → decide (Wangs ts) = false := fun h => decide_eq_false (not_wangs hlt (by rw [← HX.out]; exact h))
      have HNO := Lib.hid hno
      clear hno
      obtain ⟨xa, xb, xc, xd⟩ := x
      simp only at x0 x1 x2 x3
      have hbw' : Below w.heap.size w ((wr.alloc (.cells #[.int .i64 xa, .int .i64 xb, .int .i64 xc, .int .i64 xd] 43)).alloc (.cells #[.int .i64 xa, .int .i64 xb, .int .i64 xc, .int .i64 xd] 3)) :=
        (hbw.alloc hbw.size _).alloc (by have := hbw.size; simp; omega) _
      have HB := Lib.hid hbw'
      clear hbw'
      by_cases ha : Col xa
      · have A := Lib.hid (fun w => between03_yes xa w ha)
        by_cases hb : Col xb
        · have B := Lib.hid (fun w => between03_yes xb w hb)
          by_cases hcc : Col xc
          · have C := Lib.hid (fun w => between03_yes xc w hcc)
            by_cases hd : Col xd
            · have D := Lib.hid (fun w => between03_yes xd w hd)
              have HF := Lib.hid (show TileFine ⟨xa, xb, xc, xd⟩ from ⟨ha, hb, hcc, hd⟩)
              clear ha hb hcc hd
              go_wp2
              refine wp_loop_rounds 5 ?_
              rw [rounds_succ]
              go_wp2_with fail
              refine (A.out _).mono ?_
              rintro e w' ⟨rfl, rfl⟩
              go_wp2
              rw [rounds_succ]
              go_wp2_with fail
              refine (B.out _).mono ?_
              rintro e w' ⟨rfl, rfl⟩
              go_wp2
              rw [rounds_succ]
              go_wp2_with fail
              refine (C.out _).mono ?_
              rintro e w' ⟨rfl, rfl⟩
              go_wp2
              rw [rounds_succ]
              go_wp2_with fail
              refine (D.out _).mono ?_
              rintro e w' ⟨rfl, rfl⟩
              go_wp2
              rw [rounds_succ]
              go_wp2
              go_roundw
              case rel => exact ⟨k + 1, by omega, by go_num, HT.out.succ hlt (by rw [← HX.out]; exact HF.out), HB.out⟩
              case measure => simp [intOf]; omega
            · have D := Lib.hid (fun w => between03_no xd w hd)
              have HF := Lib.hid (HNO.out (fun h => hd h.2.2.2))
              clear ha hb hcc hd
              go_wp2
              refine wp_loop_rounds 5 ?_
              rw [rounds_succ]
              go_wp2_with fail
              refine (A.out _).mono ?_
              rintro e w' ⟨rfl, rfl⟩
              go_wp2
              rw [rounds_succ]
              go_wp2_with fail
              refine (B.out _).mono ?_
              rintro e w' ⟨rfl, rfl⟩
              go_wp2
              rw [rounds_succ]
              go_wp2_with fail
              refine (C.out _).mono ?_
              rintro e w' ⟨rfl, rfl⟩
              go_wp2
              rw [rounds_succ]
              go_wp2_with fail
              refine (D.out _).mono ?_
              rintro e w' ⟨rfl, rfl⟩
              go_wp2
              go_ret
              rw [HF.out]
              exact ⟨rfl, HB.out⟩
          · have C := Lib.hid (fun w => between03_no xc w hcc)
            have HF := Lib.hid (HNO.out (fun h => hcc h.2.2.1))
            clear ha hb hcc
            go_wp2
            refine wp_loop_rounds 5 ?_
            rw [rounds_succ]
            go_wp2_with fail
            refine (A.out _).mono ?_
            rintro e w' ⟨rfl, rfl⟩
            go_wp2
            rw [rounds_succ]
            go_wp2_with fail
            refine (B.out _).mono ?_
            rintro e w' ⟨rfl, rfl⟩
            go_wp2
            rw [rounds_succ]
            go_wp2_with fail
            refine (C.out _).mono ?_
            rintro e w' ⟨rfl, rfl⟩
            go_wp2
            go_ret
            rw [HF.out]
            exact ⟨rfl, HB.out⟩
        · have B := Lib.hid (fun w => between03_no xb w hb)
          have HF := Lib.hid (HNO.out (fun h => hb h.2.1))
          clear ha hb
          go_wp2
          refine wp_loop_rounds 5 ?_
          rw [rounds_succ]
          go_wp2_with fail
          refine (A.out _).mono ?_
          rintro e w' ⟨rfl, rfl⟩
          go_wp2
          rw [rounds_succ]
          go_wp2_with fail
          refine (B.out _).mono ?_
          rintro e w' ⟨rfl, rfl⟩
          go_wp2
          go_ret
          rw [HF.out]
          exact ⟨rfl, HB.out⟩
      · have A := Lib.hid (fun w => between03_no xa w ha)
        have HF := Lib.hid (HNO.out (fun h => ha h.1))
        clear ha
        go_wp2
        refine wp_loop_rounds 5 ?_
        rw [rounds_succ]
        go_wp2_with fail
        refine (A.out _).mono ?_
        rintro e w' ⟨rfl, rfl⟩
        go_wp2
        go_ret
        rw [HF.out]
        exact ⟨rfl, HB.out⟩
    · obtain rfl : k = ts.length := by omega
      go_wp2_with fail
      refine (between_any _ _ _ _).mono ?_
      rintro e w' ⟨rfl, rfl⟩
      go_wp2
      go_ret
      refine ⟨?_, hbw⟩
      have hd : decide (Wangs ts) = (decide ((1 : Int) ≤ (ts.length : Int)) && decide ((ts.length : Int) ≤ 6)) := by
        rw [Bool.eq_iff_iff]; simp [wangs_of HT.out]; omega
      rw [hd]
      rfl
end Go.Proofs.Ytjklclegkjnegaa
