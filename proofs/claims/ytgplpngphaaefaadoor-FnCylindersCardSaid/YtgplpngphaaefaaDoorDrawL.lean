/- DrawL: the drawing of a list of numbers by the reference (l12List), and what it stands on (l12Fine, l12Value, ExtendBy). What is drawn is left open. -/
import Derived.Test.YtgplpngphaaefaaDoorDraw0
import Derived.Test.YtgplpngphaaefaaDoorAllBase
namespace Go.Proofs.YtgplpngphaaefaaDoor
open Go.RowKit

attribute [local go_sem ↓] Go.wp_at_zero Go.wp_at_succ

set_option maxRecDepth 100000 in
set_option maxHeartbeats 1600000 in
theorem l12Fine_any (ad : Option Addr) (c : Nat) (xs : List Int) (w : World) (hn : xs.length ≤ 40) (hc : CellsAt w ad (ints xs)) :
    Calls Tryd.prog 52 #[.slice ad xs.length c] w fun e w' => ∃ b : Bool, e = .returned (.bool b) ∧ w = w' := by
  have HC := Lib.hid hc
  have hil := ints_length xs
  clear hc
  go_enter Tryd.func52, Tryd.ntmps52
  go_wp2
  go_loopw [3] (fun i wr => ∃ k : Nat, k ≤ xs.length ∧ i = .int .i64 k ∧ wr = w) (fun i _ => xs.length - (intOf i).toNat)
  case atStart => exact ⟨0, by omega, rfl, rfl⟩
  case round =>
    obtain ⟨k, hk, rfl, rfl⟩ := hrel
    by_cases hlt : k < xs.length
    · obtain ⟨g, off, rfl, hg, hcc⟩ := HC.out.open (by omega)
      have hx := hcc k _ (ints_at xs k hlt)
      obtain ⟨x, hxk⟩ : ∃ x, x = xs[k] := ⟨_, rfl⟩
      rw [← hxk] at hx
      clear hcc hxk
      by_cases hin : -1000000000 ≤ x ∧ x ≤ 1000000000
      · have HI := Lib.hid (l1In_yes x (-1000000000) 1000000000 wr hin.1 hin.2)
        clear hin
        go_wp2_with fail
        refine HI.out.mono ?_
        rintro e w' ⟨rfl, rfl⟩
        go_wp2
        go_roundw
        case rel => exact ⟨k + 1, by omega, by go_num, trivial⟩
        case measure => simp [intOf]; omega
      · have HI := Lib.hid (l1In_no x (-1000000000) 1000000000 wr (by omega))
        clear hin
        go_wp2_with fail
        refine HI.out.mono ?_
        rintro e w' ⟨rfl, rfl⟩
        go_wp2
        go_ret
        exact ⟨_, rfl, rfl⟩
    · obtain rfl : k = xs.length := by omega
      go_wp2
      go_ret
      exact ⟨_, rfl, rfl⟩

set_option maxRecDepth 100000 in
set_option maxHeartbeats 1600000 in
theorem l12Value_any (al ac : Option Addr) (cl cc n : Nat) (ls cs : List Int) (w : World) (hn : ls.length ≤ 40) (hnl : ls.length = n) (hcn : cs.length ≤ ls.length) (hl : CellsAt w al (ints ls)) (hc : CellsAt w ac (ints cs)) :
    Calls Tryd.prog 53 #[.slice al n cl, .slice ac cs.length cc, .int .i64 n] w fun e w' => ∃ z : Int, e = .returned (.int .i64 z) ∧ ∃ k, w' = w.drewN k := by
  have HL := Lib.hid hl
  have HC := Lib.hid hc
  have hil := ints_length ls
  have hic := ints_length cs
  have HNL := Lib.hid hnl
  have hn40 : n ≤ 40 := by omega
  have hcn2 : cs.length ≤ n := by omega
  clear hl hc hnl hn
  go_enter Tryd.func53, Tryd.ntmps53
  go_wp2
  go_loopw [7, 8] (fun t i wr => ∃ (k : Nat) (z : Int), k ≤ cs.length ∧ t = .int .i64 z ∧ i = .int .i64 k ∧ ∃ m, wr = w.drewN m) (fun _ i _ => cs.length - (intOf i).toNat)
  case atStart => exact ⟨0, _, by omega, rfl, rfl, 0, rfl⟩
  case round =>
    obtain ⟨k, z, hk, rfl, rfl, m, rfl⟩ := hrel
    by_cases hlt : k < cs.length
    · obtain ⟨g, off, rfl, hg, hcc⟩ := HC.out.open (by omega)
      obtain ⟨g', off', rfl, hg', hcc'⟩ := HL.out.open (by have := HNL.out; omega)
      have hx := hcc k _ (ints_at cs k hlt)
      obtain ⟨j, hj⟩ : ∃ j : Nat, j = n - 1 - k := ⟨_, rfl⟩
      have hj1 : j < ls.length := by have := HNL.out; omega
      have hy := hcc' j _ (ints_at ls j hj1)
      obtain ⟨x, hxk⟩ : ∃ x, x = cs[k] := ⟨_, rfl⟩
      obtain ⟨y, hyk⟩ : ∃ y, y = ls[j] := ⟨_, rfl⟩
      rw [← hxk] at hx
      rw [← hyk] at hy
      obtain ⟨p, hp⟩ : ∃ p : Nat, p = n - 1 := ⟨_, rfl⟩
      have e1 : (n : Int) - 1 = (p : Int) := by omega
      have e2 : (p : Int) - (k : Int) = (j : Int) := by omega
      have e3 : IntKind.i64.wrap (p : Int) = (p : Int) := IntWalk.i64_in _ (by omega)
      have e4 : IntKind.i64.wrap (j : Int) = (j : Int) := IntWalk.i64_in _ (by omega)
      have e5 : (j : Int) < (n : Int) := by omega
      have e6 : j < n := by omega
      clear hcc hcc' hxk hyk hp hj hj1 hil
      go_wp2
      go_big_quiet (fail)
      go_wp2
      go_roundw
      case rel => exact ⟨k + 1, _, by omega, by go_num, by go_num, _, rfl⟩
      case measure => simp [intOf]; omega
    · obtain rfl : k = cs.length := by omega
      go_wp2
      go_ret
      exact ⟨_, rfl, _, rfl⟩

set_option maxRecDepth 100000 in
set_option maxHeartbeats 3200000 in
theorem extend_any (al ac : Option Addr) (cl cc n : Nat) (ls cs : List Int) (w : World) (hn : ls.length ≤ 8) (hcn : cs.length = ls.length) (h0 : 0 < ls.length) (h6 : n ≤ 6) (hnil : al = none → cl = 0)
    (hl : CellsAt w al (ints ls)) (hc : CellsAt w ac (ints cs)) :
    Calls Tryd.prog 47 #[.slice al ls.length cl, .slice ac cs.length cc, .int .i64 n] w fun e w' => ∃ (a : Option Addr) (c : Nat) (b : Bool) (xs : List Int), e = .returned (.tuple #[.slice a xs.length c, .bool b]) ∧ xs.length ≤ 14 ∧
      w'.ownsRow w.heap.size 3 1 (.slice a xs.length c) xs.length (ints xs) ∧ Below w.heap.size w w' := by
  have HL := Lib.hid hl
  have HC := Lib.hid hc
  have HF1 := Lib.hid (l12Fine_any al cl ls w (by omega) hl)
  have HF2 := Lib.hid (l12Fine_any ac cc cs w (by omega) hc)
  have HIN := Lib.hid (l1In_yes (n : Int) 0 20 w (by omega) (by omega))
  have hz : ((cs.length : Int) == 0) = false := beq_false_of_ne (by omega)
  have h1 : decide (8 < (cs.length : Int)) = false := decide_eq_false (by omega)
  have h1n : decide (8 < cs.length) = false := decide_eq_false (by omega)
  have h2 : decide ((ls.length : Int) < (cs.length : Int)) = false := decide_eq_false (by omega)
  have h2n : decide (ls.length < cs.length) = false := decide_eq_false (by omega)
  have h3 : decide (40 < (ls.length : Int) + (n : Int)) = false := decide_eq_false (by omega)
  have HCN := Lib.hid hcn
  have HNIL := Lib.hid hnil
  have HIL := Lib.hid (ints_length ls)
  have hcl : cs.length ≤ 8 := by omega
  clear hl hc hcn hnil
  have HE := Lib.hid (ownsRow_empty w 3 1)
  have HB0 := Lib.hid (show Below w.heap.size w (w.alloc (.cells #[] 3)) from (Below.refl _ _).alloc (Nat.le_refl _) _)
  go_enter Tryd.func47, Tryd.ntmps47
  go_wp2_with fail
  refine HF1.out.mono ?_
  rintro e w' ⟨b1, rfl, rfl⟩
  cases b1
  · go_wp2_with fail
    go_ret2
    exact ⟨_, _, _, [], rfl, by simp, HE.out, HB0.out⟩
  go_wp2_with fail
  refine HF2.out.mono ?_
  rintro e w' ⟨b2, rfl, rfl⟩
  cases b2
  · go_wp2_with fail
    go_ret2
    exact ⟨_, _, _, [], rfl, by simp, HE.out, HB0.out⟩
  go_wp2_with fail
  refine HIN.out.mono ?_
  rintro e w' ⟨rfl, rfl⟩
  clear hz h1 h1n h2 h2n h3
  go_wp2_with (at_builtin; refine wpList_appN rfl (.tmp 49) (.tmp 50) 29 rfl w.heap.size 3 _ 1 8 Tryd.elemInt _ 0 [] rfl HE.out _ ls.length _ (ints ls) rfl HNIL.out (by rw [HIL.out]; omega) (HL.out.below HB0.out) (by simp [ints, Value.oneCell']) (by unfold maxLen; omega) (by omega) (by simp) ?_; intro ad' cap' w1 q1 q2 q3)
  have HB1 := Lib.hid (HB0.out.trans (q2.mono (by simp)))
  have HO1 := Lib.hid (show w1.ownsRow w.heap.size 3 1 (.slice ad' (0 + ls.length) cap') (0 + ls.length) (ints ls) from q1)
  clear q1 q2 q3
  go_wp2
  go_loopw [8, 9] (fun v i wr => ∃ (k : Nat) (xs : List Int), k ≤ n ∧ xs.length = ls.length + k ∧ i = .int .i64 k ∧ wr.ownsRow w.heap.size 3 1 v xs.length (ints xs) ∧ Below w.heap.size w wr) (fun _ i _ => n - (intOf i).toNat)
  case atStart => exact ⟨0, ls, by omega, rfl, rfl, by have h := HO1.out; rw [Nat.zero_add] at h; exact h, HB1.out⟩
  case round =>
    obtain ⟨k, xs, hk, hxs, rfl, hown, hb⟩ := hrel
    obtain ⟨ad, c, rfl, hcx⟩ := ownsRow_cells hown
    have HO := Lib.hid hown
    have HB := Lib.hid hb
    have hsz := hb.size
    have hx14 : xs.length ≤ 14 := by omega
    have HXS := Lib.hid hxs
    by_cases hlt : k < n
    · have HV := Lib.hid (l12Value_any ad ac c cc xs.length xs cs wr (by omega) rfl (by have := HCN.out; omega) hcx (HC.out.below hb))
      clear hown hb hcx hxs
      have hd : decide ((k : Int) < (n : Int)) = true := decide_eq_true (by omega)
      go_wp2_with fail
      refine HV.out.mono ?_
      rintro e w2 ⟨z, rfl, m, hw2⟩
      have HO2 := Lib.hid (show w2.ownsRow w.heap.size 3 1 (.slice ad xs.length c) xs.length (ints xs) by rw [hw2]; exact ownsRow_drewN HO.out m)
      have HB2 := Lib.hid (show Below w.heap.size w w2 by rw [hw2]; exact below_drewN HB.out m)
      have hsz2 := HB2.out.size
      clear hw2
      by_cases hin : -1000000000 ≤ z ∧ z ≤ 1000000000
      · have HI := Lib.hid (l1In_yes z (-1000000000) 1000000000 w2 hin.1 hin.2)
        clear hin
        go_wp2_with fail
        refine HI.out.mono ?_
        rintro e w' ⟨rfl, rfl⟩
        go_wp2_with (at_builtin; refine wpList_app1 rfl (.tmp 66) (.tmp 68) 29 rfl w.heap.size 3 _ 1 8 Tryd.elemInt _ xs.length _ _ _ _ rfl rfl rfl HO2.out (by rfl) (by simp [Value.oneCell']) (by unfold maxLen; omega) (by omega) (by omega) ?_; intro g' cap w3 q1 q2 q3 q4 q5 q6)
        go_roundw
        case rel =>
          refine ⟨k + 1, xs ++ [z], by omega, by rw [List.length_append, List.length_singleton, HXS.out]; omega, by go_num, ?_, HB2.out.trans q2⟩
          rw [ints_append, List.length_append, List.length_singleton]
          exact q1
        case measure => simp [intOf]; omega
      · have HI := Lib.hid (l1In_no z (-1000000000) 1000000000 w2 (by omega))
        clear hin
        go_wp2_with fail
        refine HI.out.mono ?_
        rintro e w' ⟨rfl, rfl⟩
        have HE2 := Lib.hid (ownsRow_rebase (ownsRow_empty w2 3 1) hsz2)
        go_wp2
        go_ret2
        exact ⟨_, _, _, [], rfl, by simp, HE2.out, HB2.out.alloc hsz2 _⟩
    · obtain rfl : k = n := by omega
      clear hown hb hcx hxs
      go_wp2
      go_ret2
      exact ⟨_, _, _, xs, rfl, hx14, HO.out, HB.out⟩
end Go.Proofs.YtgplpngphaaefaaDoor
