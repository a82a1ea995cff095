/- CellH: the walks of the laws' helpers on lists of cells: copy, compare, size. -/
import Derived.Test.YtipikojinfpidaaNum
import Derived.Test.YtipikojinfpidaaInts
import Derived.Test.YtipikojinfpidaaCl0
namespace Go.Proofs.Ytipikojinfpidaa
open Go.RowKit

theorem Try.infoCl : (Try.prog.info? 47).map (fun i => (i.zero, i.size, i.bytes)) = some (some (.agg #[.int .i64 0, .int .i64 0]), 2, 16) := by kernel_rfl
theorem Try.elemCl : ElemT Try.prog 26 47 (.agg #[.int .i64 0, .int .i64 0]) 2 16 := ⟨Try.underlying26, info_parts Try.infoCl, rfl, by decide⟩

theorem toCell_any (x y : Int) (w : World) :
    Calls Try.prog 23 #[.agg #[.int .i64 x, .int .i64 y]] w fun e w' => e = .returned (.agg #[.int .i64 x, .int .i64 y]) ∧ Below w.heap.size w w' := by
  go_enter Try.func23, Try.ntmps23
  go_wp2
  refine bodyPost_ret (v := .agg #[.int .i64 x, .int .i64 y]) (by simp [results, Try.results23, go_sem]) rfl ⟨rfl, ?_⟩
  go_grown

theorem cls_set (ts : List Cl) (k : Nat) (h : k < ts.length) :
    ((mixed (.int .i64 0) (cls ts) (k * 2)).set (k * 2) (.int .i64 ts[k].x)).set (k * 2 + 1) (.int .i64 ts[k].y) = mixed (.int .i64 0) (cls ts) ((k + 1) * 2) := by
  obtain ⟨h0, h1⟩ := cls_at ts k h
  have hl := cls_length ts
  have g0 : (cls ts)[k * 2]'(by omega) = .int .i64 ts[k].x := by rw [List.getElem?_eq_getElem (by omega)] at h0; exact Option.some.inj h0
  have g1 : (cls ts)[k * 2 + 1]'(by omega) = .int .i64 ts[k].y := by rw [List.getElem?_eq_getElem (by omega)] at h1; exact Option.some.inj h1
  rw [← g0, mixed_set _ _ _ (by omega), ← g1, mixed_set _ _ _ (by omega)]
  congr 1
  omega

set_option maxRecDepth 100000 in
set_option maxHeartbeats 800000 in
theorem toCellS_any (ad : Option Addr) (cap : Nat) (ts : List Cl) (w : World) (hn : ts.length ≤ 1048576) (hc : CellsAt w ad (cls ts)) :
    Calls Try.prog 7 #[.slice ad ts.length cap] w fun e w' => ∃ ad' cap', e = .returned (.slice ad' ts.length cap') ∧ w'.ownsRow w.heap.size 47 2 (.slice ad' ts.length cap') ts.length (cls ts) ∧ Below w.heap.size w w' := by
  have hlen := cls_length ts
  have HC := Lib.hid hc
  clear hc
  go_enter Try.func7, Try.ntmps7
  go_wp2_with (at_make; refine wpList_make _ rfl _ _ 26 rfl 47 (.agg #[.int .i64 0, .int .i64 0]) 2 16 Try.elemCl (.int .i64 0) ?c0 ts.length rfl rfl ?c1 ?c2 (cls ts) ?c3 ?_)
  case c0 =>
    intro i hi
    have : i < 2 := hi
    match i, this with
    | 0, _ => rfl
    | 1, _ => rfl
  case c1 => omega
  case c2 => unfold maxLen; omega
  case c3 => rw [hlen]
  intro w1 hown _ hb1
  have HO := Lib.hid hown
  clear hown
  go_wp2
  go_loopw [4] (fun i wr => ∃ k : Nat, k ≤ ts.length ∧ i = .int .i64 k ∧ wr.ownsRow w.heap.size 47 2 (.slice (some ⟨w.heap.size, 0, none⟩) ts.length ts.length) ts.length (mixed (.int .i64 0) (cls ts) (k * 2)) ∧ Below w.heap.size w wr) (fun i _ => ts.length - (intOf i).toNat)
  case atStart => exact ⟨0, by omega, rfl, HO.out, hb1⟩
  case round =>
    obtain ⟨k, hk, rfl, hown, hb⟩ := hrel
    have HW := Lib.hid hown
    clear hown
    by_cases hlt : k < ts.length
    · obtain ⟨g, off, rfl, hg, hcc⟩ := cl_open (HC.out.below hb) (by omega)
      obtain ⟨hc0, hc1⟩ := hcc k hlt
      have HSET := Lib.hid (cls_set ts k hlt)
      clear hcc
      generalize ts[k] = x at hc0 hc1 HSET
      obtain ⟨xx, xy⟩ := x
      simp only at hc0 hc1 HSET
      go_wp2_with fail
      refine (toCell_any _ _ _).mono ?_
      rintro e w2 ⟨rfl, hb2⟩
      have hw2 : w2.ownsRow w.heap.size 47 2 (.slice (some ⟨w.heap.size, 0, none⟩) ts.length ts.length) ts.length (mixed (.int .i64 0) (cls ts) (k * 2)) := ownsRow_far_below HW.out hb2 (Nat.le_refl _)
      have hbb : Below w.heap.size w w2 := hb.trans (hb2.mono hb.size)
      have HW2 := Lib.hid hw2
      have hs : ∀ j, j < 2 → ∃ u, w2.cell? ⟨w.heap.size, k * 2 + j, none⟩ = some u := by
        intro j hj
        rw [HW2.out.cellAt (k * 2 + j) (by omega)]
        exact ⟨(mixed (.int .i64 0) (cls ts) (k * 2))[k * 2 + j]'(by rw [mixed_length]; omega), by simp⟩
      obtain ⟨u0, s0⟩ := hs 0 (by omega)
      obtain ⟨u1, s1⟩ := hs 1 (by omega)
      rw [Nat.add_zero] at s0
      have f0 := HW2.out.frozenAt (k * 2)
      have f1 := HW2.out.frozenAt (k * 2 + 1)
      clear hs hw2
      go_wp2
      go_roundw
      case rel =>
        have q0 := HW2.out.stored (k * 2) (.int .i64 xx)
        have q1 := q0.1.stored (k * 2 + 1) (.int .i64 xy)
        refine ⟨k + 1, by omega, by go_num, ?_, ?_⟩
        · have h2 := q1.1
          rw [HSET.out] at h2
          exact h2
        · exact (hbb.setCell (Nat.le_refl _) _).setCell (Nat.le_refl _) _
      case measure => simp [intOf]; omega
    · obtain rfl : k = ts.length := by omega
      go_wp2
      go_ret
      have h2 := HW.out
      rw [← hlen, mixed_all] at h2
      exact ⟨_, _, rfl, h2, hb⟩

theorem szCellS_any (ad : Option Addr) (cap n : Nat) (left : Int) (w : World) (hn : n ≤ 9223372036854775807) (h0 : 0 ≤ left) (h1 : left ≤ 1048576) :
    Calls Try.prog 5 #[.slice ad n cap, .int .i64 left] w fun e w' => e = .returned (.int .i64 (if left < (n : Int) then -1 else left - n)) ∧ w = w' := by
  by_cases h : left < (n : Int)
  · rw [if_pos h]
    go_enter Try.func5, Try.ntmps5
    go_wp2
    go_ret
    exact ⟨rfl, rfl⟩
  · rw [if_neg h]
    go_enter Try.func5, Try.ntmps5
    go_wp2
    go_ret
    exact ⟨rfl, rfl⟩

theorem eqCell_any (x y : Cl) (w : World) :
    Calls Try.prog 28 #[.agg #[.int .i64 x.x, .int .i64 x.y], .agg #[.int .i64 y.x, .int .i64 y.y]] w fun e w' => e = .returned (.bool (decide (x = y))) ∧ Below w.heap.size w w' := by
  obtain ⟨a, b⟩ := x
  obtain ⟨a', b'⟩ := y
  have key : decide ((⟨a, b⟩ : Cl) = ⟨a', b'⟩) = (decide (a = a') && decide (b = b')) := by
    rw [Bool.eq_iff_iff]; simp [Cl.mk.injEq]
  rw [key]
  clear key
  simp only
  by_cases h1 : a = a'
  · subst h1
    have n1 : (a != a) = false := by simp
    by_cases h2 : b = b'
    · subst h2
      have n2 : (b != b) = false := by simp
      go_enter Try.func28, Try.ntmps28
      go_wp2
      go_ret
      exact ⟨by simp, by go_grown⟩
    · have n2 : (b != b') = true := by simp [h2]
      go_enter Try.func28, Try.ntmps28
      go_wp2
      go_ret
      exact ⟨by simp [h2], by go_grown⟩
  · have n1 : (a != a') = true := by simp [h1]
    go_enter Try.func28, Try.ntmps28
    go_wp2
    go_ret
    exact ⟨by simp [h1], by go_grown⟩

theorem clsl_ne {xs ys : List Cl} {k : Nat} (h1 : k < xs.length) (h2 : k < ys.length) (h : ¬ xs[k] = ys[k]) : ¬ xs = ys := by
  rintro rfl; exact h rfl
theorem clsl_take {xs ys : List Cl} {k : Nat} (h1 : k < xs.length) (h2 : k < ys.length) (ht : xs.take k = ys.take k) (h : xs[k] = ys[k]) : xs.take (k + 1) = ys.take (k + 1) := by
  rw [List.take_succ_eq_append_getElem h1, List.take_succ_eq_append_getElem h2, ht, h]

set_option maxRecDepth 100000 in
set_option maxHeartbeats 400000 in
theorem eqCellS_any (a1 a2 : Option Addr) (c1 c2 : Nat) (xs ys : List Cl) (w : World) (hn : xs.length ≤ 1048576) (hc1 : CellsAt w a1 (cls xs)) (hc2 : CellsAt w a2 (cls ys)) :
    Calls Try.prog 10 #[.slice a1 xs.length c1, .slice a2 ys.length c2] w fun e w' => e = .returned (.bool (decide (xs = ys))) ∧ Below w.heap.size w w' := by
  by_cases hl : xs.length = ys.length
  · have H1 := Lib.hid hc1
    have H2 := Lib.hid hc2
    have hle : ys.length ≤ xs.length := by omega
    have hle2 : xs.length ≤ ys.length := by omega
    have hne : ((xs.length : Int) != (ys.length : Int)) = false := by simp; omega
    clear hc1 hc2 hl
    go_enter Try.func10, Try.ntmps10
    go_wp2
    go_loopw [5] (fun i wr => ∃ k : Nat, k ≤ xs.length ∧ i = .int .i64 k ∧ xs.take k = ys.take k ∧ Below w.heap.size w wr) (fun i _ => xs.length - (intOf i).toNat)
    case atStart => exact ⟨0, by omega, rfl, rfl, Below.refl _ _⟩
    case round =>
      obtain ⟨k, hk, rfl, ht, hb⟩ := hrel
      have HT := Lib.hid ht
      clear ht
      by_cases hlt : k < xs.length
      · obtain ⟨g, off, rfl, hg, hcc⟩ := cl_open (H1.out.below hb) (by omega)
        obtain ⟨g', off', rfl, hg', hcc'⟩ := cl_open (H2.out.below hb) (by omega)
        have hlt2 : k < ys.length := by omega
        obtain ⟨x0, x1⟩ := hcc k hlt
        obtain ⟨y0, y1⟩ := hcc' k hlt2
        clear hcc hcc'
        obtain ⟨x, hx⟩ : ∃ x, x = xs[k] := ⟨_, rfl⟩
        obtain ⟨y, hy⟩ : ∃ y, y = ys[k] := ⟨_, rfl⟩
        rw [← hx] at x0 x1
        rw [← hy] at y0 y1
        have HX := Lib.hid hx
        have HY := Lib.hid hy
        clear hx hy
        by_cases he : x = y
        · have HE := Lib.hid (fun w => eqCell_any x y w)
          have hd : decide (x = y) = true := decide_eq_true he
          rw [hd] at HE
          have HQ := Lib.hid he
          clear he hd
          obtain ⟨xa, xb⟩ := x
          obtain ⟨ya, yb⟩ := y
          simp only at x0 x1 y0 y1 HE
          go_wp2
          go_still_tail 8, (by kernel_rfl)
          go_wp2_with fail
          refine (HE.out _).mono ?_
          rintro e w2 ⟨rfl, hb2⟩
          go_wp2
          go_roundw
          case rel => exact ⟨k + 1, by omega, by go_num, clsl_take hlt hlt2 HT.out (by rw [← HX.out, ← HY.out]; exact HQ.out), hb.drew.trans (hb2.mono hb.size)⟩
          case measure => simp [intOf]; omega
        · have HE := Lib.hid (fun w => eqCell_any x y w)
          have hd : decide (x = y) = false := decide_eq_false he
          rw [hd] at HE
          have HQ := Lib.hid he
          clear he hd
          obtain ⟨xa, xb⟩ := x
          obtain ⟨ya, yb⟩ := y
          simp only at x0 x1 y0 y1 HE
          go_wp2
          go_still_tail 8, (by kernel_rfl)
          go_wp2_with fail
          refine (HE.out _).mono ?_
          rintro e w2 ⟨rfl, hb2⟩
          go_wp2
          go_ret
          have hf : decide (xs = ys) = false := decide_eq_false (clsl_ne hlt hlt2 (by rw [← HX.out, ← HY.out]; exact HQ.out))
          rw [hf]
          exact ⟨rfl, hb.drew.trans (hb2.mono hb.size)⟩
      · obtain rfl : k = xs.length := by omega
        go_wp2
        go_ret
        have hf : decide (xs = ys) = true := by
          have h := HT.out
          rw [List.take_length, List.take_of_length_le (by omega)] at h
          exact decide_eq_true h
        rw [hf]
        exact ⟨rfl, hb⟩
  · have hne : ((xs.length : Int) != (ys.length : Int)) = true := by simp; omega
    have hf : decide (xs = ys) = false := decide_eq_false (by rintro rfl; exact hl rfl)
    rw [hf]
    clear hl hf hc1 hc2
    go_enter Try.func10, Try.ntmps10
    go_wp2
    go_ret
    exact ⟨rfl, Below.refl _ _⟩
theorem eqCellS_same (a1 a2 : Option Addr) (c1 c2 : Nat) (xs : List Cl) (w : World) (hn : xs.length ≤ 1048576) (hc1 : CellsAt w a1 (cls xs)) (hc2 : CellsAt w a2 (cls xs)) :
    Calls Try.prog 10 #[.slice a1 xs.length c1, .slice a2 xs.length c2] w fun e w' => e = .returned (.bool true) ∧ Below w.heap.size w w' := by
  refine (eqCellS_any a1 a2 c1 c2 xs xs w hn hc1 hc2).mono ?_
  rintro e w' ⟨rfl, hb⟩
  exact ⟨by simp, hb⟩
end Go.Proofs.Ytipikojinfpidaa
