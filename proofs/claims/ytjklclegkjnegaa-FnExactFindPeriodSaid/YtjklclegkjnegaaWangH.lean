/- WangH: the walks of the laws' helpers on lists of tiles: copy, compare, size. -/
import Derived.Test.YtjklclegkjnegaaAllBase
namespace Go.Proofs.Ytjklclegkjnegaa
open Go.RowKit

structure Tile where
  t : Int
  r : Int
  b : Int
  l : Int
  deriving DecidableEq
def Tile.cells (x : Tile) : List Value := [.int .i64 x.t, .int .i64 x.r, .int .i64 x.b, .int .i64 x.l]
def wangs (ts : List Tile) : List Value := ts.flatMap Tile.cells
theorem wangs_length (ts : List Tile) : (wangs ts).length = ts.length * 4 := by
  unfold wangs
  induction ts with
  | nil => rfl
  | cons i l ih => simp only [List.flatMap_cons, List.length_append, ih, List.length_cons, Tile.cells, List.length_nil]; omega
theorem wangs_append (xs ys : List Tile) : wangs (xs ++ ys) = wangs xs ++ wangs ys := by simp [wangs]
theorem wangs_at (ts : List Tile) (k : Nat) (h : k < ts.length) :
    (wangs ts)[k * 4]? = some (.int .i64 ts[k].t) ∧ (wangs ts)[k * 4 + 1]? = some (.int .i64 ts[k].r) ∧ (wangs ts)[k * 4 + 2]? = some (.int .i64 ts[k].b) ∧ (wangs ts)[k * 4 + 3]? = some (.int .i64 ts[k].l) := by
  induction ts generalizing k with
  | nil => simp at h
  | cons x ts ih =>
    have e : wangs (x :: ts) = [.int .i64 x.t, .int .i64 x.r, .int .i64 x.b, .int .i64 x.l] ++ wangs ts := rfl
    rw [e]
    match k with
    | 0 => simp
    | k + 1 =>
      have := ih k (by simpa using h)
      rw [show (k + 1) * 4 = k * 4 + 4 from by omega, show k * 4 + 4 + 1 = k * 4 + 1 + 4 from by omega, show k * 4 + 4 + 2 = k * 4 + 2 + 4 from by omega, show k * 4 + 4 + 3 = k * 4 + 3 + 4 from by omega]
      simpa using this

/-- The address and the cells of a list of tiles that is not empty. -/
theorem wang_open {w : World} {ad : Option Addr} {ts : List Tile} (h : CellsAt w ad (wangs ts)) (hn : 0 < ts.length) : ∃ g off, ad = some ⟨g, off, none⟩ ∧ g < w.heap.size ∧
    ∀ k (hk : k < ts.length), w.cell? ⟨g, off + k * 4, none⟩ = some (.int .i64 ts[k].t) ∧ w.cell? ⟨g, off + k * 4 + 1, none⟩ = some (.int .i64 ts[k].r) ∧
      w.cell? ⟨g, off + k * 4 + 2, none⟩ = some (.int .i64 ts[k].b) ∧ w.cell? ⟨g, off + k * 4 + 3, none⟩ = some (.int .i64 ts[k].l) := by
  obtain ⟨g, off, rfl, hg, hc⟩ := h.open (by rw [wangs_length]; omega)
  refine ⟨g, off, rfl, hg, fun k hk => ?_⟩
  obtain ⟨i0, i1, i2, i3⟩ := wangs_at ts k hk
  exact ⟨hc _ _ i0, hc _ _ i1, hc _ _ i2, hc _ _ i3⟩

theorem Try.infoWang : (Try.prog.info? 43).map (fun i => (i.zero, i.size, i.bytes)) = some (some (.agg #[.int .i64 0, .int .i64 0, .int .i64 0, .int .i64 0]), 4, 32) := by kernel_rfl
theorem Try.elemWang : ElemT Try.prog 27 43 (.agg #[.int .i64 0, .int .i64 0, .int .i64 0, .int .i64 0]) 4 32 := ⟨Try.underlying27, info_parts Try.infoWang, rfl, by decide⟩

theorem toWang_any (t r b l : Int) (w : World) :
    Calls Try.prog 22 #[.agg #[.int .i64 t, .int .i64 r, .int .i64 b, .int .i64 l]] w fun e w' => e = .returned (.agg #[.int .i64 t, .int .i64 r, .int .i64 b, .int .i64 l]) ∧ Below w.heap.size w w' := by
  go_enter Try.func22, Try.ntmps22
  go_wp2
  refine bodyPost_ret (v := .agg #[.int .i64 t, .int .i64 r, .int .i64 b, .int .i64 l]) (by simp [results, Try.results22, go_sem]) rfl ⟨rfl, ?_⟩
  go_grown

theorem wangs_set (ts : List Tile) (k : Nat) (h : k < ts.length) :
    ((((mixed (.int .i64 0) (wangs ts) (k * 4)).set (k * 4) (.int .i64 ts[k].t)).set (k * 4 + 1) (.int .i64 ts[k].r)).set (k * 4 + 2) (.int .i64 ts[k].b)).set (k * 4 + 3) (.int .i64 ts[k].l) = mixed (.int .i64 0) (wangs ts) ((k + 1) * 4) := by
  obtain ⟨h0, h1, h2, h3⟩ := wangs_at ts k h
  have hl := wangs_length ts
  have g0 : (wangs ts)[k * 4]'(by omega) = .int .i64 ts[k].t := by rw [List.getElem?_eq_getElem (by omega)] at h0; exact Option.some.inj h0
  have g1 : (wangs ts)[k * 4 + 1]'(by omega) = .int .i64 ts[k].r := by rw [List.getElem?_eq_getElem (by omega)] at h1; exact Option.some.inj h1
  have g2 : (wangs ts)[k * 4 + 2]'(by omega) = .int .i64 ts[k].b := by rw [List.getElem?_eq_getElem (by omega)] at h2; exact Option.some.inj h2
  have g3 : (wangs ts)[k * 4 + 3]'(by omega) = .int .i64 ts[k].l := by rw [List.getElem?_eq_getElem (by omega)] at h3; exact Option.some.inj h3
  rw [← g0, mixed_set _ _ _ (by omega), ← g1, mixed_set _ _ _ (by omega), ← g2, mixed_set _ _ _ (by omega), ← g3, mixed_set _ _ _ (by omega)]
  congr 1
  omega

set_option maxRecDepth 100000 in
set_option maxHeartbeats 800000 in
theorem toWangS_any (ad : Option Addr) (cap : Nat) (ts : List Tile) (w : World) (hn : ts.length ≤ 1048576) (hc : CellsAt w ad (wangs ts)) :
    Calls Try.prog 8 #[.slice ad ts.length cap] w fun e w' => ∃ ad' cap', e = .returned (.slice ad' ts.length cap') ∧ w'.ownsRow w.heap.size 43 4 (.slice ad' ts.length cap') ts.length (wangs ts) ∧ Below w.heap.size w w' := by
  have hlen := wangs_length ts
  have HC := Lib.hid hc
  clear hc
  go_enter Try.func8, Try.ntmps8
  go_wp2_with (at_make; refine wpList_make _ rfl _ _ 27 rfl 43 (.agg #[.int .i64 0, .int .i64 0, .int .i64 0, .int .i64 0]) 4 32 Try.elemWang (.int .i64 0) ?c0 ts.length rfl rfl ?c1 ?c2 (wangs ts) ?c3 ?_)
  case c0 =>
    intro i hi
    have : i < 4 := hi
    match i, this with
    | 0, _ => rfl
    | 1, _ => rfl
    | 2, _ => rfl
    | 3, _ => rfl
  case c1 => omega
  case c2 => unfold maxLen; omega
  case c3 => rw [hlen]
  intro w1 hown _ hb1
  have HO := Lib.hid hown
  clear hown
  go_wp2
  go_loopw [4] (fun i wr => ∃ k : Nat, k ≤ ts.length ∧ i = .int .i64 k ∧ wr.ownsRow w.heap.size 43 4 (.slice (some ⟨w.heap.size, 0, none⟩) ts.length ts.length) ts.length (mixed (.int .i64 0) (wangs ts) (k * 4)) ∧ Below w.heap.size w wr) (fun i _ => ts.length - (intOf i).toNat)
  case atStart => exact ⟨0, by omega, rfl, HO.out, hb1⟩
  case round =>
    obtain ⟨k, hk, rfl, hown, hb⟩ := hrel
    have HW := Lib.hid hown
    clear hown
    by_cases hlt : k < ts.length
    · obtain ⟨g, off, rfl, hg, hcc⟩ := wang_open (HC.out.below hb) (by omega)
      obtain ⟨hc0, hc1, hc2, hc3⟩ := hcc k hlt
      have HSET := Lib.hid (wangs_set ts k hlt)
      clear hcc
      generalize ts[k] = x at hc0 hc1 hc2 hc3 HSET
      obtain ⟨xt, xr, xb, xl⟩ := x
      simp only at hc0 hc1 hc2 hc3 HSET
      go_wp2_with fail
      refine (toWang_any _ _ _ _ _).mono ?_
      rintro e w2 ⟨rfl, hb2⟩
      have hw2 : w2.ownsRow w.heap.size 43 4 (.slice (some ⟨w.heap.size, 0, none⟩) ts.length ts.length) ts.length (mixed (.int .i64 0) (wangs ts) (k * 4)) := ownsRow_far_below HW.out hb2 (Nat.le_refl _)
      have hbb : Below w.heap.size w w2 := hb.trans (hb2.mono hb.size)
      have HW2 := Lib.hid hw2
      have hs : ∀ j, j < 4 → ∃ u, w2.cell? ⟨w.heap.size, k * 4 + j, none⟩ = some u := by
        intro j hj
        rw [HW2.out.cellAt (k * 4 + j) (by omega)]
        exact ⟨(mixed (.int .i64 0) (wangs ts) (k * 4))[k * 4 + j]'(by rw [mixed_length]; omega), by simp⟩
      obtain ⟨u0, s0⟩ := hs 0 (by omega)
      obtain ⟨u1, s1⟩ := hs 1 (by omega)
      obtain ⟨u2, s2⟩ := hs 2 (by omega)
      obtain ⟨u3, s3⟩ := hs 3 (by omega)
      rw [Nat.add_zero] at s0
      have f0 := HW2.out.frozenAt (k * 4)
      have f1 := HW2.out.frozenAt (k * 4 + 1)
      have f2 := HW2.out.frozenAt (k * 4 + 2)
      have f3 := HW2.out.frozenAt (k * 4 + 3)
      clear hs hw2
      go_wp2
      go_roundw
      case rel =>
        have q0 := HW2.out.stored (k * 4) (.int .i64 xt)
        have q1 := q0.1.stored (k * 4 + 1) (.int .i64 xr)
        have q2 := q1.1.stored (k * 4 + 2) (.int .i64 xb)
        have q3 := q2.1.stored (k * 4 + 3) (.int .i64 xl)
        refine ⟨k + 1, by omega, by go_num, ?_, ?_⟩
        · have h2 := q3.1
          rw [HSET.out] at h2
          exact h2
        · exact (((hbb.setCell (Nat.le_refl _) _).setCell (Nat.le_refl _) _).setCell (Nat.le_refl _) _).setCell (Nat.le_refl _) _
      case measure => simp [intOf]; omega
    · obtain rfl : k = ts.length := by omega
      go_wp2
      go_ret
      have h2 := HW.out
      rw [← hlen, mixed_all] at h2
      exact ⟨_, _, rfl, h2, hb⟩

theorem szWangS_any (ad : Option Addr) (cap n : Nat) (left : Int) (w : World) (hn : n ≤ 9223372036854775807) (h0 : 0 ≤ left) (h1 : left ≤ 1048576) :
    Calls Try.prog 6 #[.slice ad n cap, .int .i64 left] w fun e w' => e = .returned (.int .i64 (if left < (n : Int) then -1 else left - n)) ∧ w = w' := by
  by_cases h : left < (n : Int)
  · rw [if_pos h]
    go_enter Try.func6, Try.ntmps6
    go_wp2
    go_ret
    exact ⟨rfl, rfl⟩
  · rw [if_neg h]
    go_enter Try.func6, Try.ntmps6
    go_wp2
    go_ret
    exact ⟨rfl, rfl⟩

theorem eqWang_any (x y : Tile) (w : World) :
    Calls Try.prog 28 #[.agg #[.int .i64 x.t, .int .i64 x.r, .int .i64 x.b, .int .i64 x.l], .agg #[.int .i64 y.t, .int .i64 y.r, .int .i64 y.b, .int .i64 y.l]] w fun e w' => e = .returned (.bool (decide (x = y))) ∧ Below w.heap.size w w' := by
  obtain ⟨a, b, c, d⟩ := x
  obtain ⟨a', b', c', d'⟩ := y
  have key : decide ((⟨a, b, c, d⟩ : Tile) = ⟨a', b', c', d'⟩) = (decide (a = a') && decide (b = b') && decide (c = c') && decide (d = d')) := by
    rw [Bool.eq_iff_iff]; simp [Tile.mk.injEq, and_assoc]
  rw [key]
  clear key
  simp only
  by_cases h1 : a = a'
  · subst h1
    have n1 : (a != a) = false := by simp
    by_cases h2 : b = b'
    · subst h2
      have n2 : (b != b) = false := by simp
      by_cases h3 : c = c'
      · subst h3
        have n3 : (c != c) = false := by simp
        by_cases h4 : d = d'
        · subst h4
          have n4 : (d != d) = false := by simp
          go_enter Try.func28, Try.ntmps28
          go_wp2
          go_ret
          exact ⟨by simp, by go_grown⟩
        · have n4 : (d != d') = true := by simp [h4]
          go_enter Try.func28, Try.ntmps28
          go_wp2
          go_ret
          exact ⟨by simp [h4], by go_grown⟩
      · have n3 : (c != c') = true := by simp [h3]
        go_enter Try.func28, Try.ntmps28
        go_wp2
        go_ret
        exact ⟨by simp [h3], by go_grown⟩
    · have n2 : (b != b') = true := by simp [h2]
      go_enter Try.func28, Try.ntmps28
      go_wp2
      go_ret
      exact ⟨by simp [h2], by go_grown⟩
  · have n1 : (a != a') = true := by simp [h1]
    go_enter Try.func28, Try.ntmps28
    go_wp2
    go_ret
    exact ⟨by simp [h1], by go_grown⟩

theorem tiles_ne {xs ys : List Tile} {k : Nat} (h1 : k < xs.length) (h2 : k < ys.length) (h : ¬ xs[k] = ys[k]) : ¬ xs = ys := by
  rintro rfl; exact h rfl
theorem tiles_take {xs ys : List Tile} {k : Nat} (h1 : k < xs.length) (h2 : k < ys.length) (ht : xs.take k = ys.take k) (h : xs[k] = ys[k]) : xs.take (k + 1) = ys.take (k + 1) := by
  rw [List.take_succ_eq_append_getElem h1, List.take_succ_eq_append_getElem h2, ht, h]

set_option maxRecDepth 100000 in
set_option maxHeartbeats 400000 in
theorem eqWangS_any (a1 a2 : Option Addr) (c1 c2 : Nat) (xs ys : List Tile) (w : World) (hn : xs.length ≤ 1048576) (hc1 : CellsAt w a1 (wangs xs)) (hc2 : CellsAt w a2 (wangs ys)) :
    Calls Try.prog 11 #[.slice a1 xs.length c1, .slice a2 ys.length c2] w fun e w' => e = .returned (.bool (decide (xs = ys))) ∧ Below w.heap.size w w' := by
  by_cases hl : xs.length = ys.length
  · have H1 := Lib.hid hc1
    have H2 := Lib.hid hc2
    have HL := Lib.hid hl
    have hle : ys.length ≤ xs.length := by omega
    have hle2 : xs.length ≤ ys.length := by omega
    have hne : ((xs.length : Int) != (ys.length : Int)) = false := by simp; omega
    clear hc1 hc2 hl
    go_enter Try.func11, Try.ntmps11
    go_wp2
    go_loopw [5] (fun i wr => ∃ k : Nat, k ≤ xs.length ∧ i = .int .i64 k ∧ xs.take k = ys.take k ∧ Below w.heap.size w wr) (fun i _ => xs.length - (intOf i).toNat)
    case atStart => exact ⟨0, by omega, rfl, rfl, Below.refl _ _⟩
    case round =>
      obtain ⟨k, hk, rfl, ht, hb⟩ := hrel
      have HT := Lib.hid ht
      clear ht
      by_cases hlt : k < xs.length
      · obtain ⟨g, off, rfl, hg, hcc⟩ := wang_open (H1.out.below hb) (by omega)
        obtain ⟨g', off', rfl, hg', hcc'⟩ := wang_open (H2.out.below hb) (by omega)
        have hlt2 : k < ys.length := by omega
        obtain ⟨x0, x1, x2, x3⟩ := hcc k hlt
        obtain ⟨y0, y1, y2, y3⟩ := hcc' k hlt2
        clear hcc hcc'
        obtain ⟨x, hx⟩ : ∃ x, x = xs[k] := ⟨_, rfl⟩
        obtain ⟨y, hy⟩ : ∃ y, y = ys[k] := ⟨_, rfl⟩
        rw [← hx] at x0 x1 x2 x3
        rw [← hy] at y0 y1 y2 y3
        have HX := Lib.hid hx
        have HY := Lib.hid hy
        clear hx hy
        by_cases he : x = y
        · have HE := Lib.hid (fun w => eqWang_any x y w)
          have hd : decide (x = y) = true := decide_eq_true he
          rw [hd] at HE
          have HQ := Lib.hid he
          clear he hd
          obtain ⟨xa, xb, xc, xd⟩ := x
          obtain ⟨ya, yb, yc, yd⟩ := y
          simp only at x0 x1 x2 x3 y0 y1 y2 y3 HE
          go_wp2
          go_still_tail 8, (by kernel_rfl)
          go_wp2_with fail
          refine (HE.out _).mono ?_
          rintro e w2 ⟨rfl, hb2⟩
          go_wp2
          go_roundw
          case rel => exact ⟨k + 1, by omega, by go_num, tiles_take hlt hlt2 HT.out (by rw [← HX.out, ← HY.out]; exact HQ.out), hb.drew.trans (hb2.mono hb.size)⟩
          case measure => simp [intOf]; omega
        · have HE := Lib.hid (fun w => eqWang_any x y w)
          have hd : decide (x = y) = false := decide_eq_false he
          rw [hd] at HE
          have HQ := Lib.hid he
          clear he hd
          obtain ⟨xa, xb, xc, xd⟩ := x
          obtain ⟨ya, yb, yc, yd⟩ := y
          simp only at x0 x1 x2 x3 y0 y1 y2 y3 HE
          go_wp2
          go_still_tail 8, (by kernel_rfl)
          go_wp2_with fail
          refine (HE.out _).mono ?_
          rintro e w2 ⟨rfl, hb2⟩
          go_wp2
          go_ret
          have hf : decide (xs = ys) = false := decide_eq_false (tiles_ne hlt hlt2 (by rw [← HX.out, ← HY.out]; exact HQ.out))
          rw [hf]
          exact ⟨rfl, hb.drew.trans (hb2.mono hb.size)⟩
      · obtain rfl : k = xs.length := by omega
        go_wp2
        go_ret
        have hf : decide (xs = ys) = true := by
          have h := HT.out
          rw [List.take_length, List.take_of_length_le (by omega)] at h
          exact decide_eq_true h
        rw [hf]
        exact ⟨rfl, hb⟩
  · have hne : ((xs.length : Int) != (ys.length : Int)) = true := by simp; omega
    have hf : decide (xs = ys) = false := decide_eq_false (by rintro rfl; exact hl rfl)
    rw [hf]
    clear hl hf hc1 hc2
    go_enter Try.func11, Try.ntmps11
    go_wp2
    go_ret
    exact ⟨rfl, Below.refl _ _⟩
theorem eqWangS_same (a1 a2 : Option Addr) (c1 c2 : Nat) (xs : List Tile) (w : World) (hn : xs.length ≤ 1048576) (hc1 : CellsAt w a1 (wangs xs)) (hc2 : CellsAt w a2 (wangs xs)) :
    Calls Try.prog 11 #[.slice a1 xs.length c1, .slice a2 xs.length c2] w fun e w' => e = .returned (.bool true) ∧ Below w.heap.size w w' := by
  refine (eqWangS_any a1 a2 c1 c2 xs xs w hn hc1 hc2).mono ?_
  rintro e w' ⟨rfl, hb⟩
  exact ⟨by simp, hb⟩

end Go.Proofs.Ytjklclegkjnegaa
