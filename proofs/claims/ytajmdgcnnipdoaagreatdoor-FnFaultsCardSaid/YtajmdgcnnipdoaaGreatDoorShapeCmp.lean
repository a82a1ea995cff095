/- ShapeCmp: the walks of EqualShapes and of CompareShapes, the reference's and the program's. -/
import Derived.Test.YtajmdgcnnipdoaaGreatDoorSpecSort
import Derived.Test.YtajmdgcnnipdoaaGreatDoorAllReg
namespace Go.Proofs.YtajmdgcnnipdoaaGreatDoor
open Go.RowKit

theorem ltLex_at : ∀ (k : Nat) (xs ys : List Cl) (h1 : k < xs.length) (h2 : k < ys.length), xs.take k = ys.take k → xs[k] ≠ ys[k] → ltLex xs ys = ltC xs[k] ys[k]
  | _, [], _, h1, _ => fun _ _ => by simp at h1
  | _, _ :: _, [], _, h2 => fun _ _ => by simp at h2
  | 0, a :: l, b :: m, _, _ => fun _ hne => by
    show (ltC a b || (decide (a = b) && ltLex l m)) = ltC a b
    rw [decide_eq_false (show ¬ a = b from hne)]
    simp
  | k + 1, a :: l, b :: m, h1, h2 => fun ht hne => by
    rw [List.take_succ_cons, List.take_succ_cons] at ht
    injection ht with ha hr
    subst ha
    show (ltC a a || (decide (a = a) && ltLex l m)) = _
    rw [wholeC.irr a, decide_eq_true rfl]
    simp only [Bool.false_or, Bool.true_and]
    exact ltLex_at k l m (by simpa using h1) (by simpa using h2) hr hne
theorem cmpS_lt {a b : List Cl} (h : ltS a b = true) : cmpS a b = -1 := by unfold cmpS; rw [if_pos h]
theorem cmpS_gt {a b : List Cl} (h : ltS b a = true) : cmpS a b = 1 := by
  unfold cmpS
  rw [if_neg (by rw [wholeS.asym h]; simp), if_pos h]
theorem cmpS_self (a : List Cl) : cmpS a a = 0 := by
  unfold cmpS
  rw [if_neg (by rw [wholeS.irr a]; simp), if_neg (by rw [wholeS.irr a]; simp)]
theorem ltS_len {a b : List Cl} (h : a.length < b.length) : ltS a b = true := ltS_iff.2 (.inl h)
theorem ltS_at {k : Nat} {xs ys : List Cl} (hl : xs.length = ys.length) (h1 : k < xs.length) (h2 : k < ys.length) (ht : xs.take k = ys.take k) (hne : xs[k] ≠ ys[k]) (h : ltC xs[k] ys[k] = true) : ltS xs ys = true :=
  ltS_iff.2 (.inr ⟨hl, by rw [ltLex_at k xs ys h1 h2 ht hne]; exact h⟩)
theorem cmpS_neg {a b : List Cl} : cmpS a b < 0 ↔ ltS a b = true := by
  unfold cmpS
  split
  · rename_i h; simp [h]
  · rename_i h
    simp only [h]
    split <;> simp

set_option maxRecDepth 100000 in
set_option maxHeartbeats 1600000 in
theorem specEqS (a1 a2 : Option Addr) (c1 c2 : Nat) (xs ys : List Cl) (w : World) (hn : xs.length ≤ 1000) (hc1 : CellsAt w a1 (cls xs)) (hc2 : CellsAt w a2 (cls ys)) :
    Calls Tryz.prog 163 #[.slice a1 xs.length c1, .slice a2 ys.length c2] w fun e w' => e = .returned (.bool (decide (xs = ys))) ∧ Below w.heap.size w w' := by
  by_cases hl : xs.length = ys.length
  · skip
    have H1 := Lib.hid hc1
    have H2 := Lib.hid hc2
    have hle : ys.length ≤ xs.length := by omega
    have hle2 : xs.length ≤ ys.length := by omega
    have hne : ((xs.length : Int) != (ys.length : Int)) = false := by simp; omega
    have HL := Lib.hid hl
    clear hc1 hc2 hl
    go_enter Tryz.func163, Tryz.ntmps163
    go_wp2
    go_loopw [5] (fun i wr => ∃ k : Nat, k ≤ xs.length ∧ i = .int .i64 k ∧ xs.take k = ys.take k ∧ Below w.heap.size w wr) (fun i _ => xs.length - (intOf i).toNat)
    case atStart => exact ⟨0, by omega, rfl, rfl, Below.refl _ _⟩
    case round =>
      obtain ⟨k, hk, rfl, ht, hb⟩ := hrel
      have HT := Lib.hid ht
      have HB := Lib.hid hb
      have hszr := hb.size
      clear ht
      by_cases hlt : k < xs.length
      · obtain ⟨g, off, rfl, hg, hcc⟩ := cl_open (H1.out.below hb) (by omega)
        obtain ⟨g', off', rfl, hg', hcc'⟩ := cl_open (H2.out.below hb) (by omega)
        have hlt2 : k < ys.length := by omega
        obtain ⟨x0, x1⟩ := hcc k hlt
        obtain ⟨y0, y1⟩ := hcc' k hlt2
        have i1 : (k : Int) < (xs.length : Int) := by omega
        have i2 : (k : Int) < (ys.length : Int) := by omega
        clear hcc hcc' hb
        obtain ⟨x, hx⟩ : ∃ x, x = xs[k] := ⟨_, rfl⟩
        obtain ⟨y, hy⟩ : ∃ y, y = ys[k] := ⟨_, rfl⟩
        rw [← hx] at x0 x1
        rw [← hy] at y0 y1
        have HX := Lib.hid hx
        have HY := Lib.hid hy
        clear hx hy
        by_cases he : x = y
        · have hseq := cellEq2 x y
          rw [decide_eq_true he] at hseq
          have HQ := Lib.hid he
          clear he
          obtain ⟨xa, xb⟩ := x
          obtain ⟨ya, yb⟩ := y
          simp only at x0 x1 y0 y1 hseq
          go_wp2
          go_big_quiet (fail)
          go_wp2
          go_roundw
          case rel => exact ⟨k + 1, by omega, by go_num, clsl_take hlt hlt2 HT.out (by rw [← HX.out, ← HY.out]; exact HQ.out), below_drewN HB.out _⟩
          case measure => simp [intOf]; omega
        · have hseq := cellEq2 x y
          rw [decide_eq_false he] at hseq
          have HQ := Lib.hid he
          clear he
          obtain ⟨xa, xb⟩ := x
          obtain ⟨ya, yb⟩ := y
          simp only at x0 x1 y0 y1 hseq
          go_wp2
          go_big_quiet (fail)
          go_wp2
          go_ret
          have hf : decide (xs = ys) = false := decide_eq_false (clsl_ne hlt hlt2 (by rw [← HX.out, ← HY.out]; exact HQ.out))
          rw [hf]
          exact ⟨rfl, below_drewN HB.out _⟩
      · obtain rfl : k = xs.length := by omega
        go_wp2
        go_ret
        have hf : decide (xs = ys) = true := by
          have h := HT.out
          rw [List.take_length, List.take_of_length_le (by omega)] at h
          exact decide_eq_true h
        rw [hf]
        exact ⟨rfl, HB.out⟩
  · have hne : ((xs.length : Int) != (ys.length : Int)) = true := by simp; omega
    have hf : decide (xs = ys) = false := decide_eq_false (by rintro rfl; exact hl rfl)
    rw [hf]
    clear hl hf hc1 hc2
    go_enter Tryz.func163, Tryz.ntmps163
    go_wp2
    go_ret
    exact ⟨rfl, Below.refl _ _⟩

set_option maxRecDepth 100000 in
set_option maxHeartbeats 1600000 in
theorem implEqS (a1 a2 : Option Addr) (c1 c2 : Nat) (xs ys : List Cl) (w : World) (hn : xs.length ≤ 1000) (hc1 : CellsAt w a1 (cls xs)) (hc2 : CellsAt w a2 (cls ys)) :
    Calls Tryz.prog 159 #[.slice a1 xs.length c1, .slice a2 ys.length c2] w fun e w' => e = .returned (.bool (decide (xs = ys))) ∧ Below w.heap.size w w' := by
  by_cases hl : xs.length = ys.length
  · skip
    have H1 := Lib.hid hc1
    have H2 := Lib.hid hc2
    have hle : ys.length ≤ xs.length := by omega
    have hle2 : xs.length ≤ ys.length := by omega
    have hne : ((xs.length : Int) != (ys.length : Int)) = false := by simp; omega
    have HL := Lib.hid hl
    clear hc1 hc2 hl
    go_enter Tryz.func159, Tryz.ntmps159
    go_wp2
    go_loopw [13] (fun i wr => ∃ k : Nat, k ≤ xs.length ∧ i = .int .i64 k ∧ xs.take k = ys.take k ∧ Below w.heap.size w wr) (fun i _ => xs.length - (intOf i).toNat)
    case atStart => exact ⟨0, by omega, rfl, rfl, Below.refl _ _⟩
    case round =>
      obtain ⟨k, hk, rfl, ht, hb⟩ := hrel
      have HT := Lib.hid ht
      have HB := Lib.hid hb
      have hszr := hb.size
      clear ht
      by_cases hlt : k < xs.length
      · obtain ⟨g, off, rfl, hg, hcc⟩ := cl_open (H1.out.below hb) (by omega)
        obtain ⟨g', off', rfl, hg', hcc'⟩ := cl_open (H2.out.below hb) (by omega)
        have hlt2 : k < ys.length := by omega
        obtain ⟨x0, x1⟩ := hcc k hlt
        obtain ⟨y0, y1⟩ := hcc' k hlt2
        have i1 : (k : Int) < (xs.length : Int) := by omega
        have i2 : (k : Int) < (ys.length : Int) := by omega
        clear hcc hcc' hb
        obtain ⟨x, hx⟩ : ∃ x, x = xs[k] := ⟨_, rfl⟩
        obtain ⟨y, hy⟩ : ∃ y, y = ys[k] := ⟨_, rfl⟩
        rw [← hx] at x0 x1
        rw [← hy] at y0 y1
        have HX := Lib.hid hx
        have HY := Lib.hid hy
        clear hx hy
        by_cases he : x = y
        · have hseq := cellEq2 x y
          rw [decide_eq_true he] at hseq
          have HQ := Lib.hid he
          clear he
          obtain ⟨xa, xb⟩ := x
          obtain ⟨ya, yb⟩ := y
          simp only at x0 x1 y0 y1 hseq
          go_wp2
          go_big_quiet (fail)
          go_wp2
          go_roundw
          case rel => exact ⟨k + 1, by omega, by go_num, clsl_take hlt hlt2 HT.out (by rw [← HX.out, ← HY.out]; exact HQ.out), below_drewN HB.out _⟩
          case measure => simp [intOf]; omega
        · have hseq := cellEq2 x y
          rw [decide_eq_false he] at hseq
          have HQ := Lib.hid he
          clear he
          obtain ⟨xa, xb⟩ := x
          obtain ⟨ya, yb⟩ := y
          simp only at x0 x1 y0 y1 hseq
          go_wp2
          go_big_quiet (fail)
          go_wp2
          go_ret
          have hf : decide (xs = ys) = false := decide_eq_false (clsl_ne hlt hlt2 (by rw [← HX.out, ← HY.out]; exact HQ.out))
          rw [hf]
          exact ⟨rfl, below_drewN HB.out _⟩
      · obtain rfl : k = xs.length := by omega
        go_wp2
        go_ret
        have hf : decide (xs = ys) = true := by
          have h := HT.out
          rw [List.take_length, List.take_of_length_le (by omega)] at h
          exact decide_eq_true h
        rw [hf]
        exact ⟨rfl, HB.out⟩
  · have hne : ((xs.length : Int) != (ys.length : Int)) = true := by simp; omega
    have hf : decide (xs = ys) = false := decide_eq_false (by rintro rfl; exact hl rfl)
    rw [hf]
    clear hl hf hc1 hc2
    go_enter Tryz.func159, Tryz.ntmps159
    go_wp2
    go_ret
    exact ⟨rfl, Below.refl _ _⟩

set_option maxRecDepth 100000 in
set_option maxHeartbeats 3200000 in
theorem specCmp (a1 a2 : Option Addr) (c1 c2 : Nat) (xs ys : List Cl) (w : World) (hn : xs.length ≤ 1000) (hc1 : CellsAt w a1 (cls xs)) (hc2 : CellsAt w a2 (cls ys)) :
    Calls Tryz.prog 162 #[.slice a1 xs.length c1, .slice a2 ys.length c2] w fun e w' => e = .returned (.int .i64 (cmpS xs ys)) ∧ Below w.heap.size w w' := by
  by_cases hl : xs.length = ys.length
  · have e1 : ¬ (xs.length : Int) < (ys.length : Int) := by omega
    have e2 : ¬ (ys.length : Int) < (xs.length : Int) := by omega
    have H1 := Lib.hid hc1
    have H2 := Lib.hid hc2
    have hle : ys.length ≤ xs.length := by omega
    have hle2 : xs.length ≤ ys.length := by omega
    have hne : ((xs.length : Int) != (ys.length : Int)) = false := by simp; omega
    have HL := Lib.hid hl
    clear hc1 hc2 hl
    go_enter Tryz.func162, Tryz.ntmps162
    go_wp2
    go_loopw [5] (fun i wr => ∃ k : Nat, k ≤ xs.length ∧ i = .int .i64 k ∧ xs.take k = ys.take k ∧ Below w.heap.size w wr) (fun i _ => xs.length - (intOf i).toNat)
    case atStart => exact ⟨0, by omega, rfl, rfl, Below.refl _ _⟩
    case round =>
      obtain ⟨k, hk, rfl, ht, hb⟩ := hrel
      have HT := Lib.hid ht
      have HB := Lib.hid hb
      have hszr := hb.size
      clear ht
      by_cases hlt : k < xs.length
      · obtain ⟨g, off, rfl, hg, hcc⟩ := cl_open (H1.out.below hb) (by omega)
        obtain ⟨g', off', rfl, hg', hcc'⟩ := cl_open (H2.out.below hb) (by omega)
        have hlt2 : k < ys.length := by omega
        obtain ⟨x0, x1⟩ := hcc k hlt
        obtain ⟨y0, y1⟩ := hcc' k hlt2
        have i1 : (k : Int) < (xs.length : Int) := by omega
        have i2 : (k : Int) < (ys.length : Int) := by omega
        clear hcc hcc' hb
        obtain ⟨x, hx⟩ : ∃ x, x = xs[k] := ⟨_, rfl⟩
        obtain ⟨y, hy⟩ : ∃ y, y = ys[k] := ⟨_, rfl⟩
        rw [← hx] at x0 x1
        rw [← hy] at y0 y1
        have HX := Lib.hid hx
        have HY := Lib.hid hy
        clear hx hy
        by_cases he : x = y
        · have hseq := cellEq2 x y
          rw [decide_eq_true he] at hseq
          have HQ := Lib.hid he
          clear he
          obtain ⟨xa, xb⟩ := x
          obtain ⟨ya, yb⟩ := y
          simp only at x0 x1 y0 y1 hseq
          go_wp2
          go_big_quiet (fail)
          go_wp2
          go_roundw
          case rel => exact ⟨k + 1, by omega, by go_num, clsl_take hlt hlt2 HT.out (by rw [← HX.out, ← HY.out]; exact HQ.out), below_drewN HB.out _⟩
          case measure => simp [intOf]; omega
        · have hseq := cellEq2 x y
          rw [decide_eq_false he] at hseq
          have HQ := Lib.hid he
          have hof := wholeC.of_not (a := x) (b := y)
          clear he
          cases hb1 : ltC x y with
          | true =>
            have HV := Lib.hid (show cmpS xs ys = -1 from cmpS_lt (ltS_at HL.out hlt hlt2 HT.out (by rw [← HX.out, ← HY.out]; exact HQ.out) (by rw [← HX.out, ← HY.out]; exact hb1)))
            obtain ⟨xa, xb⟩ := x
            obtain ⟨ya, yb⟩ := y
            simp only at x0 x1 y0 y1 hseq
            clear hof
            go_wp2
            go_big_quiet (fail)
            go_wp2
            generalize hwx : wr.drewN _ = wx
            have DB : Below wr.heap.size wr wx := by rw [← hwx]; exact below_drewN (Below.refl _ _) _
            have x0 := (DB.cell (p := ⟨g, off + k * 2, none⟩) (by simp; omega)).trans x0
            have x1 := (DB.cell (p := ⟨g, off + k * 2 + 1, none⟩) (by simp; omega)).trans x1
            have y0 := (DB.cell (p := ⟨g', off' + k * 2, none⟩) (by simp; omega)).trans y0
            have y1 := (DB.cell (p := ⟨g', off' + k * 2 + 1, none⟩) (by simp; omega)).trans y1
            have hszx := DB.size
            have DBH := Lib.hid DB
            clear hwx DB
            go_still_tail 8, (by kernel_rfl)
            go_wp2_with fail
            refine (specBefore xa xb ya yb wx.drew).mono ?_
            rintro e w2 ⟨rfl, hb2⟩
            rw [hb1]
            go_wp2
            go_ret
            rw [HV.out]
            exact ⟨rfl, HB.out.trans ((DBH.out.trans (((Below.refl _ _).drew.trans (hb2.mono (Nat.le_refl _))).mono hszx)).mono hszr)⟩
          | false =>
            have hb2 : ltC y x = true := by
              rcases hof hb1 with h | h
              · exact absurd h HQ.out
              · exact h
            have HV := Lib.hid (show cmpS xs ys = 1 from cmpS_gt (ltS_at HL.out.symm hlt2 hlt HT.out.symm (by rw [← HX.out, ← HY.out]; exact fun h => HQ.out h.symm) (by rw [← HX.out, ← HY.out]; exact hb2)))
            obtain ⟨xa, xb⟩ := x
            obtain ⟨ya, yb⟩ := y
            simp only at x0 x1 y0 y1 hseq
            clear hof hb2
            go_wp2
            go_big_quiet (fail)
            go_wp2
            generalize hwx : wr.drewN _ = wx
            have DB : Below wr.heap.size wr wx := by rw [← hwx]; exact below_drewN (Below.refl _ _) _
            have x0 := (DB.cell (p := ⟨g, off + k * 2, none⟩) (by simp; omega)).trans x0
            have x1 := (DB.cell (p := ⟨g, off + k * 2 + 1, none⟩) (by simp; omega)).trans x1
            have y0 := (DB.cell (p := ⟨g', off' + k * 2, none⟩) (by simp; omega)).trans y0
            have y1 := (DB.cell (p := ⟨g', off' + k * 2 + 1, none⟩) (by simp; omega)).trans y1
            have hszx := DB.size
            have DBH := Lib.hid DB
            clear hwx DB
            go_still_tail 8, (by kernel_rfl)
            go_wp2_with fail
            refine (specBefore xa xb ya yb wx.drew).mono ?_
            rintro e w2 ⟨rfl, hb2⟩
            rw [hb1]
            go_wp2
            go_ret
            rw [HV.out]
            exact ⟨rfl, HB.out.trans ((DBH.out.trans (((Below.refl _ _).drew.trans (hb2.mono (Nat.le_refl _))).mono hszx)).mono hszr)⟩
      · obtain rfl : k = xs.length := by omega
        have hxy : xs = ys := by
          have h := HT.out
          rw [List.take_length, List.take_of_length_le (by omega)] at h
          exact h
        have HV := Lib.hid (show cmpS xs ys = 0 by rw [← hxy]; exact cmpS_self xs)
        clear hxy
        go_wp2
        go_ret
        rw [HV.out]
        exact ⟨rfl, HB.out⟩
  · have hne : ((xs.length : Int) != (ys.length : Int)) = true := by simp; omega
    by_cases hlt : xs.length < ys.length
    · have hv : cmpS xs ys = -1 := cmpS_lt (ltS_len hlt)
      have HV := Lib.hid hv
      have d1 : (xs.length : Int) < (ys.length : Int) := by omega
      clear hl hc1 hc2 hv
      go_enter Tryz.func162, Tryz.ntmps162
      go_wp2
      go_ret
      rw [HV.out]
      exact ⟨rfl, Below.refl _ _⟩
    · have hv : cmpS xs ys = 1 := cmpS_gt (ltS_len (by omega))
      have HV := Lib.hid hv
      have d1 : ¬ (xs.length : Int) < (ys.length : Int) := by omega
      have d2 : (ys.length : Int) < (xs.length : Int) := by omega
      clear hl hc1 hc2 hv
      go_enter Tryz.func162, Tryz.ntmps162
      go_wp2
      go_ret
      rw [HV.out]
      exact ⟨rfl, Below.refl _ _⟩

set_option maxRecDepth 100000 in
set_option maxHeartbeats 3200000 in
theorem implCmp (a1 a2 : Option Addr) (c1 c2 : Nat) (xs ys : List Cl) (w : World) (hn : xs.length ≤ 1000) (hc1 : CellsAt w a1 (cls xs)) (hc2 : CellsAt w a2 (cls ys)) :
    Calls Tryz.prog 158 #[.slice a1 xs.length c1, .slice a2 ys.length c2] w fun e w' => e = .returned (.int .i64 (cmpS xs ys)) ∧ Below w.heap.size w w' := by
  by_cases hl : xs.length = ys.length
  · have e1 : ¬ (xs.length : Int) < (ys.length : Int) := by omega
    have e2 : ¬ (ys.length : Int) < (xs.length : Int) := by omega
    have H1 := Lib.hid hc1
    have H2 := Lib.hid hc2
    have hle : ys.length ≤ xs.length := by omega
    have hle2 : xs.length ≤ ys.length := by omega
    have hne : ((xs.length : Int) != (ys.length : Int)) = false := by simp; omega
    have HL := Lib.hid hl
    clear hc1 hc2 hl
    go_enter Tryz.func158, Tryz.ntmps158
    go_wp2
    go_loopw [20] (fun i wr => ∃ k : Nat, k ≤ xs.length ∧ i = .int .i64 k ∧ xs.take k = ys.take k ∧ Below w.heap.size w wr) (fun i _ => xs.length - (intOf i).toNat)
    case atStart => exact ⟨0, by omega, rfl, rfl, Below.refl _ _⟩
    case round =>
      obtain ⟨k, hk, rfl, ht, hb⟩ := hrel
      have HT := Lib.hid ht
      have HB := Lib.hid hb
      have hszr := hb.size
      clear ht
      by_cases hlt : k < xs.length
      · obtain ⟨g, off, rfl, hg, hcc⟩ := cl_open (H1.out.below hb) (by omega)
        obtain ⟨g', off', rfl, hg', hcc'⟩ := cl_open (H2.out.below hb) (by omega)
        have hlt2 : k < ys.length := by omega
        obtain ⟨x0, x1⟩ := hcc k hlt
        obtain ⟨y0, y1⟩ := hcc' k hlt2
        have i1 : (k : Int) < (xs.length : Int) := by omega
        have i2 : (k : Int) < (ys.length : Int) := by omega
        clear hcc hcc' hb
        obtain ⟨x, hx⟩ : ∃ x, x = xs[k] := ⟨_, rfl⟩
        obtain ⟨y, hy⟩ : ∃ y, y = ys[k] := ⟨_, rfl⟩
        rw [← hx] at x0 x1
        rw [← hy] at y0 y1
        have HX := Lib.hid hx
        have HY := Lib.hid hy
        clear hx hy
        have hof := wholeC.of_not (a := x) (b := y)
        cases hb1 : ltC x y with
        | true =>
          have HQ := Lib.hid (wholeC.ne hb1)
          have HV := Lib.hid (show cmpS xs ys = -1 from cmpS_lt (ltS_at HL.out hlt hlt2 HT.out (by rw [← HX.out, ← HY.out]; exact HQ.out) (by rw [← HX.out, ← HY.out]; exact hb1)))
          obtain ⟨xa, xb⟩ := x
          obtain ⟨ya, yb⟩ := y
          simp only at x0 x1 y0 y1
          clear hof
          go_wp2
          go_still_tail 8, (by kernel_rfl)
          go_wp2_with fail
          refine (implBefore xa xb ya yb wr.drew).mono ?_
          rintro e w2 ⟨rfl, hbb⟩
          rw [hb1]
          go_wp2
          go_ret
          rw [HV.out]
          exact ⟨rfl, HB.out.trans (((Below.refl _ _).drew.trans (hbb.mono (Nat.le_refl _))).mono hszr)⟩
        | false =>
          cases hb2 : ltC y x with
          | true =>
            have HQ := Lib.hid (fun h : x = y => wholeC.ne hb2 h.symm)
            have HV := Lib.hid (show cmpS xs ys = 1 from cmpS_gt (ltS_at HL.out.symm hlt2 hlt HT.out.symm (by rw [← HX.out, ← HY.out]; exact fun h => HQ.out h.symm) (by rw [← HX.out, ← HY.out]; exact hb2)))
            obtain ⟨xa, xb⟩ := x
            obtain ⟨ya, yb⟩ := y
            simp only at x0 x1 y0 y1
            clear hof
            go_wp2
            go_still_tail 8, (by kernel_rfl)
            go_wp2_with fail
            refine (implBefore xa xb ya yb wr.drew).mono ?_
            rintro e w2 ⟨rfl, hbb⟩
            rw [hb1]
            have DB : Below wr.heap.size wr w2 := (Below.refl _ _).drew.trans (hbb.mono (Nat.le_refl _))
            have x0 := (DB.cell (p := ⟨g, off + k * 2, none⟩) (by simp; omega)).trans x0
            have x1 := (DB.cell (p := ⟨g, off + k * 2 + 1, none⟩) (by simp; omega)).trans x1
            have y0 := (DB.cell (p := ⟨g', off' + k * 2, none⟩) (by simp; omega)).trans y0
            have y1 := (DB.cell (p := ⟨g', off' + k * 2 + 1, none⟩) (by simp; omega)).trans y1
            have hszx := DB.size
            have DBH := Lib.hid DB
            clear hbb DB
            go_wp2
            go_still_tail 8, (by kernel_rfl)
            go_wp2_with fail
            refine (implBefore ya yb xa xb w2.drew).mono ?_
            rintro e w3 ⟨rfl, hb3⟩
            rw [hb2]
            go_wp2
            go_ret
            rw [HV.out]
            exact ⟨rfl, HB.out.trans ((DBH.out.trans (((Below.refl _ _).drew.trans (hb3.mono (Nat.le_refl _))).mono hszx)).mono hszr)⟩
          | false =>
            have HQ := Lib.hid (show x = y by
              rcases hof hb1 with h | h
              · exact h
              · rw [hb2] at h; cases h)
            obtain ⟨xa, xb⟩ := x
            obtain ⟨ya, yb⟩ := y
            simp only at x0 x1 y0 y1
            clear hof
            go_wp2
            go_still_tail 8, (by kernel_rfl)
            go_wp2_with fail
            refine (implBefore xa xb ya yb wr.drew).mono ?_
            rintro e w2 ⟨rfl, hbb⟩
            rw [hb1]
            have DB : Below wr.heap.size wr w2 := (Below.refl _ _).drew.trans (hbb.mono (Nat.le_refl _))
            have x0 := (DB.cell (p := ⟨g, off + k * 2, none⟩) (by simp; omega)).trans x0
            have x1 := (DB.cell (p := ⟨g, off + k * 2 + 1, none⟩) (by simp; omega)).trans x1
            have y0 := (DB.cell (p := ⟨g', off' + k * 2, none⟩) (by simp; omega)).trans y0
            have y1 := (DB.cell (p := ⟨g', off' + k * 2 + 1, none⟩) (by simp; omega)).trans y1
            have hszx := DB.size
            have DBH := Lib.hid DB
            clear hbb DB
            go_wp2
            go_still_tail 8, (by kernel_rfl)
            go_wp2_with fail
            refine (implBefore ya yb xa xb w2.drew).mono ?_
            rintro e w3 ⟨rfl, hb3⟩
            rw [hb2]
            go_wp2
            go_roundw
            case rel => exact ⟨k + 1, by omega, by go_num, clsl_take hlt hlt2 HT.out (by rw [← HX.out, ← HY.out]; exact HQ.out), HB.out.trans ((DBH.out.trans (((Below.refl _ _).drew.trans (hb3.mono (Nat.le_refl _))).mono hszx)).mono hszr)⟩
            case measure => simp [intOf]; omega
      · obtain rfl : k = xs.length := by omega
        have hxy : xs = ys := by
          have h := HT.out
          rw [List.take_length, List.take_of_length_le (by omega)] at h
          exact h
        have HV := Lib.hid (show cmpS xs ys = 0 by rw [← hxy]; exact cmpS_self xs)
        clear hxy
        go_wp2
        go_ret
        rw [HV.out]
        exact ⟨rfl, HB.out⟩
  · have hne : ((xs.length : Int) != (ys.length : Int)) = true := by simp; omega
    by_cases hlt : xs.length < ys.length
    · have hv : cmpS xs ys = -1 := cmpS_lt (ltS_len hlt)
      have HV := Lib.hid hv
      have d1 : (xs.length : Int) < (ys.length : Int) := by omega
      clear hl hc1 hc2 hv
      go_enter Tryz.func158, Tryz.ntmps158
      go_wp2
      go_ret
      rw [HV.out]
      exact ⟨rfl, Below.refl _ _⟩
    · have hv : cmpS xs ys = 1 := cmpS_gt (ltS_len (by omega))
      have HV := Lib.hid hv
      have d1 : ¬ (xs.length : Int) < (ys.length : Int) := by omega
      have d2 : (ys.length : Int) < (xs.length : Int) := by omega
      clear hl hc1 hc2 hv
      go_enter Tryz.func158, Tryz.ntmps158
      go_wp2
      go_ret
      rw [HV.out]
      exact ⟨rfl, Below.refl _ _⟩
end Go.Proofs.YtajmdgcnnipdoaaGreatDoor
