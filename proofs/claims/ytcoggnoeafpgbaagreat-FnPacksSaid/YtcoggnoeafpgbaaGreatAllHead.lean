/- AllHead: parts laid together: CellE, CellH, FrameCell, Shape0, RegP, RegH, FrameReg. -/
import Derived.Test.YtcoggnoeafpgbaaGreatAllBase
import Derived.Test.YtcoggnoeafpgbaaGreatAllFrame
import Derived.Lib.SmallJoins

/- CellE: cells as the elements of a slice. -/
namespace Go.Proofs.YtcoggnoeafpgbaaGreat
open Go.RowKit

theorem Tryz.infoCl : (Tryz.prog.info? 81).map (fun i => (i.zero, i.size, i.bytes)) = some (some (.agg #[.int .i64 0, .int .i64 0]), 2, 16) := by kernel_rfl
theorem Tryz.elemCl : ElemT Tryz.prog 61 81 (.agg #[.int .i64 0, .int .i64 0]) 2 16 := ⟨Tryz.underlying61, info_parts Tryz.infoCl, rfl, by decide⟩
theorem clsl_ne {xs ys : List Cl} {k : Nat} (h1 : k < xs.length) (h2 : k < ys.length) (h : ¬ xs[k] = ys[k]) : ¬ xs = ys := by
  rintro rfl; exact h rfl
theorem clsl_take {xs ys : List Cl} {k : Nat} (h1 : k < xs.length) (h2 : k < ys.length) (ht : xs.take k = ys.take k) (h : xs[k] = ys[k]) : xs.take (k + 1) = ys.take (k + 1) := by
  rw [List.take_succ_eq_append_getElem h1, List.take_succ_eq_append_getElem h2, ht, h]
end Go.Proofs.YtcoggnoeafpgbaaGreat

/- CellH: the walks of the laws' helpers on lists of cells: copy, compare, size. -/
namespace Go.Proofs.YtcoggnoeafpgbaaGreat
open Go.RowKit


theorem toCell_any (x y : Int) (w : World) :
    Calls Tryz.prog 63 #[.agg #[.int .i64 x, .int .i64 y]] w fun e w' => e = .returned (.agg #[.int .i64 x, .int .i64 y]) ∧ Below w.heap.size w w' := by
  go_enter Tryz.func63, Tryz.ntmps63
  go_wp2
  refine bodyPost_ret (v := .agg #[.int .i64 x, .int .i64 y]) (by simp [results, Tryz.results63, go_sem]) rfl ⟨rfl, ?_⟩
  go_grown

theorem cls_set (ts : List Cl) (k : Nat) (h : k < ts.length) :
    ((mixed (.int .i64 0) (cls ts) (k * 2)).set (k * 2) (.int .i64 ts[k].x)).set (k * 2 + 1) (.int .i64 ts[k].y) = mixed (.int .i64 0) (cls ts) ((k + 1) * 2) := by
  obtain ⟨h0, h1⟩ := cls_at ts k h
  have hl := cls_length ts
  have g0 : (cls ts)[k * 2]'(by omega) = .int .i64 ts[k].x := by rw [List.getElem?_eq_getElem (by omega)] at h0; exact Option.some.inj h0
  have g1 : (cls ts)[k * 2 + 1]'(by omega) = .int .i64 ts[k].y := by rw [List.getElem?_eq_getElem (by omega)] at h1; exact Option.some.inj h1
  rw [← g0, mixed_set _ _ _ (by omega), ← g1, mixed_set _ _ _ (by omega)]
  congr 1
  omega

set_option maxRecDepth 100000 in
set_option maxHeartbeats 800000 in
theorem toCellS_any (ad : Option Addr) (cap : Nat) (ts : List Cl) (w : World) (hn : ts.length ≤ 1048576) (hc : CellsAt w ad (cls ts)) :
    Calls Tryz.prog 39 #[.slice ad ts.length cap] w fun e w' => ∃ ad' cap', e = .returned (.slice ad' ts.length cap') ∧ w'.ownsRow w.heap.size 81 2 (.slice ad' ts.length cap') ts.length (cls ts) ∧ Below w.heap.size w w' := by
  have hlen := cls_length ts
  have HC := Lib.hid hc
  clear hc
  go_enter Tryz.func39, Tryz.ntmps39
  go_wp2_with (at_make; refine wpList_make _ rfl _ _ 61 rfl 81 (.agg #[.int .i64 0, .int .i64 0]) 2 16 Tryz.elemCl (.int .i64 0) ?c0 ts.length rfl rfl ?c1 ?c2 (cls ts) ?c3 ?_)
  case c0 =>
    intro i hi
    have : i < 2 := hi
    match i, this with
    | 0, _ => rfl
    | 1, _ => rfl
  case c1 => omega
  case c2 => unfold maxLen; omega
  case c3 => rw [hlen]
  intro w1 hown _ hb1
  have HO := Lib.hid hown
  clear hown
  go_wp2
  go_loopw [4] (fun i wr => ∃ k : Nat, k ≤ ts.length ∧ i = .int .i64 k ∧ wr.ownsRow w.heap.size 81 2 (.slice (some ⟨w.heap.size, 0, none⟩) ts.length ts.length) ts.length (mixed (.int .i64 0) (cls ts) (k * 2)) ∧ Below w.heap.size w wr) (fun i _ => ts.length - (intOf i).toNat)
  case atStart => exact ⟨0, by omega, rfl, HO.out, hb1⟩
  case round =>
    obtain ⟨k, hk, rfl, hown, hb⟩ := hrel
    have HW := Lib.hid hown
    clear hown
    by_cases hlt : k < ts.length
    · obtain ⟨g, off, rfl, hg, hcc⟩ := cl_open (HC.out.below hb) (by omega)
      obtain ⟨hc0, hc1⟩ := hcc k hlt
      have HSET := Lib.hid (cls_set ts k hlt)
      clear hcc
      generalize ts[k] = x at hc0 hc1 HSET
      obtain ⟨xx, xy⟩ := x
      simp only at hc0 hc1 HSET
      go_wp2_with fail
      refine (toCell_any _ _ _).mono ?_
      rintro e w2 ⟨rfl, hb2⟩
      have hw2 : w2.ownsRow w.heap.size 81 2 (.slice (some ⟨w.heap.size, 0, none⟩) ts.length ts.length) ts.length (mixed (.int .i64 0) (cls ts) (k * 2)) := ownsRow_far_below HW.out hb2 (Nat.le_refl _)
      have hbb : Below w.heap.size w w2 := hb.trans (hb2.mono hb.size)
      have HW2 := Lib.hid hw2
      have hs : ∀ j, j < 2 → ∃ u, w2.cell? ⟨w.heap.size, k * 2 + j, none⟩ = some u := by
        intro j hj
        rw [HW2.out.cellAt (k * 2 + j) (by omega)]
        exact ⟨(mixed (.int .i64 0) (cls ts) (k * 2))[k * 2 + j]'(by rw [mixed_length]; omega), by simp⟩
      obtain ⟨u0, s0⟩ := hs 0 (by omega)
      obtain ⟨u1, s1⟩ := hs 1 (by omega)
      rw [Nat.add_zero] at s0
      have f0 := HW2.out.frozenAt (k * 2)
      have f1 := HW2.out.frozenAt (k * 2 + 1)
      clear hs hw2
      go_wp2
      go_roundw
      case rel =>
        have q0 := HW2.out.stored (k * 2) (.int .i64 xx)
        have q1 := q0.1.stored (k * 2 + 1) (.int .i64 xy)
        refine ⟨k + 1, by omega, by go_num, ?_, ?_⟩
        · have h2 := q1.1
          rw [HSET.out] at h2
          exact h2
        · exact (hbb.setCell (Nat.le_refl _) _).setCell (Nat.le_refl _) _
      case measure => simp [intOf]; omega
    · obtain rfl : k = ts.length := by omega
      go_wp2
      go_ret
      have h2 := HW.out
      rw [← hlen, mixed_all] at h2
      exact ⟨_, _, rfl, h2, hb⟩

theorem szCellS_any (ad : Option Addr) (cap n : Nat) (left : Int) (w : World) (hn : n ≤ 9223372036854775807) (h0 : 0 ≤ left) (h1 : left ≤ 1048576) :
    Calls Tryz.prog 37 #[.slice ad n cap, .int .i64 left] w fun e w' => e = .returned (.int .i64 (if left < (n : Int) then -1 else left - n)) ∧ w = w' := by
  by_cases h : left < (n : Int)
  · rw [if_pos h]
    go_enter Tryz.func37, Tryz.ntmps37
    go_wp2
    go_ret
    exact ⟨rfl, rfl⟩
  · rw [if_neg h]
    go_enter Tryz.func37, Tryz.ntmps37
    go_wp2
    go_ret
    exact ⟨rfl, rfl⟩

theorem eqCell_any (x y : Cl) (w : World) :
    Calls Tryz.prog 64 #[.agg #[.int .i64 x.x, .int .i64 x.y], .agg #[.int .i64 y.x, .int .i64 y.y]] w fun e w' => e = .returned (.bool (decide (x = y))) ∧ Below w.heap.size w w' := by
  obtain ⟨a, b⟩ := x
  obtain ⟨a', b'⟩ := y
  have key : decide ((⟨a, b⟩ : Cl) = ⟨a', b'⟩) = (decide (a = a') && decide (b = b')) := by
    rw [Bool.eq_iff_iff]; simp [Cl.mk.injEq]
  rw [key]
  clear key
  simp only
  by_cases h1 : a = a'
  · subst h1
    have n1 : (a != a) = false := by simp
    by_cases h2 : b = b'
    · subst h2
      have n2 : (b != b) = false := by simp
      go_enter Tryz.func64, Tryz.ntmps64
      go_wp2
      go_ret
      exact ⟨by simp, by go_grown⟩
    · have n2 : (b != b') = true := by simp [h2]
      go_enter Tryz.func64, Tryz.ntmps64
      go_wp2
      go_ret
      exact ⟨by simp [h2], by go_grown⟩
  · have n1 : (a != a') = true := by simp [h1]
    go_enter Tryz.func64, Tryz.ntmps64
    go_wp2
    go_ret
    exact ⟨by simp [h1], by go_grown⟩

set_option maxRecDepth 100000 in
set_option maxHeartbeats 400000 in
theorem eqCellS_any (a1 a2 : Option Addr) (c1 c2 : Nat) (xs ys : List Cl) (w : World) (hn : xs.length ≤ 1048576) (hc1 : CellsAt w a1 (cls xs)) (hc2 : CellsAt w a2 (cls ys)) :
    Calls Tryz.prog 40 #[.slice a1 xs.length c1, .slice a2 ys.length c2] w fun e w' => e = .returned (.bool (decide (xs = ys))) ∧ Below w.heap.size w w' := by
  by_cases hl : xs.length = ys.length
  · have H1 := Lib.hid hc1
    have H2 := Lib.hid hc2
    have hle : ys.length ≤ xs.length := by omega
    have hle2 : xs.length ≤ ys.length := by omega
    have hne : ((xs.length : Int) != (ys.length : Int)) = false := by simp; omega
    clear hc1 hc2 hl
    go_enter Tryz.func40, Tryz.ntmps40
    go_wp2
    go_loopw [5] (fun i wr => ∃ k : Nat, k ≤ xs.length ∧ i = .int .i64 k ∧ xs.take k = ys.take k ∧ Below w.heap.size w wr) (fun i _ => xs.length - (intOf i).toNat)
    case atStart => exact ⟨0, by omega, rfl, rfl, Below.refl _ _⟩
    case round =>
      obtain ⟨k, hk, rfl, ht, hb⟩ := hrel
      have HT := Lib.hid ht
      clear ht
      by_cases hlt : k < xs.length
      · obtain ⟨g, off, rfl, hg, hcc⟩ := cl_open (H1.out.below hb) (by omega)
        obtain ⟨g', off', rfl, hg', hcc'⟩ := cl_open (H2.out.below hb) (by omega)
        have hlt2 : k < ys.length := by omega
        obtain ⟨x0, x1⟩ := hcc k hlt
        obtain ⟨y0, y1⟩ := hcc' k hlt2
        clear hcc hcc'
        obtain ⟨x, hx⟩ : ∃ x, x = xs[k] := ⟨_, rfl⟩
        obtain ⟨y, hy⟩ : ∃ y, y = ys[k] := ⟨_, rfl⟩
        rw [← hx] at x0 x1
        rw [← hy] at y0 y1
        have HX := Lib.hid hx
        have HY := Lib.hid hy
        clear hx hy
        by_cases he : x = y
        · have HE := Lib.hid (fun w => eqCell_any x y w)
          have hd : decide (x = y) = true := decide_eq_true he
          rw [hd] at HE
          have HQ := Lib.hid he
          clear he hd
          obtain ⟨xa, xb⟩ := x
          obtain ⟨ya, yb⟩ := y
          simp only at x0 x1 y0 y1 HE
          go_wp2
          go_still_tail 8, (by kernel_rfl)
          go_wp2_with fail
          refine (HE.out _).mono ?_
          rintro e w2 ⟨rfl, hb2⟩
          go_wp2
          go_roundw
          case rel => exact ⟨k + 1, by omega, by go_num, clsl_take hlt hlt2 HT.out (by rw [← HX.out, ← HY.out]; exact HQ.out), hb.drew.trans (hb2.mono hb.size)⟩
          case measure => simp [intOf]; omega
        · have HE := Lib.hid (fun w => eqCell_any x y w)
          have hd : decide (x = y) = false := decide_eq_false he
          rw [hd] at HE
          have HQ := Lib.hid he
          clear he hd
          obtain ⟨xa, xb⟩ := x
          obtain ⟨ya, yb⟩ := y
          simp only at x0 x1 y0 y1 HE
          go_wp2
          go_still_tail 8, (by kernel_rfl)
          go_wp2_with fail
          refine (HE.out _).mono ?_
          rintro e w2 ⟨rfl, hb2⟩
          go_wp2
          go_ret
          have hf : decide (xs = ys) = false := decide_eq_false (clsl_ne hlt hlt2 (by rw [← HX.out, ← HY.out]; exact HQ.out))
          rw [hf]
          exact ⟨rfl, hb.drew.trans (hb2.mono hb.size)⟩
      · obtain rfl : k = xs.length := by omega
        go_wp2
        go_ret
        have hf : decide (xs = ys) = true := by
          have h := HT.out
          rw [List.take_length, List.take_of_length_le (by omega)] at h
          exact decide_eq_true h
        rw [hf]
        exact ⟨rfl, hb⟩
  · have hne : ((xs.length : Int) != (ys.length : Int)) = true := by simp; omega
    have hf : decide (xs = ys) = false := decide_eq_false (by rintro rfl; exact hl rfl)
    rw [hf]
    clear hl hf hc1 hc2
    go_enter Tryz.func40, Tryz.ntmps40
    go_wp2
    go_ret
    exact ⟨rfl, Below.refl _ _⟩
theorem eqCellS_same (a1 a2 : Option Addr) (c1 c2 : Nat) (xs : List Cl) (w : World) (hn : xs.length ≤ 1048576) (hc1 : CellsAt w a1 (cls xs)) (hc2 : CellsAt w a2 (cls xs)) :
    Calls Tryz.prog 40 #[.slice a1 xs.length c1, .slice a2 xs.length c2] w fun e w' => e = .returned (.bool true) ∧ Below w.heap.size w w' := by
  refine (eqCellS_any a1 a2 c1 c2 xs xs w hn hc1 hc2).mono ?_
  rintro e w' ⟨rfl, hb⟩
  exact ⟨by simp, hb⟩
end Go.Proofs.YtcoggnoeafpgbaaGreat

/- FrameCell: an argument that is a list of cells, opened. -/
namespace Go.Proofs.YtcoggnoeafpgbaaGreat
open Go.ChangeShapes Go.WideShapes Go.ChangeAt Go.RowKit

set_option maxRecDepth 100000 in
theorem trod_cl {H : Type} {enc : TypeId × Value → H} {W : World} {held : Bool} {n : Nat} {ys : List Value} {y : DataW H × List MemPlace} (hl : ys.length = 2)
    (h : DataW.trod enc Tryz.prog W 0 (fun _ => true) held n 86 ys = some y) : ∃ x : Cl, ys = x.cells ∧ (Lit.int .i64 x.x).wf = true ∧ (Lit.int .i64 x.y).wf = true := by
  obtain ⟨xs, m, _, _, _, hlen, hf⟩ := DataW.trod_struct Tryz.underlying86 h
  match ys, hl with
  | [c0, c1], _ =>
    have hlen2 : xs.length = 2 := hlen
    match xs, hlen2 with
    | [y0, y1], _ =>
      have g0 : DataW.trod enc Tryz.prog W 0 (fun _ => true) held m 3 [c0] = some y0 := by simpa [Tryz.cellsInt] using hf 0 _ rfl
      have g1 : DataW.trod enc Tryz.prog W 0 (fun _ => true) held m 3 [c1] = some y1 := by simpa [Tryz.cellsInt] using hf 1 _ rfl
      obtain ⟨a, e0, _, wa⟩ := DataW.trod_int Tryz.underlying3 g0
      obtain ⟨b, e1, _, wb⟩ := DataW.trod_int Tryz.underlying3 g1
      simp at e0 e1
      subst e0 e1
      exact ⟨⟨a, b⟩, rfl, wa, wb⟩

theorem Tryz.cellsLCell : Tryz.prog.cellsOf 86 = 2 := by kernel_rfl

set_option maxRecDepth 100000 in
theorem openCells {H : Type} {enc : TypeId × Value → H} {W : World} {base : Nat} {v : Value} {d : DataW H} {p : List MemPlace}
    (hv : Value.okWide Tryz.prog W .any base 59 v) (h : DataW.Trod enc Tryz.prog W 0 (fun _ => true) true 59 v d p) :
    ∃ ad cap ts, v = .slice ad ts.length cap ∧ ts.length ≤ maxLen ∧ CellsAt W ad (cls ts) ∧ ∀ x ∈ ts, (Lit.int .i64 x.x).wf = true ∧ (Lit.int .i64 x.y).wf = true := by
  obtain ⟨a0, len, cap, rfl⟩ := okWide_slice Tryz.underlying59 hv
  obtain ⟨fuel, hf⟩ := h
  obtain ⟨hm, hcells⟩ := slice_elems Tryz.underlying59 Tryz.cellsLCell (by decide) hf
  by_cases h0 : len = 0
  · subst h0
    exact ⟨a0, cap, [], rfl, hm, .inl rfl, by simp⟩
  · obtain ⟨b, off, rfl, hc⟩ := hcells (by omega)
    have hex : ∀ i, ∃ x : Cl, i < len → (∀ j u, x.cells[j]? = some u → W.cell? ⟨b, off + (i * 2 + j), none⟩ = some u) ∧ (Lit.int .i64 x.x).wf = true ∧ (Lit.int .i64 x.y).wf = true := by
      intro i
      by_cases hi : i < len
      · obtain ⟨ys, n, y, h1, h2, h3⟩ := hc i hi
        obtain ⟨x, rfl, hw⟩ := trod_cl h1 h2
        exact ⟨x, fun _ => ⟨h3, hw⟩⟩
      · exact ⟨⟨0, 0⟩, fun h => absurd h hi⟩
    obtain ⟨T, hT⟩ := Classical.axiomOfChoice hex
    have hlen : ((List.range len).map T).length = len := by simp
    refine ⟨some ⟨b, off, none⟩, cap, (List.range len).map T, by rw [hlen], by rw [hlen]; exact hm, ?_, ?_⟩
    · refine .inr ⟨b, off, rfl, fun j u hu => ?_⟩
      have hj : j < len * 2 := by
        rcases Nat.lt_or_ge j (len * 2) with q | q
        · exact q
        · rw [List.getElem?_eq_none (by rw [cls_length, hlen]; exact q)] at hu; cases hu
      have hk : j / 2 < ((List.range len).map T).length := by rw [hlen]; omega
      obtain ⟨i0, i1⟩ := cls_at ((List.range len).map T) (j / 2) hk
      have hTk : ((List.range len).map T)[j / 2] = T (j / 2) := by simp
      rw [hTk] at i0 i1
      have hcell := (hT (j / 2) (by omega)).1
      have hr : j % 2 = 0 ∨ j % 2 = 1 := by omega
      rcases hr with r | r
      · rw [show j = j / 2 * 2 from by omega, i0] at hu
        have := hcell 0 u (by rw [← hu]; rfl)
        rw [show off + j = off + (j / 2 * 2 + 0) from by omega]
        exact this
      · rw [show j = j / 2 * 2 + 1 from by omega, i1] at hu
        have := hcell 1 u (by rw [← hu]; rfl)
        rw [show off + j = off + (j / 2 * 2 + 1) from by omega]
        exact this
    · intro x hx
      rw [List.mem_map] at hx
      obtain ⟨i, hi, rfl⟩ := hx
      exact (hT i (by simpa using hi)).2
end Go.Proofs.YtcoggnoeafpgbaaGreat

/- Shape0: when a list of cells is a shape; its corner and its extent; plain. -/
namespace Go.Proofs.YtcoggnoeafpgbaaGreat
open Go.RowKit

def OnB (c : Cl) : Prop := (0 ≤ c.x ∧ c.x ≤ 7) ∧ 0 ≤ c.y ∧ c.y ≤ 7
instance (c : Cl) : Decidable (OnB c) := by unfold OnB; infer_instance
/-- A list of 1 to 8 cells on the board, in order. -/
def Shape (l : List Cl) : Prop := (AscG ltC l ∧ ∀ c ∈ l, OnB c) ∧ 1 ≤ l.length ∧ l.length ≤ 8
instance (l : List Cl) : Decidable (Shape l) := by unfold Shape AscG; infer_instance
/-- The first k cells have been found to be right. -/
def okTo (l : List Cl) (k : Nat) : Prop := ∀ i, i < k → ∀ h : i < l.length, OnB l[i] ∧ (0 < i → ltC (l.getD (i - 1) default) l[i] = true)
theorem okTo_zero (l : List Cl) : okTo l 0 := fun i h => by omega
theorem okTo_succ {l : List Cl} {k : Nat} (h : okTo l k) (hk : k < l.length) (h1 : OnB l[k]) (h2 : 0 < k → ltC (l.getD (k - 1) default) l[k] = true) : okTo l (k + 1) := by
  intro i hi hl
  by_cases e : i = k
  · subst e; exact ⟨h1, h2⟩
  · exact h i (by omega) hl
theorem asc_of_chain {l : List Cl} (h : ∀ i (hi : i < l.length), 0 < i → ltC (l.getD (i - 1) default) l[i] = true) : AscG ltC l := by
  unfold AscG
  rw [List.pairwise_iff_getElem]
  intro i j hi hj hij
  have key : ∀ d, ∀ hd : i + (d + 1) < l.length, ltC l[i] l[i + (d + 1)] = true := by
    intro d
    induction d with
    | zero =>
      intro hd
      have := h (i + 1) (by omega) (by omega)
      rw [Nat.add_sub_cancel, getDG (by omega)] at this
      exact this
    | succ d ih =>
      intro hd
      have h1 := ih (by omega)
      have h2 := h (i + (d + 1 + 1)) hd (by omega)
      rw [show i + (d + 1 + 1) - 1 = i + (d + 1) by omega, getDG (by omega)] at h2
      exact wholeC.tr _ _ _ h1 h2
  have := key (j - i - 1) (by omega)
  simpa [show i + (j - i - 1 + 1) = j by omega] using this
theorem shape_iff {l : List Cl} (h : okTo l l.length) : Shape l ↔ 1 ≤ l.length ∧ l.length ≤ 8 := by
  constructor
  · exact fun q => q.2
  · refine fun q => ⟨⟨asc_of_chain fun i hi h0 => (h i hi hi).2 h0, fun c hc => ?_⟩, q⟩
    obtain ⟨i, hi, rfl⟩ := List.mem_iff_getElem.1 hc
    exact (h i hi hi).1
theorem shape_ok {l : List Cl} (h : Shape l) : okTo l l.length := by
  intro i hi hl
  refine ⟨h.1.2 _ (List.getElem_mem hl), fun h0 => ?_⟩
  rw [getDG (by omega)]
  exact List.pairwise_iff_getElem.1 h.1.1 (i - 1) i (by omega) hl (by omega)
theorem not_shape {l : List Cl} {k : Nat} (hk : k < l.length) (h : ¬ (OnB l[k] ∧ (0 < k → ltC (l.getD (k - 1) default) l[k] = true))) : ¬ Shape l := fun q => h (shape_ok q k hk hk)

/-- The least of a coordinate over the first k cells; the greatest, and one more. -/
def minTo (f : Cl → Int) (l : List Cl) : Nat → Int
  | 0 => 0
  | k + 1 => if k = 0 then f (l.getD 0 default) else min (minTo f l k) (f (l.getD k default))
def maxTo (f : Cl → Int) (l : List Cl) : Nat → Int
  | 0 => 0
  | k + 1 => max (maxTo f l k) (f (l.getD k default) + 1)
theorem minTo_bd {f : Cl → Int} {l : List Cl} {a b : Int} (h : ∀ c ∈ l, a ≤ f c ∧ f c ≤ b) : ∀ k, 0 < k → k ≤ l.length → a ≤ minTo f l k ∧ minTo f l k ≤ b := by
  intro k
  induction k with
  | zero => intro h; omega
  | succ k ih =>
    intro _ hk
    have h1 := h (l.getD k default) (by rw [getDG (by omega)]; exact List.getElem_mem _)
    unfold minTo
    split
    · rename_i e
      subst e
      exact h1
    · have := ih (by omega) (by omega)
      omega
theorem minTo_le {f : Cl → Int} {l : List Cl} : ∀ k, k ≤ l.length → ∀ i, i < k → ∀ hi : i < l.length, minTo f l k ≤ f l[i] := by
  intro k
  induction k with
  | zero => intro _ i h; omega
  | succ k ih =>
    intro hk i hi hl
    unfold minTo
    split
    · rename_i e
      obtain rfl : i = 0 := by omega
      rw [getDG (by omega)]
      exact Int.le_refl _
    · by_cases e : i = k
      · subst e
        rw [getDG (by omega)]
        omega
      · have := ih (by omega) i (by omega) hl
        omega
theorem minTo_mem {f : Cl → Int} {l : List Cl} : ∀ k, 0 < k → k ≤ l.length → ∃ c ∈ l, minTo f l k = f c := by
  intro k
  induction k with
  | zero => intro h; omega
  | succ k ih =>
    intro _ hk
    unfold minTo
    split
    · exact ⟨_, by rw [getDG (by omega)]; exact List.getElem_mem _, rfl⟩
    · obtain ⟨c, hc, e⟩ := ih (by omega) (by omega)
      rcases Int.le_total (minTo f l k) (f (l.getD k default)) with q | q
      · exact ⟨c, hc, by omega⟩
      · exact ⟨l.getD k default, by rw [getDG (by omega)]; exact List.getElem_mem _, by omega⟩
theorem maxTo_bd {f : Cl → Int} {l : List Cl} {b : Int} (hb : 0 ≤ b) (h : ∀ c ∈ l, f c + 1 ≤ b) : ∀ k, k ≤ l.length → 0 ≤ maxTo f l k ∧ maxTo f l k ≤ b := by
  intro k
  induction k with
  | zero => intro _; exact ⟨Int.le_refl _, hb⟩
  | succ k ih =>
    intro hk
    have h1 := h (l.getD k default) (by rw [getDG (by omega)]; exact List.getElem_mem _)
    have := ih (by omega)
    unfold maxTo
    omega
theorem maxTo_ge {f : Cl → Int} {l : List Cl} : ∀ k, k ≤ l.length → ∀ i, i < k → ∀ hi : i < l.length, f l[i] + 1 ≤ maxTo f l k := by
  intro k
  induction k with
  | zero => intro _ i h; omega
  | succ k ih =>
    intro hk i hi hl
    unfold maxTo
    by_cases e : i = k
    · subst e
      rw [getDG (by omega)]
      omega
    · have := ih (by omega) i (by omega) hl
      omega
def shiftC (a b : Int) (c : Cl) : Cl := ⟨c.x - a, c.y - b⟩
def shift (l : List Cl) (a b : Int) : List Cl := l.map (shiftC a b)
theorem shift_length (l : List Cl) (a b : Int) : (shift l a b).length = l.length := by simp [shift]
theorem ltC_shift (a b : Int) (c d : Cl) : ltC (shiftC a b c) (shiftC a b d) = ltC c d := by
  rw [Bool.eq_iff_iff, ltC_iff, ltC_iff]
  simp only [shiftC]
  omega
theorem asc_shift {l : List Cl} (h : AscG ltC l) (a b : Int) : AscG ltC (shift l a b) := by
  unfold AscG shift
  rw [List.pairwise_map]
  exact h.imp fun {x y} q => by rw [ltC_shift]; exact q
theorem shift_putAll (l : List Cl) (a b : Int) : putAllG ltC (shift l a b) = shift (putAllG ltC l) a b := by
  refine putAllG_eq wholeC (asc_shift (asc_putAllG wholeC l) a b) fun c => ?_
  unfold shift
  simp only [List.mem_map, mem_putAllG wholeC]
/-- A list moved so that its least coordinates are 0. -/
def cornL (l : List Cl) : List Cl := shift l (minTo Cl.x l l.length) (minTo Cl.y l l.length)
theorem cornL_length (l : List Cl) : (cornL l).length = l.length := shift_length _ _ _
theorem asc_cornL {l : List Cl} (h : AscG ltC l) : AscG ltC (cornL l) := asc_shift h _ _
theorem corn_mem {l : List Cl} {c : Cl} (h : c ∈ cornL l) : ∃ d ∈ l, c = ⟨d.x - minTo Cl.x l l.length, d.y - minTo Cl.y l l.length⟩ := by
  unfold cornL shift at h
  rw [List.mem_map] at h
  obtain ⟨d, hd, rfl⟩ := h
  exact ⟨d, hd, rfl⟩
theorem cornL_in {l : List Cl} (h : Shape l) {c : Cl} (hc : c ∈ cornL l) : (0 ≤ c.x ∧ c.x ≤ 7) ∧ 0 ≤ c.y ∧ c.y ≤ 7 := by
  obtain ⟨d, hd, rfl⟩ := corn_mem hc
  have hb := h.1.2 d hd
  obtain ⟨i, hi, rfl⟩ := List.mem_iff_getElem.1 hd
  have h1 := minTo_le (f := Cl.x) l.length (Nat.le_refl _) i hi hi
  have h2 := minTo_le (f := Cl.y) l.length (Nat.le_refl _) i hi hi
  have b1 := minTo_bd (f := Cl.x) (a := 0) (b := 7) (fun c hc => (h.1.2 c hc).1) l.length h.2.1 (Nat.le_refl _)
  have b2 := minTo_bd (f := Cl.y) (a := 0) (b := 7) (fun c hc => (h.1.2 c hc).2) l.length h.2.1 (Nat.le_refl _)
  unfold OnB at hb
  simp only
  omega
/-- The width and the height. -/
def cornS (l : List Cl) : List Cl := if Shape l then cornL l else []
def sizeX (l : List Cl) : Int := maxTo Cl.x (cornS l) (cornS l).length
def sizeY (l : List Cl) : Int := maxTo Cl.y (cornS l) (cornS l).length
theorem cornS_in {l : List Cl} {c : Cl} (hc : c ∈ cornS l) : (0 ≤ c.x ∧ c.x ≤ 7) ∧ 0 ≤ c.y ∧ c.y ≤ 7 := by
  unfold cornS at hc
  split at hc
  · exact cornL_in ‹_› hc
  · simp at hc
theorem size_bd (l : List Cl) : (0 ≤ sizeX l ∧ sizeX l ≤ 8) ∧ 0 ≤ sizeY l ∧ sizeY l ≤ 8 :=
  ⟨maxTo_bd (by omega) (fun _ hc => by have := (cornS_in hc).1; omega) _ (Nat.le_refl _), maxTo_bd (by omega) (fun _ hc => by have := (cornS_in hc).2; omega) _ (Nat.le_refl _)⟩
theorem cornS_length (l : List Cl) : (cornS l).length ≤ 8 := by
  unfold cornS
  split
  · rename_i h
    rw [cornL_length]; exact h.2.2
  · simp
theorem cornS_yes {l : List Cl} (h : Shape l) : cornS l = cornL l := by unfold cornS; rw [if_pos h]
theorem cornS_no {l : List Cl} (h : ¬ Shape l) : cornS l = [] := by unfold cornS; rw [if_neg h]
theorem shape_len {l : List Cl} (h : Shape l) : 1 ≤ l.length ∧ l.length ≤ 8 := h.2
theorem shape_bd {l : List Cl} (h : Shape l) : ∀ d ∈ l, (-1000 ≤ d.x ∧ d.x ≤ 1000) ∧ -1000 ≤ d.y ∧ d.y ≤ 1000 := by
  intro d hd
  have hb := h.1.2 d hd
  unfold OnB at hb
  omega
theorem maxTo_succ (f : Cl → Int) (l : List Cl) (k : Nat) : maxTo f l (k + 1) = max (maxTo f l k) (f (l.getD k default) + 1) := rfl
end Go.Proofs.YtcoggnoeafpgbaaGreat

/- RegP: when a region is valid; plain. -/
namespace Go.Proofs.YtcoggnoeafpgbaaGreat
open Go.RowKit

def regV (b : Int) (ad : Option Addr) (n c : Nat) : Value := .agg #[.int .i64 b, .slice ad n c]
theorem lt_of_blk {w : World} {b : Nat} {o : Obj} (h : w.heap[b]? = some o) : b < w.heap.size := (Array.getElem?_eq_some_iff.1 h).1
/-- When a region is valid. -/
def Reg (b : Int) (xs : List Int) : Prop := (1 ≤ b ∧ b ≤ 6) ∧ (1 ≤ xs.length ∧ xs.length ≤ 6) ∧ ∀ x ∈ xs, 0 ≤ x ∧ x < 2 ^ b.toNat
instance (b : Int) (xs : List Int) : Decidable (Reg b xs) := by unfold Reg; infer_instance
end Go.Proofs.YtcoggnoeafpgbaaGreat

/- RegH: the walks of the laws' helpers on regions: copy, size, compare; when a region is valid. -/
namespace Go.Proofs.YtcoggnoeafpgbaaGreat
open Go.RowKit


theorem szIntS_any (ad : Option Addr) (cap n : Nat) (left : Int) (w : World) (hn : n ≤ 9223372036854775807) (h0 : 0 ≤ left) (h1 : left ≤ 1048576) :
    Calls Tryz.prog 36 #[.slice ad n cap, .int .i64 left] w fun e w' => e = .returned (.int .i64 (if left < (n : Int) then -1 else left - n)) ∧ w = w' := by
  by_cases h : left < (n : Int)
  · rw [if_pos h]
    go_enter Tryz.func36, Tryz.ntmps36
    go_wp2
    go_ret
    exact ⟨rfl, rfl⟩
  · rw [if_neg h]
    go_enter Tryz.func36, Tryz.ntmps36
    go_wp2
    go_ret
    exact ⟨rfl, rfl⟩

set_option maxHeartbeats 400000 in
theorem szRegion_any (b : Int) (ad : Option Addr) (cap n : Nat) (left : Int) (w : World) (hn : n ≤ 9223372036854775807) (h0 : 0 ≤ left) (h1 : left ≤ 1048576) :
    Calls Tryz.prog 6 #[.agg #[.int .i64 b, .slice ad n cap], .int .i64 left] w fun e w' => e = .returned (.int .i64 (if left < (n : Int) then -1 else left - n)) ∧ Below w.heap.size w w' := by
  have hs := fun w => szIntS_any ad cap n left w hn h0 h1
  by_cases h : left < (n : Int)
  · rw [if_pos h] at hs ⊢
    have HS := Lib.hid hs
    clear hs
    go_enter Tryz.func6, Tryz.ntmps6
    go_wp2_with fail
    refine (HS.out _).mono ?_
    rintro e w' ⟨rfl, rfl⟩
    go_wp2
    go_ret
    exact ⟨rfl, by go_grown⟩
  · rw [if_neg h] at hs ⊢
    have HS := Lib.hid hs
    clear hs
    go_enter Tryz.func6, Tryz.ntmps6
    go_wp2_with fail
    refine (HS.out _).mono ?_
    rintro e w' ⟨rfl, rfl⟩
    go_wp2
    go_ret
    exact ⟨rfl, by go_grown⟩

set_option maxHeartbeats 400000 in
theorem toRegion_any (b : Int) (ad : Option Addr) (cap : Nat) (xs : List Int) (w : World) (hn : xs.length ≤ 1048576) (hc : CellsAt w ad (ints xs)) :
    Calls Tryz.prog 9 #[.agg #[.int .i64 b, .slice ad xs.length cap]] w fun e w' => ∃ ad' cap', e = .returned (.agg #[.int .i64 b, .slice ad' xs.length cap']) ∧ w'.ownsRow w.heap.size 3 1 (.slice ad' xs.length cap') xs.length (ints xs) ∧ Below w.heap.size w w' := by
  have HC := Lib.hid hc
  clear hc
  go_enter Tryz.func9, Tryz.ntmps9
  go_wp2_with fail
  obtain ⟨w0, hw0⟩ : ∃ w0, w0 = ((w.alloc (.cells #[.int .i64 b, .slice ad xs.length cap] 24)).alloc (.cells #[.int .i64 0, .slice none 0 0] 29)).alloc (.cells #[.int .i64 b, .slice none 0 0] 29) := ⟨_, rfl⟩
  have hb0 : Below w.heap.size w w0 := by rw [hw0]; exact (((Below.refl _ _).alloc (Nat.le_refl _) _).alloc (by simp) _).alloc (by simp; omega) _
  have hz0 : w0.heap.size = w.heap.size + 3 := by rw [hw0]; simp
  have hblk : w0.heap[w.heap.size + 2]? = some (.cells #[.int .i64 b, .slice none 0 0] 29 (0, 0)) := by
    rw [hw0]
    have := heap_alloc_new ((w.alloc (.cells #[.int .i64 b, .slice ad xs.length cap] 24)).alloc (.cells #[.int .i64 0, .slice none 0 0] 29)) (.cells #[.int .i64 b, .slice none 0 0] 29)
    simpa using this
  have hblk' : w0.heap[w.heap.size + 1]? = some (.cells #[.int .i64 0, .slice none 0 0] 29 (0, 0)) := by
    rw [hw0, Below.heap_alloc _ _ _ (by simp)]
    have := heap_alloc_new (w.alloc (.cells #[.int .i64 b, .slice ad xs.length cap] 24)) (.cells #[.int .i64 0, .slice none 0 0] 29)
    simpa using this
  rw [← hw0]
  clear hw0
  refine (toIntS_any ad cap xs w0 hn (HC.out.below hb0)).mono ?_
  rintro e w2 ⟨ad', cap', rfl, ho, hb⟩
  have hblk2 := (hb.block (w.heap.size + 2) (by omega)).trans hblk
  have x0 : w2.cell? ⟨w.heap.size + 2, 0, none⟩ = some (.int .i64 b) := by rw [cell_of_row w2 _ 0 _ _ _ hblk2]; rfl
  have x1 : w2.cell? ⟨w.heap.size + 2, 1, none⟩ = some (.slice none 0 0) := by rw [cell_of_row w2 _ 1 _ _ _ hblk2]; rfl
  have y1 : w2.frozen? ⟨w.heap.size + 2, 1, none⟩ = false := frozen_of_row w2 _ 1 _ _ hblk2
  have hblk3 := (hb.block (w.heap.size + 1) (by omega)).trans hblk'
  have z0 : w2.cell? ⟨w.heap.size + 1, 0, none⟩ = some (.int .i64 0) := by rw [cell_of_row w2 _ 0 _ _ _ hblk3]; rfl
  have z1 : w2.cell? ⟨w.heap.size + 1, 1, none⟩ = some (.slice none 0 0) := by rw [cell_of_row w2 _ 1 _ _ _ hblk3]; rfl
  have u0 : w2.frozen? ⟨w.heap.size + 1, 0, none⟩ = false := frozen_of_row w2 _ 0 _ _ hblk3
  have u1 : w2.frozen? ⟨w.heap.size + 1, 1, none⟩ = false := frozen_of_row w2 _ 1 _ _ hblk3
  have HZ := Lib.hid hz0
  have HO := Lib.hid ho
  clear hz0 ho hblk hblk2 hblk' hblk3
  go_wp2
  refine bodyPost_ret (v := .agg #[.int .i64 b, .slice ad' xs.length cap']) (by simp [results, Tryz.results9, go_sem, z0, z1]) rfl ⟨ad', cap', rfl, ?_, ?_⟩
  · refine ownsRow_rebase (ownsRow_setCell_below (ownsRow_setCell_below (ownsRow_setCell_below HO.out ?_ _) ?_ _) ?_ _) (by have := HZ.out; omega)
    all_goals (have := HZ.out; simp; omega)
  · exact ((((hb0.trans (hb.mono hb0.size)).setCell (by show w.heap.size ≤ w.heap.size + 2; omega) _).setCell (by show w.heap.size ≤ w.heap.size + 1; omega) _).setCell (by show w.heap.size ≤ w.heap.size + 1; omega) _)

set_option maxHeartbeats 400000 in
theorem eqRegion_any (b1 b2 : Int) (a1 a2 : Option Addr) (c1 c2 : Nat) (xs ys : List Int) (w : World) (hn : xs.length ≤ 1048576) (hc1 : CellsAt w a1 (ints xs)) (hc2 : CellsAt w a2 (ints ys)) :
    Calls Tryz.prog 12 #[.agg #[.int .i64 b1, .slice a1 xs.length c1], .agg #[.int .i64 b2, .slice a2 ys.length c2]] w fun e w' => e = .returned (.bool (decide (b1 = b2 ∧ xs = ys))) ∧ Below w.heap.size w w' := by
  by_cases hb : b1 = b2
  · subst hb
    have n1 : (b1 != b1) = false := by simp
    have hb0 : Below w.heap.size w ((w.alloc (.cells #[.int .i64 b1, .slice a1 xs.length c1] 29)).alloc (.cells #[.int .i64 b1, .slice a2 ys.length c2] 29)) :=
      ((Below.refl _ _).alloc (Nat.le_refl _) _).alloc (by simp) _
    have he := eqIntS_any a1 a2 c1 c2 xs ys _ hn (hc1.below hb0) (hc2.below hb0)
    by_cases hx : xs = ys
    · rw [decide_eq_true hx] at he
      rw [decide_eq_true (⟨rfl, hx⟩ : b1 = b1 ∧ xs = ys)]
      have HE := Lib.hid he
      have HB := Lib.hid hb0
      clear he hb0 hc1 hc2 hx
      go_enter Tryz.func12, Tryz.ntmps12
      go_wp2_with fail
      refine HE.out.mono ?_
      rintro e w' ⟨rfl, m, rfl⟩
      go_wp2
      go_ret
      exact ⟨rfl, below_drewN HB.out m⟩
    · rw [decide_eq_false hx] at he
      rw [decide_eq_false (fun h => hx h.2 : ¬ (b1 = b1 ∧ xs = ys))]
      have HE := Lib.hid he
      have HB := Lib.hid hb0
      clear he hb0 hc1 hc2 hx
      go_enter Tryz.func12, Tryz.ntmps12
      go_wp2_with fail
      refine HE.out.mono ?_
      rintro e w' ⟨rfl, m, rfl⟩
      go_wp2
      go_ret
      exact ⟨rfl, below_drewN HB.out m⟩
  · rw [decide_eq_false (fun h => hb h.1 : ¬ (b1 = b2 ∧ xs = ys))]
    have n1 : (b1 != b2) = true := by simp [hb]
    clear hb
    go_enter Tryz.func12, Tryz.ntmps12
    go_wp2_with fail
    go_ret
    exact ⟨rfl, by go_grown⟩

theorem eqRegion_same (b : Int) (a1 a2 : Option Addr) (c1 c2 : Nat) (xs : List Int) (w : World) (hn : xs.length ≤ 1048576) (hc1 : CellsAt w a1 (ints xs)) (hc2 : CellsAt w a2 (ints xs)) :
    Calls Tryz.prog 12 #[.agg #[.int .i64 b, .slice a1 xs.length c1], .agg #[.int .i64 b, .slice a2 xs.length c2]] w fun e w' => e = .returned (.bool true) ∧ Below w.heap.size w w' := by
  have h := eqRegion_any b b a1 a2 c1 c2 xs xs w hn hc1 hc2
  rw [decide_eq_true (⟨rfl, rfl⟩ : b = b ∧ xs = xs)] at h
  exact h
end Go.Proofs.YtcoggnoeafpgbaaGreat

/- FrameReg: an argument that is a region, opened: its width, its rows' cells. -/
namespace Go.Proofs.YtcoggnoeafpgbaaGreat
open Go.ChangeShapes Go.WideShapes Go.ChangeAt Go.RowKit

set_option maxRecDepth 100000 in
theorem intsCell {H : Type} {enc : TypeId × Value → H} {W : World} {fuel : Nat} {v : Value} {y : DataW H × List MemPlace}
    (hf : DataW.trod enc Tryz.prog W 0 (fun _ => true) true fuel 22 [v] = some y) :
    ∃ ad cap xs, v = .slice ad xs.length cap ∧ xs.length ≤ maxLen ∧ CellsAt W ad (ints xs) ∧ ∀ x ∈ xs, (Lit.int .i64 x).wf = true := by
  rcases open_ints Tryz.underlying22 Tryz.underlying3 Tryz.cellsInt hf with ⟨hcs, hx⟩ | ⟨a, len, cap, zs, hcs, _, hl, hm, hz, hx, hcell, hwz⟩
  · simp at hcs
    subst hcs
    exact ⟨none, 0, [], rfl, by simp, .inl rfl, by simp⟩
  · simp at hcs
    subst hcs
    simp only [if_true] at hz
    have hlen : (zs.take len).length = len := by rw [List.length_take]; omega
    refine ⟨some a, cap, zs.take len, by rw [hlen], by rw [hlen]; omega, ?_, fun x hx => hwz x (List.mem_of_mem_take hx)⟩
    by_cases h0 : len = 0
    · subst h0; left; rfl
    · obtain ⟨b, off, rfl, hc⟩ := _root_.Go.ints_at hcell (by omega)
      refine .inr ⟨b, off, rfl, fun j u hu => ?_⟩
      have hj : j < len := by
        rcases Nat.lt_or_ge j len with q | q
        · exact q
        · rw [List.getElem?_eq_none (by rw [ints_length]; omega)] at hu; cases hu
      rw [ints, List.getElem?_map, List.getElem?_take, if_pos hj, List.getElem?_eq_getElem (by omega)] at hu
      simp only [Option.map_some, Option.some.injEq] at hu
      rw [hc j (by omega), ← hu]
      simp [List.getD_eq_getElem?_getD, List.getElem?_eq_getElem (show j < zs.length by omega)]

theorem Tryz.cellsLRegion : Tryz.prog.cellsOf 24 = 2 := by kernel_rfl

set_option maxRecDepth 100000 in
theorem openRegion {H : Type} {enc : TypeId × Value → H} {W : World} {base : Nat} {v : Value} {d : DataW H} {p : List MemPlace}
    (hv : Value.okWide Tryz.prog W .any base 24 v) (h : DataW.Trod enc Tryz.prog W 0 (fun _ => true) true 24 v d p) :
    ∃ (b : Int) (ad : Option Addr) (cap : Nat) (xs : List Int), v = .agg #[.int .i64 b, .slice ad xs.length cap] ∧ (Lit.int .i64 b).wf = true ∧ xs.length ≤ maxLen ∧ CellsAt W ad (ints xs) ∧ ∀ x ∈ xs, (Lit.int .i64 x).wf = true := by
  obtain ⟨v0, v1, y0, y1, n, rfl, _, _, h0, h1⟩ := Go.Joins.open_agg2 Tryz.underlying24 (by kernel_rfl) Tryz.cellsLRegion hv h
  obtain ⟨b, e0, _, wb⟩ := DataW.trod_int Tryz.underlying3 h0
  simp at e0
  subst e0
  obtain ⟨ad, cap, xs, rfl, hm, hc, hw⟩ := intsCell h1
  exact ⟨b, ad, cap, xs, rfl, wb, hm, hc, hw⟩
end Go.Proofs.YtcoggnoeafpgbaaGreat
