/- AllD2: parts laid together: CornSp, DrawS1, DrawS2, DrawS3. -/
import Derived.Test.YtajmdgcnnipdoaaGreatDoorAllPut0
import Derived.BigQuiet
import Derived.IntWalk
import Derived.Test.YtajmdgcnnipdoaaGreatDoorAllHead
import Derived.Test.YtajmdgcnnipdoaaGreatDoorAllD1
import Derived.BigRegion
import Derived.Deep.Cut
import Derived.Test.YtajmdgcnnipdoaaGreatDoorAllShp

/- CornSp: the walk of the reference's CornerShape. -/
namespace Go.Proofs.YtajmdgcnnipdoaaGreatDoor
open Go.RowKit

set_option maxRecDepth 100000 in
set_option maxHeartbeats 3200000 in
theorem specCornS (ad : Option Addr) (c : Nat) (l : List Cl) (w : World) (hn : l.length ≤ 1048576) (hc : CellsAt w ad (cls l)) :
    Calls Tryz.prog 135 #[.slice ad l.length c] w fun e w' => ∃ ad' c', e = .returned (.slice ad' (cornS l).length c') ∧ w'.ownsRow w.heap.size 91 2 (.slice ad' (cornS l).length c') (cornS l).length (cls (cornS l)) ∧ Below w.heap.size w w' := by
  have HS := Lib.hid (specShape ad c l w hn hc)
  have HC := Lib.hid hc
  clear hc
  by_cases hs : Shape l
  · have HS2 := Lib.hid (HS.out.mono (fun e w' (q : _ ∧ _) => (⟨by rw [q.1, decide_eq_true hs], q.2⟩ : e = .returned (.bool true) ∧ Below w.heap.size w w')))
    have HE := Lib.hid (cornS_yes hs)
    have HB := Lib.hid (shape_bd hs)
    have hl8 := (shape_len hs).2
    have hl : l.length ≤ 1000 := by omega
    clear hs hl8
    go_enter Tryz.func135, Tryz.ntmps135
    go_wp2_with fail
    refine HS2.out.mono ?_
    rintro e w1 ⟨rfl, hb1⟩
    have HB1 := Lib.hid hb1
    have hsz1 := hb1.size
    clear hb1
    go_wp2_with fail
    refine (specCorner ad c l w1 hl HB.out (HC.out.below HB1.out)).mono ?_
    rintro e w2 ⟨ad', c', rfl, ho, hb2⟩
    have HO := Lib.hid ho
    have HB2 := Lib.hid hb2
    clear ho hb2
    go_wp2
    go_ret
    rw [HE.out]
    exact ⟨ad', c', rfl, ownsRow_rebase HO.out hsz1, HB1.out.trans (HB2.out.mono hsz1)⟩
  · have HS2 := Lib.hid (HS.out.mono (fun e w' (q : _ ∧ _) => (⟨by rw [q.1, decide_eq_false hs], q.2⟩ : e = .returned (.bool false) ∧ Below w.heap.size w w')))
    have HE := Lib.hid (cornS_no hs)
    clear hs
    go_enter Tryz.func135, Tryz.ntmps135
    go_wp2_with fail
    refine HS2.out.mono ?_
    rintro e w1 ⟨rfl, hb1⟩
    have HB1 := Lib.hid hb1
    have hsz1 := hb1.size
    clear hb1
    go_wp2
    go_ret
    rw [HE.out]
    exact ⟨_, _, rfl, ownsRow_rebase (ownsRow_empty w1 _ _) hsz1, HB1.out.trans ((Below.refl _ _).alloc hsz1 _)⟩


end Go.Proofs.YtajmdgcnnipdoaaGreatDoor

/- DrawS1: FormatShape gives some text, ParseShape some list of cells, for every short text. -/
namespace Go.Proofs.YtajmdgcnnipdoaaGreatDoor
open Go.RowKit

attribute [local go_sem ↓] Go.wp_at_zero Go.wp_at_succ

theorem app_size (a b : ByteArray) : (a ++ b).size = a.size + b.size := ByteArray.size_append
set_option maxRecDepth 100000 in
set_option maxHeartbeats 3200000 in
theorem fmtShape_any (ad : Option Addr) (c : Nat) (l : List Cl) (w : World) (hn : l.length ≤ 1048576) (hc : CellsAt w ad (cls l)) :
    Calls Tryz.prog 171 #[.slice ad l.length c] w fun e w' => ∃ s : ByteArray, e = .returned (.string s) ∧ Below w.heap.size w w' := by
  have HCO := Lib.hid (specCornS ad c l w hn hc)
  have hl8 := cornS_length l
  have HIN := Lib.hid (fun d (hd : d ∈ cornS l) => cornS_in hd)
  clear hc hn
  generalize cornS l = L at HCO hl8 HIN
  go_enter Tryz.func171, Tryz.ntmps171
  go_wp2_with fail
  refine HCO.out.mono ?_
  rintro e w1 ⟨a1, c1, rfl, ho1, hb1⟩
  have HL := Lib.hid (ownsRow_cellsAt ho1)
  have HB1 := Lib.hid hb1
  clear ho1 hb1
  go_wp2
  go_loopw [4, 5, 6, 7] (fun tv xv yv iv wr => ∃ (k : Nat) (t : ByteArray) (x y : Nat), k ≤ L.length ∧ tv = .string t ∧ t.size ≤ 30 * k ∧ xv = .int .i64 x ∧ x ≤ 8 + k ∧ yv = .int .i64 y ∧ y ≤ 9 ∧ iv = .int .i64 k ∧ wr = w1) (fun _ _ _ iv _ => L.length - (intOf iv).toNat)
  case atStart => exact ⟨0, ⟨#[]⟩, 0, 0, by omega, rfl, Nat.zero_le _, rfl, by omega, rfl, by omega, rfl, rfl⟩
  case round =>
    obtain ⟨k, t, x, y, hk, rfl, ht, rfl, hx, rfl, hy, rfl, rfl⟩ := hrel
    by_cases hlt : k < L.length
    · obtain ⟨g, off, rfl, hg, hcc⟩ := cl_open HL.out (by omega)
      obtain ⟨x0, x1⟩ := hcc k hlt
      have hin := HIN.out _ (List.getElem_mem hlt)
      generalize L[k] = d at x0 x1 hin
      obtain ⟨dx, dy⟩ := d
      simp only at x0 x1 hin
      obtain ⟨⟨d1, d2⟩, d3, d4⟩ := hin
      obtain ⟨X, rfl⟩ : ∃ X : Nat, dx = (X : Int) := ⟨dx.toNat, by omega⟩
      obtain ⟨Y, rfl⟩ : ∃ Y : Nat, dy = (Y : Int) := ⟨dy.toNat, by omega⟩
      have hX : X ≤ 7 := by omega
      have hY : Y ≤ 7 := by omega
      clear hcc d1 d2 d3 d4
      go_wp2
      go_loopw [4, 5, 6] (fun tv xv yv wr2 => ∃ (t : ByteArray) (x y : Nat), tv = .string t ∧ t.size ≤ 30 * k + y ∧ xv = .int .i64 x ∧ x ≤ 8 + k ∧ yv = .int .i64 y ∧ y ≤ 9 ∧ wr2 = wr) (fun _ _ yv _ => 10 - (intOf yv).toNat)
      case atStart => exact ⟨t, x, y, rfl, by omega, rfl, hx, rfl, hy, rfl⟩
      case round =>
        obtain ⟨t, x, y, rfl, ht, rfl, hx, rfl, hy, rfl⟩ := hrel
        have hs := app_size t ⟨#[47]⟩
        have hs1 : (⟨#[47]⟩ : ByteArray).size = 1 := rfl
        by_cases hyy : y < Y
        · go_wp2
          go_roundw
          case rel => exact ⟨_, 0, y + 1, rfl, by omega, rfl, by omega, by go_num, by omega, trivial⟩
          case measure => simp [intOf]; omega
        · clear hs hs1
          go_wp2
          go_loopw [4, 5] (fun tv xv wr3 => ∃ (t : ByteArray) (x : Nat), tv = .string t ∧ t.size ≤ 30 * k + 9 + x ∧ xv = .int .i64 x ∧ x ≤ 8 + k ∧ wr3 = wr) (fun _ xv _ => 20 - (intOf xv).toNat)
          case atStart => exact ⟨t, x, rfl, by omega, rfl, hx, rfl⟩
          case round =>
            obtain ⟨t, x, rfl, ht, rfl, hx, rfl⟩ := hrel
            by_cases hxx : x < X
            · have hs := app_size t ⟨#[46]⟩
              have hs1 : (⟨#[46]⟩ : ByteArray).size = 1 := rfl
              go_wp2
              go_roundw
              case rel => exact ⟨_, x + 1, rfl, by omega, by go_num, by omega, trivial⟩
              case measure => simp [intOf]; omega
            · have hs := app_size t ⟨#[35]⟩
              have hs1 : (⟨#[35]⟩ : ByteArray).size = 1 := rfl
              go_wp2
              go_roundw
              case rel => exact ⟨k + 1, _, x + 1, y, by omega, rfl, by omega, by go_num, by omega, rfl, hy, by go_num, trivial⟩
              case measure => simp [intOf]; omega
    · obtain rfl : k = L.length := by omega
      go_wp2
      go_ret
      exact ⟨t, rfl, HB1.out⟩
end Go.Proofs.YtajmdgcnnipdoaaGreatDoor

/- DrawS2: ParseShape of a short text gives some short list of cells. -/
namespace Go.Proofs.YtajmdgcnnipdoaaGreatDoor
open Go.RowKit

attribute [local go_sem ↓] Go.wp_at_zero Go.wp_at_succ

set_option maxRecDepth 100000 in
set_option maxHeartbeats 3200000 in
theorem parseShape_any (t : ByteArray) (w : World) (hs : t.size ≤ 70) :
    Calls Tryz.prog 153 #[.string t] w fun e w' => ∃ (a : Option Addr) (c : Nat) (b : Bool) (l : List Cl), e = .returned (.tuple #[.slice a l.length c, .bool b]) ∧ l.length ≤ 70 ∧ w'.ownsRow w.heap.size 91 2 (.slice a l.length c) l.length (cls l) ∧ Below w.heap.size w w' := by
  have HE := Lib.hid (ownsRow_empty w 91 2)
  have HBE := Lib.hid (show Below w.heap.size w (w.alloc (.cells #[] 91)) from (Below.refl _ _).alloc (Nat.le_refl _) _)
  have hd70 : decide ((t.size : Int) ≤ 70) = true := decide_eq_true (by omega)
  go_enter Tryz.func153, Tryz.ntmps153
  go_wp2_with fail
  go_loopw [4, 5, 6, 7] (fun v xv yv iv wr => ∃ (k : Nat) (l : List Cl) (x y : Nat), k ≤ t.size ∧ l.length ≤ k ∧ xv = .int .i64 x ∧ x ≤ k ∧ yv = .int .i64 y ∧ y ≤ k ∧ iv = .int .i64 k ∧ wr.ownsRow w.heap.size 91 2 v l.length (cls l) ∧ Below w.heap.size w wr) (fun _ _ _ iv _ => t.size - (intOf iv).toNat)
  case atStart => exact ⟨0, [], 0, 0, by omega, by simp, rfl, by omega, rfl, by omega, rfl, HE.out, HBE.out⟩
  case round =>
    obtain ⟨k, l, x, y, hk, hl, rfl, hx, rfl, hy, rfl, hown, hb⟩ := hrel
    have HO := Lib.hid hown
    have HB := Lib.hid hb
    have hsz := hb.size
    have HE2 := Lib.hid (ownsRow_rebase (ownsRow_empty wr 91 2) hsz)
    clear hown hb
    by_cases hlt : k < t.size
    · obtain ⟨b, hbb⟩ : ∃ b : UInt8, b = t[k]'hlt := ⟨_, rfl⟩
      have e0 : ∀ h, t[((k : Int)).toNat]'h = b := fun h => by rw [hbb]; congr 1
      have E0 : ∀ h, t[k]'h = b := fun h => by rw [hbb]
      have i0 : (k : Int) < (t.size : Int) := by omega
      obtain ⟨n, hn⟩ : ∃ n : Nat, b.toNat = n := ⟨_, rfl⟩
      clear hbb
      by_cases h1 : n = 35
      · subst h1
        go_wp2_with (at_builtin; refine wpList_app1 rfl (.tmp 26) (.tmp 30) 40 rfl w.heap.size 91 _ 2 16 Tryz.elemCl _ l.length _ _ _ _ rfl rfl rfl HO.out (by rfl) (by simp [Value.oneCell']) (by unfold maxLen; omega) (by omega) (by omega) ?_; intro g' cap w3 q1 q2 q3 q4 q5 q6)
        go_roundw
        case rel =>
          refine ⟨k + 1, l ++ [⟨(x : Int), (y : Int)⟩], x + 1, y, by omega, by rw [List.length_append, List.length_singleton]; omega, by go_num, by omega, rfl, by omega, by go_num, ?_, HB.out.trans q2⟩
          rw [cls_append, List.length_append, List.length_singleton]
          exact q1
        case measure => simp [intOf]; omega
      · have f1 : ((n : Int) == 35) = false := by simp; omega
        by_cases h2 : n = 46
        · subst h2
          go_wp2
          go_roundw
          case rel => exact ⟨k + 1, l, x + 1, y, by omega, by omega, by go_num, by omega, rfl, by omega, by go_num, HO.out, HB.out⟩
          case measure => simp [intOf]; omega
        · have f2 : ((n : Int) == 46) = false := by simp; omega
          by_cases h3 : n = 47
          · subst h3
            go_wp2
            go_roundw
            case rel => exact ⟨k + 1, l, 0, y + 1, by omega, by omega, rfl, by omega, by go_num, by omega, by go_num, HO.out, HB.out⟩
            case measure => simp [intOf]; omega
          · have f3 : ((n : Int) == 47) = false := by simp; omega
            go_wp2
            go_ret2
            exact ⟨_, _, _, [], rfl, by simp, HE2.out, HB.out.alloc hsz _⟩
    · obtain rfl : k = t.size := by omega
      obtain ⟨av, cv, rfl, hcv⟩ := ownsRow_cells HO.out
      have HF := Lib.hid (fmtShape_any av cv l wr (by omega) hcv)
      clear hcv
      by_cases hz : t.toList = []
      · go_wp2
        go_ret2
        exact ⟨_, _, _, [], rfl, by simp, HE2.out, HB.out.alloc hsz _⟩
      · go_wp2_with fail
        refine HF.out.mono ?_
        rintro e w2 ⟨s, rfl, hb2⟩
        have HB2 := Lib.hid (HB.out.trans (hb2.mono hsz))
        have HO2 := Lib.hid (ownsRow_far_below HO.out hb2 (Nat.le_refl _))
        have hsz2 := HB2.out.size
        have HE3 := Lib.hid (ownsRow_rebase (ownsRow_empty w2 91 2) hsz2)
        have hze : t.toList.isEmpty = false := by simpa using hz
        have hze2 : (t.toList == []) = false := by simpa using hz
        clear hb2
        obtain ⟨q, hq⟩ : ∃ q : Bool, (s.toList == t.toList) = q := ⟨_, rfl⟩
        cases q
        · go_wp2
          go_ret2
          exact ⟨_, _, _, [], rfl, by simp, HE3.out, HB2.out.alloc hsz2 _⟩
        · go_wp2
          go_ret2
          exact ⟨av, cv, _, l, rfl, by omega, HO2.out, HB2.out⟩

set_option maxRecDepth 100000 in
set_option maxHeartbeats 3200000 in
theorem pieceNamed_any (s : ByteArray) (w : World) :
    Calls Tryz.prog 130 #[.string s] w fun e w' => ∃ (a : Option Addr) (c : Nat) (b : Bool) (l : List Cl), e = .returned (.tuple #[.slice a l.length c, .bool b]) ∧ l.length ≤ 70 ∧ w'.ownsRow w.heap.size 91 2 (.slice a l.length c) l.length (cls l) ∧ Below w.heap.size w w' := by
  have HE := Lib.hid (ownsRow_empty w 91 2)
  have HBE := Lib.hid (show Below w.heap.size w (w.alloc (.cells #[] 91)) from (Below.refl _ _).alloc (Nat.le_refl _) _)
  have HP := Lib.hid (fun t (ht : t.size ≤ 70) => parseShape_any t w ht)
  go_enter Tryz.func130, Tryz.ntmps130
  go_wp2_with fail
  · refine (HP.out _ (by decide)).mono ?_
    rintro e w1 ⟨a, c, b, l, rfl, hl, ho, hb⟩
    go_wp2
    go_ret2
    exact ⟨a, c, b, l, rfl, hl, ho, hb⟩
  · refine (HP.out _ (by decide)).mono ?_
    rintro e w1 ⟨a, c, b, l, rfl, hl, ho, hb⟩
    go_wp2
    go_ret2
    exact ⟨a, c, b, l, rfl, hl, ho, hb⟩
  · refine (HP.out _ (by decide)).mono ?_
    rintro e w1 ⟨a, c, b, l, rfl, hl, ho, hb⟩
    go_wp2
    go_ret2
    exact ⟨a, c, b, l, rfl, hl, ho, hb⟩
  · refine (HP.out _ (by decide)).mono ?_
    rintro e w1 ⟨a, c, b, l, rfl, hl, ho, hb⟩
    go_wp2
    go_ret2
    exact ⟨a, c, b, l, rfl, hl, ho, hb⟩
  · refine (HP.out _ (by decide)).mono ?_
    rintro e w1 ⟨a, c, b, l, rfl, hl, ho, hb⟩
    go_wp2
    go_ret2
    exact ⟨a, c, b, l, rfl, hl, ho, hb⟩
  · refine (HP.out _ (by decide)).mono ?_
    rintro e w1 ⟨a, c, b, l, rfl, hl, ho, hb⟩
    go_wp2
    go_ret2
    exact ⟨a, c, b, l, rfl, hl, ho, hb⟩
  · refine (HP.out _ (by decide)).mono ?_
    rintro e w1 ⟨a, c, b, l, rfl, hl, ho, hb⟩
    go_wp2
    go_ret2
    exact ⟨a, c, b, l, rfl, hl, ho, hb⟩
  · refine (HP.out _ (by decide)).mono ?_
    rintro e w1 ⟨a, c, b, l, rfl, hl, ho, hb⟩
    go_wp2
    go_ret2
    exact ⟨a, c, b, l, rfl, hl, ho, hb⟩
  · refine (HP.out _ (by decide)).mono ?_
    rintro e w1 ⟨a, c, b, l, rfl, hl, ho, hb⟩
    go_wp2
    go_ret2
    exact ⟨a, c, b, l, rfl, hl, ho, hb⟩
  · refine (HP.out _ (by decide)).mono ?_
    rintro e w1 ⟨a, c, b, l, rfl, hl, ho, hb⟩
    go_wp2
    go_ret2
    exact ⟨a, c, b, l, rfl, hl, ho, hb⟩
  · refine (HP.out _ (by decide)).mono ?_
    rintro e w1 ⟨a, c, b, l, rfl, hl, ho, hb⟩
    go_wp2
    go_ret2
    exact ⟨a, c, b, l, rfl, hl, ho, hb⟩
  · refine (HP.out _ (by decide)).mono ?_
    rintro e w1 ⟨a, c, b, l, rfl, hl, ho, hb⟩
    go_wp2
    go_ret2
    exact ⟨a, c, b, l, rfl, hl, ho, hb⟩
  · go_ret2
    exact ⟨_, _, _, [], rfl, by simp, HE.out, HBE.out⟩
end Go.Proofs.YtajmdgcnnipdoaaGreatDoor

/- DrawS3: l4Piece and l7Pieces: short lists of cells, one to three of them. -/
namespace Go.Proofs.YtajmdgcnnipdoaaGreatDoor
open Go.RowKit

attribute [local go_sem ↓] Go.wp_at_zero Go.wp_at_succ

def names12 : List Value := [.string ⟨#[73, 50]⟩, .string ⟨#[73, 51]⟩, .string ⟨#[86, 51]⟩, .string ⟨#[73, 52]⟩, .string ⟨#[76, 52]⟩, .string ⟨#[84, 52]⟩, .string ⟨#[83, 52]⟩, .string ⟨#[79, 52]⟩, .string ⟨#[88, 53]⟩, .string ⟨#[80, 53]⟩, .string ⟨#[87, 53]⟩, .string ⟨#[85, 53]⟩]
theorem names12_at {k : Nat} (h : k < 12) : ∃ s : ByteArray, names12[k]? = some (.string s) := by
  obtain rfl | rfl | rfl | rfl | rfl | rfl | rfl | rfl | rfl | rfl | rfl | rfl : k = 0 ∨ k = 1 ∨ k = 2 ∨ k = 3 ∨ k = 4 ∨ k = 5 ∨ k = 6 ∨ k = 7 ∨ k = 8 ∨ k = 9 ∨ k = 10 ∨ k = 11 := by omega
  all_goals exact ⟨_, rfl⟩
set_option maxRecDepth 100000 in
set_option maxHeartbeats 1600000 in
theorem l4Names_any (w : World) :
    Calls Tryz.prog 129 #[] w fun e w' => e = .returned (.slice (some ⟨w.heap.size, 0, none⟩) 12 12) ∧ CellsAt w' (some ⟨w.heap.size, 0, none⟩) names12 ∧ Below w.heap.size w w' := by
  go_enter Tryz.func129, Tryz.ntmps129
  go_wp2
  go_ret
  exact ⟨rfl, cells_lit (w := w) (vs := names12) (e := 9) (heap_alloc_new w _), (Below.refl _ _).alloc (Nat.le_refl _) _⟩

set_option maxRecDepth 100000 in
set_option maxHeartbeats 1600000 in
theorem l4Piece_any (g : Nat) (bs : List Nat) (w : World) (hc : Curs w g bs) :
    Calls Tryz.prog 87 #[.pointer (some ⟨g, 0, none⟩)] w fun e w' => ∃ (a : Option Addr) (c : Nat) (l : List Cl), e = .returned (.slice a l.length c) ∧ l.length ≤ 80 ∧ w'.ownsRow w.heap.size 91 2 (.slice a l.length c) l.length (cls l) ∧ Curs w' g bs ∧ w.grownBy w' (some g) := by
  have HC := Lib.hid hc
  have hgw := hc.lt
  have HN := Lib.hid (l4Names_any w)
  clear hc
  go_enter Tryz.func87, Tryz.ntmps87
  go_wp2_with fail
  refine HN.out.mono ?_
  rintro e w1 ⟨rfl, hn1, hb1⟩
  have HN1 := Lib.hid hn1
  have HG1 := Lib.hid (grown_any (row := some g) hb1)
  have HD := Lib.hid (drawBelow g bs 12 w1 (HC.out.below hb1 hgw) (by decide))
  clear hn1 hb1
  go_wp2_with fail
  refine HD.out.mono ?_
  rintro e w2 ⟨k, rfl, hk, hc2, hg2⟩
  obtain ⟨s, hs⟩ := names12_at hk
  have x0 : w2.cell? ⟨w.heap.size, k, none⟩ = some (.string s) := by
    rcases HN1.out with q | ⟨b, off, q, hcc⟩
    · cases q
    · cases q
      have h1 := hcc k _ hs
      rw [Nat.zero_add] at h1
      rw [World.cell?_of_block (w := w1) (hg2.block w.heap.size (World.block_lt_of_cell? w1 _ h1) (fun q => by cases q; omega))]
      exact h1
  have HG2 := Lib.hid (grownBy_trans HG1.out hg2)
  have HC2 := Lib.hid hc2
  have HP := Lib.hid (pieceNamed_any s w2)
  have i0 : (k : Int) < 12 := by omega
  clear hs hc2 hg2
  go_wp2_with fail
  refine HP.out.mono ?_
  rintro e w3 ⟨a, c, b, l, rfl, hl, ho, hb3⟩
  have hsz2 : w.heap.size ≤ w2.heap.size := HG2.out.size
  have HO3 := Lib.hid (ownsRow_rebase ho hsz2)
  have HC3 := Lib.hid (HC2.out.below hb3 (by omega))
  have HG3 := Lib.hid (grown_then HG2.out (hb3.mono hsz2))
  clear ho hb3
  go_wp2
  go_ret
  exact ⟨a, c, l, rfl, by omega, HO3.out, HC3.out, HG3.out⟩
end Go.Proofs.YtajmdgcnnipdoaaGreatDoor
