/- SmallR: the walks of SmallestRectangle and RectangleOrder, the reference's and the program's. -/
import Derived.Test.YtmpcmeeoiapbdaaGreatDoorRectsT
import Derived.Test.YtmpcmeeoiapbdaaGreatDoorLeast
import Derived.BigQuiet
namespace Go.Proofs.YtmpcmeeoiapbdaaGreatDoor
open Go.RowKit

attribute [local go_sem ↓] Go.wp_at_zero Go.wp_at_succ

theorem rectL_length (l : List Cl) : (rectL l).length ≤ 25 := rtTo_length _ _ 5
theorem rectL_bd (l : List Cl) : ∀ p ∈ rectL l, p.1 ≤ 5 ∧ p.2 ≤ 5 := fun p hp => by
  have h := rtTo_mem.1 hp
  exact ⟨h.2.1, h.2.2.2.2.1⟩
theorem rectL_shape {l : List Cl} (h : 0 < (rectL l).length) : Shape l := by
  by_cases hs : Shape l
  · exact hs
  · have : rectL l = [] := rtTo_none (fun a b => trR_shape hs _ _) 5
    rw [this] at h
    cases h
/-- In a list that ascends in the first numbers a pair is better than an earlier one where its product is less. -/
theorem better_later {l : List (Nat × Nat)} (hs : l.Pairwise (fun p q => p.1 ≤ q.1)) {b k : Nat} (hbk : b < k) (hk : k < l.length) : betterP l[k] (l[b]'(by omega)) = decide (l[k].1 * l[k].2 < (l[b]'(by omega)).1 * (l[b]'(by omega)).2) := by
  have h1 := List.pairwise_iff_getElem.1 hs b k (by omega) hk hbk
  unfold betterP
  rw [decide_eq_false (show ¬ l[k].1 < (l[b]'(by omega)).1 by omega), Bool.and_false, Bool.or_false]
def smR (l : List Cl) : Nat × Nat := leastL (rectL l)

set_option maxRecDepth 100000 in
set_option maxHeartbeats 3200000 in
theorem implSm (ad : Option Addr) (c : Nat) (l : List Cl) (w : World) (hn : l.length ≤ 1048576) (hT : Tab w) (hc : CellsAt w ad (cls l)) :
    Calls Tryz.prog 38 #[.slice ad l.length c] w fun e w' => e = .returned (.tuple #[.int .i64 (smR l).1, .int .i64 (smR l).2, .bool (decide (0 < (rectL l).length))]) ∧ Below w.heap.size w w' := by
  have HR := Lib.hid (implRT ad c l w hn hT hc)
  have hl := rectL_length l
  have HBD := Lib.hid (rectL_bd l)
  have hd : smR l = leastL (rectL l) := rfl
  rw [hd]
  clear hc hT hd
  generalize rectL l = ps at HR hl HBD ⊢
  have HL := Lib.hid (fun a2 c2 w' h => implLst a2 c2 ps w' (by omega) HBD.out h)
  go_enter Tryz.func38, Tryz.ntmps38
  go_wp2_with fail
  refine HR.out.mono ?_
  rintro e w1 ⟨a1, c1, rfl, hm1, hb1⟩
  have HB1 := Lib.hid hb1
  have hsz1 := hb1.size
  have HLC := Lib.hid (HL.out a1 c1 w1 (hm1.matAt (rowsP_length ps).symm))
  clear hm1 hb1
  go_wp2_with fail
  refine HLC.out.mono ?_
  rintro e w2 ⟨rfl, hb2⟩
  have HB2 := Lib.hid (HB1.out.trans (hb2.mono hsz1))
  clear hb2
  go_wp2
  go_ret3
  exact ⟨rfl, HB2.out⟩

set_option maxRecDepth 100000 in
set_option maxHeartbeats 3200000 in
theorem specSm (ad : Option Addr) (c : Nat) (l : List Cl) (w : World) (hn : l.length ≤ 1048576) (hc : CellsAt w ad (cls l)) :
    Calls Tryz.prog 37 #[.slice ad l.length c] w fun e w' => e = .returned (.tuple #[.int .i64 (smR l).1, .int .i64 (smR l).2, .bool (decide (0 < (rectL l).length))]) ∧ Below w.heap.size w w' := by
  have HR := Lib.hid (specRT ad c l w hn hc)
  have hl := rectL_length l
  have HBD := Lib.hid (rectL_bd l)
  have HSO := Lib.hid (rtTo_sorted (okR l) id 5)
  have hrd : rtTo (okR l) id 5 = rectL l := rfl
  rw [hrd] at HSO
  have hd : smR l = leastTo (rectL l) (rectL l).length := rfl
  rw [hd]
  clear hc hd hrd
  generalize rectL l = ps at HR hl HBD HSO ⊢
  have HBT := Lib.hid (fun (b k : Nat) (hbk : b < k) (hk : k < ps.length) => better_later HSO.out hbk hk)
  have HY := Lib.hid (fun k (hk : k < ps.length) h => leastTo_yes hk h)
  have HN := Lib.hid (fun k (hk : k < ps.length) h0 h => leastTo_no hk h0 h)
  have HF := Lib.hid (fun (h : 0 < ps.length) => leastTo_first ps h)
  go_enter Tryz.func37, Tryz.ntmps37
  go_wp2_with fail
  refine HR.out.mono ?_
  rintro e w1 ⟨a1, c1, rfl, hm1, hb1⟩
  have HB1 := Lib.hid hb1
  have hsz1 := hb1.size
  have HM := Lib.hid (hm1.matAt (rowsP_length ps).symm)
  clear hm1 hb1
  -- a row's cells
  have hcells : ∀ (i : Nat) (hi : i < ps.length) (wr : World), Below w1.heap.size w1 wr → ∃ g off g2 off2 ci, a1 = some ⟨g, off, none⟩ ∧ wr.cell? ⟨g, off + i, none⟩ = some (.slice (some ⟨g2, off2, none⟩) 2 ci) ∧ wr.cell? ⟨g2, off2, none⟩ = some (.int .i64 (ps[i].1 : Int)) ∧ wr.cell? ⟨g2, off2 + 1, none⟩ = some (.int .i64 (ps[i].2 : Int)) := by
    intro i hi wr hb
    obtain ⟨g, off, ai, ci, rfl, hg, x0, hrow⟩ := HM.out.row (i := i) (by rw [rowsP_length]; exact hi)
    have e0 := rowsP_at ps i hi
    rw [e0] at x0 hrow
    obtain ⟨g2, off2, rfl, hg2, hcc⟩ := hrow.open (by simp [ints])
    have y0 := hcc 0 _ rfl
    have y1 := hcc 1 _ rfl
    rw [Nat.add_zero] at y0
    exact ⟨g, off, g2, off2, ci, rfl, (hb.cell (p := ⟨g, off + i, none⟩) hg).trans x0, (hb.cell (p := ⟨g2, off2, none⟩) hg2).trans y0, (hb.cell (p := ⟨g2, off2 + 1, none⟩) hg2).trans y1⟩
  have HCL := Lib.hid hcells
  clear hcells
  go_wp2
  go_loopw [6, 7] (fun bv i wr => ∃ k : Nat, k ≤ ps.length ∧ i = .int .i64 k ∧ ((k = 0 ∧ bv = .int .i64 (-1)) ∨ ∃ b : Nat, ∃ hb : b < k, bv = .int .i64 b ∧ ∃ hp : b < ps.length, leastTo ps k = ps[b]) ∧ Below w1.heap.size w1 wr) (fun _ i _ => ps.length - (intOf i).toNat)
  case atStart => exact ⟨0, Nat.zero_le _, rfl, .inl ⟨rfl, rfl⟩, Below.refl _ _⟩
  case round =>
    obtain ⟨k, hk, rfl, hcase, hb⟩ := hrel
    have HB := Lib.hid hb
    have hszr := hb.size
    clear hb
    by_cases hlt : k < ps.length
    · have i1 : (k : Int) < (ps.length : Int) := by omega
      rcases hcase with ⟨rfl, rfl⟩ | ⟨b, hbk, rfl, hbp, hval⟩
      · have HV := Lib.hid (HF.out hlt)
        have dm : decide ((-1 : Int) < 0) = true := by decide
        go_wp2
        go_big_quiet (fail)
        go_wp2
        go_roundw
        case rel => exact ⟨1, hlt, by go_num, .inr ⟨0, Nat.zero_lt_one, rfl, hlt, HV.out⟩, below_drewN HB.out _⟩
        case measure => simp [intOf]; omega
      · obtain ⟨g, off, g2, off2, c2, rfl, x0, x1, x2⟩ := HCL.out k hlt wr HB.out
        obtain ⟨g', off', g3, off3, c3, he, y0, y1, y2⟩ := HCL.out b hbp wr HB.out
        cases he
        have hpk := HBD.out _ (List.getElem_mem hlt)
        have hpb := HBD.out _ (List.getElem_mem hbp)
        have hbt := HBT.out b k hbk hlt
        have HYK := Lib.hid (HY.out k hlt)
        have HNK := Lib.hid (HN.out k hlt (by omega))
        rw [hval] at HYK HNK
        rw [hbt] at HYK HNK
        have HVAL := Lib.hid hval
        clear hbt hval
        have HX1 : (ps[k].1, ps[k].2) = ps[k] := rfl
        obtain ⟨pk, hpk0⟩ : ∃ pk, pk = ps[k] := ⟨_, rfl⟩
        obtain ⟨pb, hpb0⟩ : ∃ pb, pb = ps[b] := ⟨_, rfl⟩
        rw [← hpk0] at x1 x2 hpk HYK HNK
        rw [← hpb0] at y1 y2 hpb HYK HNK HVAL
        have HPK := Lib.hid hpk0
        have HPB := Lib.hid hpb0
        clear hpk0 hpb0 HX1
        obtain ⟨p0, p1⟩ := pk
        obtain ⟨q0, q1⟩ := pb
        obtain ⟨hp0, hp1⟩ : p0 ≤ 5 ∧ p1 ≤ 5 := hpk
        obtain ⟨hq0, hq1⟩ : q0 ≤ 5 ∧ q1 ≤ 5 := hpb
        have x1 : wr.cell? ⟨g2, off2, none⟩ = some (.int .i64 (p0 : Int)) := x1
        have x2 : wr.cell? ⟨g2, off2 + 1, none⟩ = some (.int .i64 (p1 : Int)) := x2
        have y1 : wr.cell? ⟨g3, off3, none⟩ = some (.int .i64 (q0 : Int)) := y1
        have y2 : wr.cell? ⟨g3, off3 + 1, none⟩ = some (.int .i64 (q1 : Int)) := y2
        obtain ⟨X, hX⟩ : ∃ X, X = p0 * p1 := ⟨_, rfl⟩
        obtain ⟨Y, hY⟩ : ∃ Y, Y = q0 * q1 := ⟨_, rfl⟩
        have hX25 : X ≤ 25 := by rw [hX]; exact Nat.mul_le_mul hp0 hp1
        have hY25 : Y ≤ 25 := by rw [hY]; exact Nat.mul_le_mul hq0 hq1
        have m1 : (p0 : Int) * (p1 : Int) = (X : Int) := by rw [hX]; norm_cast
        have m2 : (q0 : Int) * (q1 : Int) = (Y : Int) := by rw [hY]; norm_cast
        have m3 : IntKind.i64.wrap (X : Int) = (X : Int) := IntWalk.i64_in _ (by omega)
        have m4 : IntKind.i64.wrap (Y : Int) = (Y : Int) := IntWalk.i64_in _ (by omega)
        have m5 : wrap64 (X : Int) = (X : Int) := wrap_nat (by omega)
        have m6 : wrap64 (Y : Int) = (Y : Int) := wrap_nat (by omega)
        have db : decide ((b : Int) < 0) = false := decide_eq_false (by omega)
        have i2 : (b : Int) < (ps.length : Int) := by omega
        have HYX := Lib.hid (show decide (X < Y) = true → leastTo ps (k + 1) = ps[k] by rw [hX, hY, ← HPK.out]; exact HYK.out)
        have HNX := Lib.hid (show decide (X < Y) = false → leastTo ps (k + 1) = ps[b] by rw [hX, hY, ← HPB.out]; exact HNK.out)
        clear hX hY HYK HNK HPK HPB HVAL hp0 hp1 hq0 hq1
        by_cases hxy : X < Y
        · have HV := Lib.hid (HYX.out (decide_eq_true hxy))
          have dxy : decide ((X : Int) < (Y : Int)) = true := decide_eq_true (Int.ofNat_lt.2 hxy)
          have dxyn : decide (X < Y) = true := decide_eq_true hxy
          clear HYX HNX hxy
          go_wp2
          go_big_quiet (fail)
          go_wp2
          go_roundw
          case rel => exact ⟨k + 1, hlt, by go_num, .inr ⟨k, Nat.lt_succ_self k, rfl, hlt, HV.out⟩, below_drewN HB.out _⟩
          case measure => simp [intOf]; omega
        · have HV := Lib.hid (HNX.out (decide_eq_false hxy))
          have dxy : decide ((X : Int) < (Y : Int)) = false := decide_eq_false (fun h => hxy (Int.ofNat_lt.1 h))
          have dxyn : decide (X < Y) = false := decide_eq_false hxy
          clear HYX HNX hxy
          go_wp2
          go_big_quiet (fail)
          go_wp2
          go_roundw
          case rel => exact ⟨k + 1, hlt, by go_num, .inr ⟨b, Nat.lt_succ_of_lt hbk, rfl, hbp, HV.out⟩, below_drewN HB.out _⟩
          case measure => simp [intOf]; omega
    · obtain rfl : k = ps.length := by omega
      rcases hcase with ⟨h0, rfl⟩ | ⟨b, hbk, rfl, hbp, hval⟩
      · have hz : leastTo ps ps.length = (0, 0) := by rw [h0]; rfl
        have hd : decide (0 < ps.length) = false := decide_eq_false (by omega)
        have dm : decide ((-1 : Int) < 0) = true := by decide
        have HZ := Lib.hid hz
        have HD := Lib.hid hd
        clear hz hd h0
        go_wp2
        go_ret3
        rw [HZ.out, HD.out]
        exact ⟨rfl, HB1.out.trans (HB.out.mono hsz1)⟩
      · obtain ⟨g', off', g3, off3, c3, rfl, y0, y1, y2⟩ := HCL.out b hbp wr HB.out
        have hd : decide (0 < ps.length) = true := decide_eq_true (by omega)
        have db : decide ((b : Int) < 0) = false := decide_eq_false (by omega)
        have i2 : (b : Int) < (ps.length : Int) := by omega
        obtain ⟨pb, hpb0⟩ : ∃ pb, pb = ps[b] := ⟨_, rfl⟩
        rw [← hpb0] at y1 y2 hval
        clear hpb0
        have HZ := Lib.hid hval
        have HD := Lib.hid hd
        clear hval hd
        obtain ⟨q0, q1⟩ := pb
        have y1 : wr.cell? ⟨g3, off3, none⟩ = some (.int .i64 (q0 : Int)) := y1
        have y2 : wr.cell? ⟨g3, off3 + 1, none⟩ = some (.int .i64 (q1 : Int)) := y2
        go_wp2
        go_big_quiet (fail)
        go_wp2
        go_ret3
        rw [HZ.out, HD.out]
        exact ⟨rfl, below_drewN (HB1.out.trans (HB.out.mono hsz1)) _⟩
/-- The number of pieces. -/
def roR (l : List Cl) : Int := if 0 < (rectL l).length then (((smR l).1 * (smR l).2 / l.length : Nat) : Int) else -1
theorem smR_bd (l : List Cl) : (smR l).1 ≤ 5 ∧ (smR l).2 ≤ 5 := by
  by_cases h : 0 < (rectL l).length
  · exact rectL_bd l _ (leastL_spec h).1
  · have : rectL l = [] := List.eq_nil_of_length_eq_zero (by omega)
    unfold smR
    rw [this]
    exact ⟨Nat.zero_le _, Nat.zero_le _⟩

set_option maxRecDepth 100000 in
set_option maxHeartbeats 3200000 in
theorem specRo (ad : Option Addr) (c : Nat) (l : List Cl) (w : World) (hn : l.length ≤ 1048576) (hc : CellsAt w ad (cls l)) :
    Calls Tryz.prog 39 #[.slice ad l.length c] w fun e w' => e = .returned (.int .i64 (roR l)) ∧ Below w.heap.size w w' := by
  have HS := Lib.hid (specSm ad c l w hn hc)
  have hbd := smR_bd l
  have hd : roR l = if 0 < (rectL l).length then (((smR l).1 * (smR l).2 / l.length : Nat) : Int) else -1 := rfl
  rw [hd]
  have hsh := fun h => (rectL_shape (l := l) h).2.1
  generalize smR l = p at HS hbd ⊢
  obtain ⟨a, b⟩ := p
  obtain ⟨ha, hb⟩ : a ≤ 5 ∧ b ≤ 5 := hbd
  have HS : Hid (Calls Tryz.prog 37 #[.slice ad l.length c] w fun e w' => e = .returned (.tuple #[.int .i64 (a : Int), .int .i64 (b : Int), .bool (decide (0 < (rectL l).length))]) ∧ Below w.heap.size w w') := HS
  show Calls Tryz.prog 39 #[.slice ad l.length c] w fun e w' => e = .returned (.int .i64 (if 0 < (rectL l).length then ((a * b / l.length : Nat) : Int) else -1)) ∧ Below w.heap.size w w'
  obtain ⟨X, hX⟩ : ∃ X, X = a * b := ⟨_, rfl⟩
  have hX25 : X ≤ 25 := by rw [hX]; exact Nat.mul_le_mul ha hb
  have m1 : (a : Int) * (b : Int) = (X : Int) := by rw [hX]; norm_cast
  rw [← hX]
  have m3 : IntKind.i64.wrap (X : Int) = (X : Int) := IntWalk.i64_in _ (by omega)
  clear hX hc hd
  by_cases h0 : 0 < (rectL l).length
  · have hl1 := hsh h0
    rw [decide_eq_true h0] at HS
    rw [if_pos h0]
    have hl0 : ¬ ((l.length : Int) = 0) := by omega
    have q1 : (X : Int).tdiv (l.length : Int) = ((X / l.length : Nat) : Int) := by rw [Int.tdiv_eq_ediv_of_nonneg (by omega)]; norm_cast
    have q2 : (X : Int) / (l.length : Int) = ((X / l.length : Nat) : Int) := by norm_cast
    have q3 : X / l.length ≤ 25 := Nat.le_trans (Nat.div_le_self _ _) hX25
    generalize X / l.length = q at q1 q2 q3 ⊢
    have q4 : IntKind.i64.wrap (q : Int) = (q : Int) := IntWalk.i64_in _ (by omega)
    have q5 : wrap64 (q : Int) = (q : Int) := wrap_nat (by omega)
    clear hsh h0
    go_enter Tryz.func39, Tryz.ntmps39
    go_wp2_with fail
    refine HS.out.mono ?_
    rintro e w1 ⟨rfl, hb1⟩
    have HB1 := Lib.hid hb1
    clear hb1
    go_wp2
    go_ret
    exact ⟨rfl, HB1.out⟩
  · rw [decide_eq_false h0] at HS
    rw [if_neg h0]
    clear hsh h0
    go_enter Tryz.func39, Tryz.ntmps39
    go_wp2_with fail
    refine HS.out.mono ?_
    rintro e w1 ⟨rfl, hb1⟩
    have HB1 := Lib.hid hb1
    clear hb1
    go_wp2
    go_ret
    exact ⟨rfl, HB1.out⟩

set_option maxRecDepth 100000 in
set_option maxHeartbeats 3200000 in
theorem implRo (ad : Option Addr) (c : Nat) (l : List Cl) (w : World) (hn : l.length ≤ 1048576) (hT : Tab w) (hc : CellsAt w ad (cls l)) :
    Calls Tryz.prog 40 #[.slice ad l.length c] w fun e w' => e = .returned (.int .i64 (roR l)) ∧ Below w.heap.size w w' := by
  have HS := Lib.hid (implSm ad c l w hn hT hc)
  have hbd := smR_bd l
  have hd : roR l = if 0 < (rectL l).length then (((smR l).1 * (smR l).2 / l.length : Nat) : Int) else -1 := rfl
  rw [hd]
  have hsh := fun h => (rectL_shape (l := l) h).2.1
  generalize smR l = p at HS hbd ⊢
  obtain ⟨a, b⟩ := p
  obtain ⟨ha, hb⟩ : a ≤ 5 ∧ b ≤ 5 := hbd
  have HS : Hid (Calls Tryz.prog 38 #[.slice ad l.length c] w fun e w' => e = .returned (.tuple #[.int .i64 (a : Int), .int .i64 (b : Int), .bool (decide (0 < (rectL l).length))]) ∧ Below w.heap.size w w') := HS
  show Calls Tryz.prog 40 #[.slice ad l.length c] w fun e w' => e = .returned (.int .i64 (if 0 < (rectL l).length then ((a * b / l.length : Nat) : Int) else -1)) ∧ Below w.heap.size w w'
  obtain ⟨X, hX⟩ : ∃ X, X = a * b := ⟨_, rfl⟩
  have hX25 : X ≤ 25 := by rw [hX]; exact Nat.mul_le_mul ha hb
  have m1 : (a : Int) * (b : Int) = (X : Int) := by rw [hX]; norm_cast
  rw [← hX]
  have m3 : IntKind.i64.wrap (X : Int) = (X : Int) := IntWalk.i64_in _ (by omega)
  clear hX hc hd
  by_cases h0 : 0 < (rectL l).length
  · have hl1 := hsh h0
    rw [decide_eq_true h0] at HS
    rw [if_pos h0]
    have hl0 : ¬ ((l.length : Int) = 0) := by omega
    have q1 : (X : Int).tdiv (l.length : Int) = ((X / l.length : Nat) : Int) := by rw [Int.tdiv_eq_ediv_of_nonneg (by omega)]; norm_cast
    have q2 : (X : Int) / (l.length : Int) = ((X / l.length : Nat) : Int) := by norm_cast
    have q3 : X / l.length ≤ 25 := Nat.le_trans (Nat.div_le_self _ _) hX25
    generalize X / l.length = q at q1 q2 q3 ⊢
    have q4 : IntKind.i64.wrap (q : Int) = (q : Int) := IntWalk.i64_in _ (by omega)
    have q5 : wrap64 (q : Int) = (q : Int) := wrap_nat (by omega)
    clear hsh h0
    go_enter Tryz.func40, Tryz.ntmps40
    go_wp2_with fail
    refine HS.out.mono ?_
    rintro e w1 ⟨rfl, hb1⟩
    have HB1 := Lib.hid hb1
    clear hb1
    go_wp2
    go_ret
    exact ⟨rfl, HB1.out⟩
  · rw [decide_eq_false h0] at HS
    rw [if_neg h0]
    clear hsh h0
    go_enter Tryz.func40, Tryz.ntmps40
    go_wp2_with fail
    refine HS.out.mono ?_
    rintro e w1 ⟨rfl, hb1⟩
    have HB1 := Lib.hid hb1
    clear hb1
    go_wp2
    go_ret
    exact ⟨rfl, HB1.out⟩
end Go.Proofs.YtmpcmeeoiapbdaaGreatDoor
