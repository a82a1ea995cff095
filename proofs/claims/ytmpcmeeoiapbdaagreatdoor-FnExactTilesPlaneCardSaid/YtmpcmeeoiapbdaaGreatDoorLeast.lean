/- Least: the walk of least: of pairs of sides the one with the least product. -/
import Derived.Test.YtmpcmeeoiapbdaaGreatDoorPairs0
import Derived.BigQuiet
import Derived.IntWalk
namespace Go.Proofs.YtmpcmeeoiapbdaaGreatDoor
open Go.RowKit

attribute [local go_sem ↓] Go.wp_at_zero Go.wp_at_succ

theorem leastTo_first (l : List (Nat × Nat)) (h : 0 < l.length) : leastTo l 1 = l[0] := by
  rw [leastTo, if_pos (Or.inl rfl)]
  simp [List.getD_eq_getElem?_getD, h]
theorem leastTo_yes {l : List (Nat × Nat)} {k : Nat} (hk : k < l.length) (h : betterP l[k] (leastTo l k) = true) : leastTo l (k + 1) = l[k] := by
  have e : l.getD k (0, 0) = l[k] := by simp [List.getD_eq_getElem?_getD, hk]
  rw [leastTo, e, if_pos (Or.inr h)]
theorem leastTo_no {l : List (Nat × Nat)} {k : Nat} (hk : k < l.length) (h0 : ¬ k = 0) (h : betterP l[k] (leastTo l k) = false) : leastTo l (k + 1) = leastTo l k := by
  have e : l.getD k (0, 0) = l[k] := by simp [List.getD_eq_getElem?_getD, hk]
  rw [leastTo, e, if_neg (by rintro (q | q); exact h0 q; rw [h] at q; cases q)]

set_option maxRecDepth 100000 in
set_option maxHeartbeats 3200000 in
theorem implLst (ad : Option Addr) (c : Nat) (ps : List (Nat × Nat)) (w : World) (hn : ps.length ≤ 100) (hb : ∀ p ∈ ps, p.1 ≤ 5 ∧ p.2 ≤ 5) (hc : MatAt w ad (rowsP ps)) :
    Calls Tryz.prog 50 #[.slice ad ps.length c] w fun e w' => e = .returned (.tuple #[.int .i64 (leastL ps).1, .int .i64 (leastL ps).2, .bool (decide (0 < ps.length))]) ∧ Below w.heap.size w w' := by
  have HC := Lib.hid hc
  have HBD := Lib.hid hb
  have HY := Lib.hid (fun k (hk : k < ps.length) h => leastTo_yes hk h)
  have HN := Lib.hid (fun k (hk : k < ps.length) h0 h => leastTo_no hk h0 h)
  have HF := Lib.hid (fun (h : 0 < ps.length) => leastTo_first ps h)
  have hdef : leastL ps = leastTo ps ps.length := rfl
  rw [hdef]
  have hrl := rowsP_length ps
  have HRL := Lib.hid hrl
  clear hc hb hdef hrl
  go_enter Tryz.func50, Tryz.ntmps50
  go_wp2
  go_loopw [5, 6, 13] (fun av bv i wr => ∃ k a b : Nat, k ≤ ps.length ∧ i = .int .i64 k ∧ av = .int .i64 a ∧ bv = .int .i64 b ∧ leastTo ps k = (a, b) ∧ (a ≤ 5 ∧ b ≤ 5) ∧ Below w.heap.size w wr) (fun _ _ i _ => ps.length - (intOf i).toNat)
  case atStart => exact ⟨0, 0, 0, Nat.zero_le _, rfl, rfl, rfl, rfl, ⟨Nat.zero_le _, Nat.zero_le _⟩, Below.refl _ _⟩
  case round =>
    obtain ⟨k, a, b, hk, rfl, rfl, rfl, hl, hab, hb⟩ := hrel
    have HL := Lib.hid hl
    have HB := Lib.hid hb
    have hszr := hb.size
    clear hl hb
    by_cases hlt : k < ps.length
    · obtain ⟨g, off, ai, ci, rfl, hg, x0, hrow⟩ := HC.out.row (i := k) (by rw [HRL.out]; exact hlt)
      have e0 := rowsP_at ps k hlt
      rw [e0] at x0 hrow
      obtain ⟨g2, off2, rfl, hg2, hcc⟩ := hrow.open (by simp [ints])
      have y0 := hcc 0 _ rfl
      have y1 := hcc 1 _ rfl
      rw [Nat.add_zero] at y0
      have x0 := (HB.out.cell (p := ⟨g, off + k, none⟩) hg).trans x0
      have y0 := (HB.out.cell (p := ⟨g2, off2, none⟩) hg2).trans y0
      have y1 := (HB.out.cell (p := ⟨g2, off2 + 1, none⟩) hg2).trans y1
      have hbd := HBD.out _ (List.getElem_mem hlt)
      have HYK := Lib.hid (HY.out k hlt)
      have HNK := Lib.hid (HN.out k hlt)
      have i1 : (k : Int) < (ps.length : Int) := by omega
      have HP0 := Lib.hid (fun (h : k = 0) => (by have := HF.out (by omega); subst h; exact this : leastTo ps (k + 1) = ps[k]))
      clear hcc hrow e0
      rw [HL.out] at HYK HNK
      generalize ps[k] = p at x0 y0 y1 hbd HYK HNK HP0
      obtain ⟨p0, p1⟩ := p
      obtain ⟨hp0, hp1⟩ : p0 ≤ 5 ∧ p1 ≤ 5 := hbd
      have x0 : wr.cell? ⟨g, off + k, none⟩ = some (.slice (some ⟨g2, off2, none⟩) 2 ci) := x0
      have y0 : wr.cell? ⟨g2, off2, none⟩ = some (.int .i64 (p0 : Int)) := y0
      have y1 : wr.cell? ⟨g2, off2 + 1, none⟩ = some (.int .i64 (p1 : Int)) := y1
      obtain ⟨X, hX⟩ : ∃ X, X = p0 * p1 := ⟨_, rfl⟩
      obtain ⟨Y, hY⟩ : ∃ Y, Y = a * b := ⟨_, rfl⟩
      have hX25 : X ≤ 25 := by rw [hX]; exact Nat.mul_le_mul hp0 hp1
      have hY25 : Y ≤ 25 := by rw [hY]; exact Nat.mul_le_mul hab.1 hab.2
      have m1 : (p0 : Int) * (p1 : Int) = (X : Int) := by rw [hX]; norm_cast
      have m2 : (a : Int) * (b : Int) = (Y : Int) := by rw [hY]; norm_cast
      have m3 : IntKind.i64.wrap (X : Int) = (X : Int) := IntWalk.i64_in _ (by omega)
      have m4 : IntKind.i64.wrap (Y : Int) = (Y : Int) := IntWalk.i64_in _ (by omega)
      have m5 : wrap64 (X : Int) = (X : Int) := wrap_nat (by omega)
      have m6 : wrap64 (Y : Int) = (Y : Int) := wrap_nat (by omega)
      have hbt : betterP (p0, p1) (a, b) = (decide (X < Y) || (decide (X = Y) && decide (p0 < a))) := by rw [hX, hY]; rfl
      rw [hbt] at HYK HNK
      clear hX hY hbt
      by_cases hk0 : k = 0
      · subst hk0
        have HV := Lib.hid (HP0.out rfl)
        rw [Nat.add_zero] at x0
        clear HYK HNK HP0
        go_wp2
        go_big_quiet (fail)
        go_wp2
        go_big_quiet (fail)
        go_wp2
        go_roundw
        case rel => exact ⟨1, p0, p1, hlt, by go_num, rfl, rfl, HV.out, ⟨hp0, hp1⟩, below_drewN HB.out _⟩
        case measure => simp [intOf]; omega
      · have kb : ((k : Int) == 0) = false := by simp; omega
        have kbn : (k == 0) = false := by simp; omega
        by_cases hxy : X < Y
        · have HV := Lib.hid (HYK.out (by rw [decide_eq_true hxy]; rfl))
          have dxy : decide ((X : Int) < (Y : Int)) = true := decide_eq_true (Int.ofNat_lt.2 hxy)
          have dxyn : decide (X < Y) = true := decide_eq_true hxy
          clear HYK HNK HP0 hxy
          go_wp2
          go_big_quiet (fail)
          go_wp2
          go_big_quiet (fail)
          go_wp2
          go_roundw
          case rel => exact ⟨k + 1, p0, p1, hlt, by go_num, rfl, rfl, HV.out, ⟨hp0, hp1⟩, below_drewN HB.out _⟩
          case measure => simp [intOf]; omega
        · have dxy : decide ((X : Int) < (Y : Int)) = false := decide_eq_false (fun h => hxy (Int.ofNat_lt.1 h))
          have dxyn : decide (X < Y) = false := decide_eq_false hxy
          by_cases he : X = Y
          · have de : ((X : Int) == (Y : Int)) = true := by rw [he]; exact beq_self_eq_true _
            have den : (X == Y) = true := by rw [he]; exact beq_self_eq_true _
            by_cases hpa : p0 < a
            · have HV := Lib.hid (HYK.out (by rw [decide_eq_true he, decide_eq_true hpa]; simp))
              have dp : decide ((p0 : Int) < (a : Int)) = true := decide_eq_true (Int.ofNat_lt.2 hpa)
              have dpn : decide (p0 < a) = true := decide_eq_true hpa
              clear HYK HNK HP0 hxy he hpa
              go_wp2
              go_big_quiet (fail)
              go_wp2
              go_big_quiet (fail)
              go_wp2
              go_roundw
              case rel => exact ⟨k + 1, p0, p1, hlt, by go_num, rfl, rfl, HV.out, ⟨hp0, hp1⟩, below_drewN HB.out _⟩
              case measure => simp [intOf]; omega
            · have HV := Lib.hid (HNK.out hk0 (by rw [decide_eq_false hxy, decide_eq_false hpa]; simp))
              have dp : decide ((p0 : Int) < (a : Int)) = false := decide_eq_false (fun h => hpa (Int.ofNat_lt.1 h))
              have dpn : decide (p0 < a) = false := decide_eq_false hpa
              clear HYK HNK HP0 hxy he hpa
              go_wp2
              go_big_quiet (fail)
              go_wp2
              go_roundw
              case rel => exact ⟨k + 1, a, b, hlt, by go_num, rfl, rfl, HV.out, hab, below_drewN HB.out _⟩
              case measure => simp [intOf]; omega
          · have HV := Lib.hid (HNK.out hk0 (by rw [decide_eq_false hxy, decide_eq_false he]; simp))
            have de : ((X : Int) == (Y : Int)) = false := beq_eq_false_iff_ne.2 (fun h => he (Int.ofNat_inj.1 h))
            have den : (X == Y) = false := beq_eq_false_iff_ne.2 he
            clear HYK HNK HP0 hxy he
            go_wp2
            go_big_quiet (fail)
            go_wp2
            go_roundw
            case rel => exact ⟨k + 1, a, b, hlt, by go_num, rfl, rfl, HV.out, hab, below_drewN HB.out _⟩
            case measure => simp [intOf]; omega
    · obtain rfl : k = ps.length := by omega
      have hd : decide ((0 : Int) < (ps.length : Int)) = decide (0 < ps.length) := by rw [Bool.eq_iff_iff]; simp only [decide_eq_true_eq]; omega
      go_wp2
      go_ret3
      rw [HL.out]
      first | exact ⟨rfl, HB.out⟩ | exact ⟨by rw [← hd], HB.out⟩ | exact ⟨by simp, HB.out⟩
end Go.Proofs.YtmpcmeeoiapbdaaGreatDoor
