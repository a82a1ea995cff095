/- Shift2: the walk of the program's ShiftMask. -/
import Derived.Test.YtijnkbilfmemcaaPlaces
import Derived.Test.YtijnkbilfmemcaaShift
namespace Go.Proofs.Ytijnkbilfmemcaa
open Go.RowKit

theorem isTorus_yes (a b : Int) (w : World) (ha1 : 1 ≤ a) (ha2 : a ≤ 5) (hb1 : 1 ≤ b) (hb2 : b ≤ 5) :
    Calls Try.prog 33 #[.int .i64 a, .int .i64 b] w fun e w' => e = .returned (.bool true) ∧ w = w' := by
  go_enter Try.func33, Try.ntmps33
  go_wp2_with (go_at_call 34; refine (between_yes _ _ _ _ (by omega) (by omega)).mono ?_; rintro e w' ⟨rfl, rfl⟩)
  all_goals go_ret
  all_goals exact ⟨rfl, rfl⟩
theorem isTorus_no (a b : Int) (w : World) (h : ¬ (1 ≤ a ∧ a ≤ 5 ∧ 1 ≤ b ∧ b ≤ 5)) :
    Calls Try.prog 33 #[.int .i64 a, .int .i64 b] w fun e w' => e = .returned (.bool false) ∧ w = w' := by
  go_enter Try.func33, Try.ntmps33
  by_cases h1 : 1 ≤ a ∧ a ≤ 5
  · go_wp2_with (go_at_call 34; first | (refine (between_yes _ _ _ _ (by omega) (by omega)).mono ?_; rintro e w' ⟨rfl, rfl⟩) | (refine (between_no _ _ _ _ (by omega)).mono ?_; rintro e w' ⟨rfl, rfl⟩))
    all_goals go_ret
    all_goals exact ⟨rfl, rfl⟩
  · go_wp2_with (go_at_call 34; refine (between_no _ _ _ _ (by omega)).mono ?_; rintro e w' ⟨rfl, rfl⟩)
    all_goals go_ret
    all_goals exact ⟨rfl, rfl⟩

theorem placeCells_at (a : Nat) (l : List Nat) (j : Nat) (hj : j < l.length) : (placeCells a l)[j * 2]? = some (.int .i64 ((l[j] % a : Nat) : Int)) ∧ (placeCells a l)[j * 2 + 1]? = some (.int .i64 ((l[j] / a : Nat) : Int)) := by
  induction l generalizing j with
  | nil => simp at hj
  | cons i l ih =>
    have e : placeCells a (i :: l) = [.int .i64 ((i % a : Nat) : Int), .int .i64 ((i / a : Nat) : Int)] ++ placeCells a l := rfl
    rw [e]
    match j with
    | 0 => simp
    | j + 1 =>
      have := ih j (by simpa using hj)
      rw [show (j + 1) * 2 = j * 2 + 2 from by omega, show j * 2 + 2 + 1 = j * 2 + 1 + 2 from by omega]
      simpa using this
theorem smOr_le {a b x y : Nat} (ha : 0 < a) (hb : 0 < b) (hab : a * b ≤ 25) (l : List Nat) : smOr a b x y l < 33554432 := by
  unfold smOr
  have key : ∀ (l : List Nat) (s : Nat), s < 2 ^ 25 → l.foldl (fun s i => s ||| 2 ^ smPos a b x y i) s < 2 ^ 25 := by
    intro l
    induction l with
    | nil => intro s hs; exact hs
    | cons i l ih =>
      intro s hs
      have h2 : smPos a b x y i ≤ 24 := by have := smPos_lt (x := x) (y := y) (i := i) ha hb; omega
      exact ih _ (Nat.or_lt_two_pow hs (Nat.pow_lt_pow_right (by decide) (by omega)))
  exact key l 0 (by decide)

set_option maxHeartbeats 400000 in
theorem implShift (a b m x y p : Nat) (w : World) (ha : 1 ≤ a ∧ a ≤ 5) (hb : 1 ≤ b ∧ b ≤ 5) (hp : wrap64 (2 ^ (a * b)) = (p : Int)) (hp1 : p ≤ 33554432) (hpm : m < 2 ^ (a * b)) (hm : m < p) (hx : x < a) (hy : y < b) :
    Calls Try.prog 10 #[.int .i64 a, .int .i64 b, .int .i64 m, .int .i64 x, .int .i64 y] w fun e w' => e = .returned (.int .i64 (smOr a b x y (smBits (a * b) m))) ∧ Below w.heap.size w w' := by
  obtain ⟨ha1, ha2⟩ := ha
  obtain ⟨hb1, hb2⟩ := hb
  have q0 : a * b ≤ 25 := Nat.mul_le_mul ha2 hb2
  have q1 : 0 ≤ (a : Int) * (b : Int) := by exact Int.mul_nonneg (by omega) (by omega)
  have q2 : (a : Int) * (b : Int) ≤ 25 := by exact_mod_cast q0
  have hplaces := Lib.hid (fun w => places_view a m (a * b) w ⟨by omega, by omega⟩ hpm (by omega))
  clear hpm
  go_enter Try.func10, Try.ntmps10
  go_wp2_with (first | (go_at_call 33; refine (isTorus_yes _ _ _ (by omega) (by omega) (by omega) (by omega)).mono ?_; rintro e w' ⟨rfl, rfl⟩) | (go_at_call 34; refine (between_yes _ _ _ _ (by omega) (by omega)).mono ?_; rintro e w' ⟨rfl, rfl⟩) | fail)
  refine (hplaces.out _).mono ?_
  have hlen := smBits_length_le (a * b) m
  have hlt : ∀ i ∈ smBits (a * b) m, i < a * b := fun i hi => smBits_lt hi
  have HLT := Lib.hid hlt
  clear hlt hplaces
  generalize hl : smBits (a * b) m = l at hlen HLT ⊢
  have HL := Lib.hid hl
  clear hl
  rintro e w1 ⟨ad, cap, rfl, hbw, hcells⟩
  have HC := Lib.hid hcells
  clear hcells
  go_wp2
  go_loopw [11, 46] (fun s i wr => ∃ k : Nat, k ≤ l.length ∧ i = .int .i64 k ∧ s = .int .i64 (smOr a b x y (l.take k)) ∧ Below w.heap.size w wr ∧ Below w1.heap.size w1 wr) (fun _ i _ => l.length - (intOf i).toNat)
  case atStart => exact ⟨0, by omega, rfl, by simp [smOr], hbw, Below.refl _ _⟩
  case round =>
    obtain ⟨k, hk, rfl, rfl, hB, hB1⟩ := hrel
    have hle := smOr_le (a := a) (b := b) (x := x) (y := y) (by omega) (by omega) q0 (l.take k)
    by_cases hlt : k < l.length
    · obtain ⟨g, rfl, hg1, hg2, hc⟩ := HC.out (by omega)
      have hcX := (hB1.cell (p := ⟨g, k * 2, none⟩) hg2).trans (hc _ _ (placeCells_at a l k hlt).1)
      have hcY := (hB1.cell (p := ⟨g, k * 2 + 1, none⟩) hg2).trans (hc _ _ (placeCells_at a l k hlt).2)
      have hi : l[k] < a * b := HLT.out _ (List.getElem_mem hlt)
      have htk : l.take (k + 1) = l.take k ++ [l[k]] := by rw [List.take_succ_eq_append_getElem hlt]
      have HTK := Lib.hid htk
      clear hc htk
      generalize l[k] = i at hcX hcY hi HTK
      have hu : i % a < a := Nat.mod_lt _ (by omega)
      have hv : i / a < b := Nat.div_lt_of_lt_mul hi
      have hpos : smPos a b x y i = (i / a + y) % b * a + (i % a + x) % a := rfl
      have hpl := smPos_lt (a := a) (b := b) (x := x) (y := y) (i := i) (by omega) (by omega)
      have hval := or_pow (smOr a b x y (l.take k)) (smPos a b x y i) (by omega) (by omega)
      have HV := Lib.hid hval
      clear hval hi
      generalize i % a = u at hcX hu hpos
      generalize i / a = v at hcY hv hpos
      have e0 : 0 ≤ ((v : Int) + (y : Int)) % (b : Int) := Int.emod_nonneg _ (by omega)
      have e1 : ((v : Int) + (y : Int)) % (b : Int) < (b : Int) := Int.emod_lt_of_pos _ (by omega)
      have g0 : 0 ≤ ((v : Int) + (y : Int)) % (b : Int) * (a : Int) := Int.mul_nonneg e0 (by omega)
      have g1 : ((v : Int) + (y : Int)) % (b : Int) * (a : Int) ≤ 20 := by
        have := Int.mul_le_mul (a := ((v : Int) + (y : Int)) % (b : Int)) (b := (a : Int)) (c := 4) (d := 5) (by omega) (by omega) (by omega) (by omega)
        omega
      have s0 : 0 ≤ ((u : Int) + (x : Int)) % (a : Int) := Int.emod_nonneg _ (by omega)
      have s1 : ((u : Int) + (x : Int)) % (a : Int) < (a : Int) := Int.emod_lt_of_pos _ (by omega)
      have hps : ((v : Int) + (y : Int)) % (b : Int) * (a : Int) + ((u : Int) + (x : Int)) % (a : Int) = ((smPos a b x y i : Nat) : Int) := by rw [hpos]; simp
      have a0 : ¬ a = 0 := by omega
      have b0 : ¬ b = 0 := by omega
      clear hpos
      go_wp2
      go_big_quiet (fail)
      go_wp2
      go_roundw
      case rel =>
        refine ⟨k + 1, by omega, by go_num, ?_, below_drewN (hB.alloc ?_ _) _, below_drewN (hB1.alloc hB1.size _) _⟩
        · rw [HV.out, HTK.out, smOr_snoc]
        · exact Nat.le_trans hbw.size hB1.size
      case measure => simp [intOf]; omega
    · obtain rfl : k = l.length := by omega
      go_wp2
      go_ret
      refine ⟨?_, hB⟩
      rw [HL.out, List.take_length]
      rfl
end Go.Proofs.Ytijnkbilfmemcaa
