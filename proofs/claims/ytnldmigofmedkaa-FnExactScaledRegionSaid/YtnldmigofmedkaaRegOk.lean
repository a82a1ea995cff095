/- RegOk: the walks of IsRegion, the reference's and the program's. -/
import Derived.Test.YtnldmigofmedkaaRegH
namespace Go.Proofs.Ytnldmigofmedkaa
open Go.RowKit

def FineRow (N : Nat) (x : Int) : Prop := 0 ≤ x ∧ x < (N : Int)
theorem reg_iff {B N : Nat} {xs : List Int} (hN : N = 2 ^ B) (hB : 1 ≤ B ∧ B ≤ 6) (hl : 1 ≤ xs.length ∧ xs.length ≤ 6) : Reg (B : Int) xs ↔ ∀ x ∈ xs, FineRow N x := by
  unfold Reg FineRow
  have e : ((2 : Int) ^ ((B : Int)).toNat) = (N : Int) := by rw [hN, Int.toNat_natCast]; norm_cast
  rw [e]
  constructor
  · exact fun h => h.2.2
  · exact fun h => ⟨by omega, hl, h⟩
theorem pow_wrap {B : Nat} (hB : B ≤ 60) : wrap64 ((2 : Int) ^ B) = ((2 ^ B : Nat) : Int) := by
  have h : 2 ^ B ≤ 2 ^ 60 := Nat.pow_le_pow_right (by decide) hB
  have e : ((2 : Int) ^ B) = ((2 ^ B : Nat) : Int) := by norm_cast
  rw [e]
  generalize 2 ^ B = q at h
  exact IntWalk.wrap64_in (q : Int) (by omega)
theorem fine_snoc {N : Nat} {xs : List Int} {k : Nat} (hk : k < xs.length) (h : ∀ x ∈ xs.take k, FineRow N x) (hx : FineRow N xs[k]) : ∀ x ∈ xs.take (k + 1), FineRow N x := by
  intro x hx'
  rw [List.take_succ_eq_append_getElem hk, List.mem_append, List.mem_singleton] at hx'
  rcases hx' with q | q
  · exact h x q
  · rw [q]; exact hx
theorem int_le_nat {b : Int} (h1 : 1 ≤ b) (h2 : b ≤ 6) : ∃ B : Nat, b = (B : Int) ∧ 1 ≤ B ∧ B ≤ 6 := ⟨b.toNat, by omega, by omega, by omega⟩

set_option maxHeartbeats 1600000 in
theorem specReg (b : Int) (ad : Option Addr) (c : Nat) (xs : List Int) (w : World) (hn : xs.length ≤ 1048576) (hc : CellsAt w ad (ints xs)) :
    Calls Try.prog 53 #[.agg #[.int .i64 b, .slice ad xs.length c]] w fun e w' => e = .returned (.bool (decide (Reg b xs))) ∧ Below w.heap.size w w' := by
  have hb0 : Below w.heap.size w (w.alloc (.cells #[.int .i64 b, .slice ad xs.length c] 44)) := (Below.refl _ _).alloc (Nat.le_refl _) _
  by_cases h1 : 1 ≤ b ∧ b ≤ 6
  · by_cases h2 : 1 ≤ xs.length ∧ xs.length ≤ 6
    · obtain ⟨B, rfl, hB1, hB2⟩ := int_le_nat h1.1 h1.2
      obtain ⟨N, hN⟩ : ∃ N : Nat, N = 2 ^ B := ⟨_, rfl⟩
      have hiff := reg_iff (xs := xs) hN ⟨hB1, hB2⟩ h2
      have hpw := pow_wrap (B := B) (by omega)
      rw [← hN] at hpw
      have hN64 : N ≤ 64 := by rw [hN]; exact Nat.pow_le_pow_right (by decide) hB2
      have HC := Lib.hid hc
      have HB := Lib.hid hb0
      have HIFF := Lib.hid hiff
      obtain ⟨h21, h22⟩ := h2
      have hl := ints_length xs
      clear hc hb0 hiff hN h1
      go_enter Try.func53, Try.ntmps53
      go_wp2_with (first | (go_at_call 42; refine (l1In_yes _ _ _ _ (by omega) (by omega)).mono ?_; rintro e w' ⟨rfl, rfl⟩))
      go_loopw [3] (fun i wr => ∃ k : Nat, k ≤ xs.length ∧ i = .int .i64 k ∧ (∀ x ∈ xs.take k, FineRow N x) ∧ ∃ n, wr = (w.alloc (.cells #[.int .i64 B, .slice ad xs.length c] 44)).drewN n) (fun i _ => xs.length - (intOf i).toNat)
      case atStart => exact ⟨0, by omega, rfl, by simp, 0, rfl⟩
      case round =>
        obtain ⟨k, hk, rfl, hf, n, rfl⟩ := hrel
        have HF := Lib.hid hf
        clear hf
        by_cases hlt : k < xs.length
        · obtain ⟨g, off, rfl, hg, hcc⟩ := HC.out.open (by omega)
          have hx := hcc k _ (ints_at xs k hlt)
          have x0 := (HB.out.cell (p := ⟨g, off + k, none⟩) hg).trans hx
          obtain ⟨x, hxx⟩ : ∃ x, x = xs[k] := ⟨_, rfl⟩
          rw [← hxx] at x0
          have HX := Lib.hid hxx
          clear hcc hx hxx
          by_cases hx1 : x < 0
          · have d1 : decide (x < 0) = true := by simp [hx1]
            go_wp2
            go_big_quiet (fail)
            go_wp2
            go_ret
            have hno : ¬ Reg (B : Int) xs := fun h => by
              have := (HIFF.out.1 h _ (List.getElem_mem hlt)).1
              rw [← HX.out] at this
              omega
            rw [decide_eq_false hno]
            exact ⟨rfl, below_drewN (below_drewN HB.out _) _⟩
          · have d1 : decide (x < 0) = false := by simp; omega
            by_cases hx2 : x < (N : Int)
            · have d2 : decide ((N : Int) ≤ x) = false := by simp; omega
              go_wp2
              go_big_quiet (fail)
              go_wp2
              go_roundw
              case rel => exact ⟨k + 1, by omega, by go_num, fine_snoc hlt HF.out (by rw [← HX.out]; exact ⟨by omega, hx2⟩), _, rfl⟩
              case measure => simp [intOf]; omega
            · have d2 : decide ((N : Int) ≤ x) = true := by simp; omega
              go_wp2
              go_big_quiet (fail)
              go_wp2
              go_ret
              have hno : ¬ Reg (B : Int) xs := fun h => by
                have := (HIFF.out.1 h _ (List.getElem_mem hlt)).2
                rw [← HX.out] at this
                omega
              rw [decide_eq_false hno]
              exact ⟨rfl, below_drewN (below_drewN HB.out _) _⟩
        · obtain rfl : k = xs.length := by omega
          go_wp2
          go_ret
          have hyes : Reg (B : Int) xs := HIFF.out.2 (by have := HF.out; rwa [List.take_length] at this)
          rw [decide_eq_true hyes]
          exact ⟨rfl, below_drewN HB.out _⟩
    · have hno : ¬ Reg b xs := fun h => h2 h.2.1
      rw [decide_eq_false hno]
      have h3 : (xs.length : Int) < 1 ∨ 6 < (xs.length : Int) := by omega
      have H3 := Lib.hid h3
      have HB := Lib.hid hb0
      obtain ⟨h11, h12⟩ := h1
      clear hc hb0 h2 h3 hno
      go_enter Try.func53, Try.ntmps53
      go_wp2_with fail
      refine (l1In_yes _ _ _ _ h11 h12).mono ?_
      rintro e w' ⟨rfl, rfl⟩
      go_wp2_with fail
      refine (l1In_no _ _ _ _ H3.out).mono ?_
      rintro e w' ⟨rfl, rfl⟩
      go_wp2
      go_ret
      exact ⟨rfl, HB.out⟩
  · have hno : ¬ Reg b xs := fun h => h1 h.1
    rw [decide_eq_false hno]
    have h3 : b < 1 ∨ 6 < b := by omega
    have H3 := Lib.hid h3
    have HB := Lib.hid hb0
    clear hc hb0 h1 h3 hno
    go_enter Try.func53, Try.ntmps53
    go_wp2_with fail
    refine (l1In_no _ _ _ _ H3.out).mono ?_
    rintro e w' ⟨rfl, rfl⟩
    go_wp2
    go_ret
    exact ⟨rfl, HB.out⟩

theorem isSide_any (n : Int) (w : World) : Calls Try.prog 64 #[.int .i64 n] w fun e w' => e = .returned (.bool (decide (1 ≤ n) && decide (n ≤ 6))) ∧ w = w' := by
  go_enter Try.func64, Try.ntmps64
  go_wp2_with fail
  refine (between_any _ _ _ _).mono ?_
  rintro e w' ⟨rfl, rfl⟩
  go_wp2
  go_ret
  exact ⟨rfl, rfl⟩
theorem isSide_yes (n : Int) (w : World) (h1 : 1 ≤ n) (h2 : n ≤ 6) : Calls Try.prog 64 #[.int .i64 n] w fun e w' => e = .returned (.bool true) ∧ w = w' := by
  have e : (decide (1 ≤ n) && decide (n ≤ 6)) = true := by simp [h1, h2]
  exact (isSide_any n w).mono fun _ _ ⟨h, hw⟩ => ⟨by rw [h, e], hw⟩
theorem isSide_no (n : Int) (w : World) (h : n < 1 ∨ 6 < n) : Calls Try.prog 64 #[.int .i64 n] w fun e w' => e = .returned (.bool false) ∧ w = w' := by
  have e : (decide (1 ≤ n) && decide (n ≤ 6)) = false := by simp; omega
  exact (isSide_any n w).mono fun _ _ ⟨h, hw⟩ => ⟨by rw [h, e], hw⟩

set_option maxHeartbeats 1600000 in
theorem implReg (b : Int) (ad : Option Addr) (c : Nat) (xs : List Int) (w : World) (hn : xs.length ≤ 1048576) (hc : CellsAt w ad (ints xs)) :
    Calls Try.prog 55 #[.agg #[.int .i64 b, .slice ad xs.length c]] w fun e w' => e = .returned (.bool (decide (Reg b xs))) ∧ Below w.heap.size w w' := by
  have hb0 : Below w.heap.size w (w.alloc (.cells #[.int .i64 b, .slice ad xs.length c] 44)) := (Below.refl _ _).alloc (Nat.le_refl _) _
  by_cases h1 : 1 ≤ b ∧ b ≤ 6
  · by_cases h2 : 1 ≤ xs.length ∧ xs.length ≤ 6
    · obtain ⟨B, rfl, hB1, hB2⟩ := int_le_nat h1.1 h1.2
      obtain ⟨N, hN⟩ : ∃ N : Nat, N = 2 ^ B := ⟨_, rfl⟩
      have hiff := reg_iff (xs := xs) hN ⟨hB1, hB2⟩ h2
      have hpw := pow_wrap (B := B) (by omega)
      rw [← hN] at hpw
      have hN64 : N ≤ 64 := by rw [hN]; exact Nat.pow_le_pow_right (by decide) hB2
      have HC := Lib.hid hc
      have HB := Lib.hid hb0
      have HIFF := Lib.hid hiff
      obtain ⟨h21, h22⟩ := h2
      have hl := ints_length xs
      clear hc hb0 hiff hN h1
      go_enter Try.func55, Try.ntmps55
      go_wp2_with (first | (go_at_call 64; refine (isSide_yes _ _ (by omega) (by omega)).mono ?_; rintro e w' ⟨rfl, rfl⟩))
      go_loopw [19] (fun i wr => ∃ k : Nat, k ≤ xs.length ∧ i = .int .i64 k ∧ (∀ x ∈ xs.take k, FineRow N x) ∧ wr = w.alloc (.cells #[.int .i64 B, .slice ad xs.length c] 44)) (fun i _ => xs.length - (intOf i).toNat)
      case atStart => exact ⟨0, by omega, rfl, by simp, rfl⟩
      case round =>
        obtain ⟨k, hk, rfl, hf, rfl⟩ := hrel
        have HF := Lib.hid hf
        clear hf
        by_cases hlt : k < xs.length
        · obtain ⟨g, off, rfl, hg, hcc⟩ := HC.out.open (by omega)
          have hx := hcc k _ (ints_at xs k hlt)
          have x0 := (HB.out.cell (p := ⟨g, off + k, none⟩) hg).trans hx
          obtain ⟨x, hxx⟩ : ∃ x, x = xs[k] := ⟨_, rfl⟩
          rw [← hxx] at x0
          have HX := Lib.hid hxx
          clear hcc hx hxx
          by_cases hx1 : x < 0
          · have d1 : decide (x < 0) = true := by simp [hx1]
            go_wp2
            go_ret
            have hno : ¬ Reg (B : Int) xs := fun h => by
              have := (HIFF.out.1 h _ (List.getElem_mem hlt)).1
              rw [← HX.out] at this
              omega
            rw [decide_eq_false hno]
            exact ⟨rfl, HB.out⟩
          · have d1 : decide (x < 0) = false := by simp; omega
            by_cases hx2 : x < (N : Int)
            · have d2 : decide ((N : Int) ≤ x) = false := by simp; omega
              go_wp2
              go_roundw
              case rel => exact ⟨k + 1, by omega, by go_num, fine_snoc hlt HF.out (by rw [← HX.out]; exact ⟨by omega, hx2⟩), trivial⟩
              case measure => simp [intOf]; omega
            · have d2 : decide ((N : Int) ≤ x) = true := by simp; omega
              go_wp2
              go_ret
              have hno : ¬ Reg (B : Int) xs := fun h => by
                have := (HIFF.out.1 h _ (List.getElem_mem hlt)).2
                rw [← HX.out] at this
                omega
              rw [decide_eq_false hno]
              exact ⟨rfl, HB.out⟩
        · obtain rfl : k = xs.length := by omega
          go_wp2
          go_ret
          have hyes : Reg (B : Int) xs := HIFF.out.2 (by have := HF.out; rwa [List.take_length] at this)
          rw [decide_eq_true hyes]
          exact ⟨rfl, HB.out⟩
    · have hno : ¬ Reg b xs := fun h => h2 h.2.1
      rw [decide_eq_false hno]
      have h3 : (xs.length : Int) < 1 ∨ 6 < (xs.length : Int) := by omega
      have H3 := Lib.hid h3
      have HB := Lib.hid hb0
      obtain ⟨h11, h12⟩ := h1
      clear hc hb0 h2 h3 hno
      go_enter Try.func55, Try.ntmps55
      go_wp2_with fail
      refine (isSide_yes _ _ h11 h12).mono ?_
      rintro e w' ⟨rfl, rfl⟩
      go_wp2_with fail
      refine (isSide_no _ _ H3.out).mono ?_
      rintro e w' ⟨rfl, rfl⟩
      go_wp2
      go_ret
      exact ⟨rfl, HB.out⟩
  · have hno : ¬ Reg b xs := fun h => h1 h.1
    rw [decide_eq_false hno]
    have h3 : b < 1 ∨ 6 < b := by omega
    have H3 := Lib.hid h3
    have HB := Lib.hid hb0
    clear hc hb0 h1 h3 hno
    go_enter Try.func55, Try.ntmps55
    go_wp2_with fail
    refine (isSide_no _ _ H3.out).mono ?_
    rintro e w' ⟨rfl, rfl⟩
    go_wp2
    go_ret
    exact ⟨rfl, HB.out⟩
end Go.Proofs.Ytnldmigofmedkaa
