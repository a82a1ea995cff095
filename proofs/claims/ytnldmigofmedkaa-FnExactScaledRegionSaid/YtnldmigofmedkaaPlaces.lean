/- Places: the walk of the program's 'places': the cells of a mask's set bits. -/
import Derived.Test.YtnldmigofmedkaaNum
import Derived.Test.YtnldmigofmedkaaShift0
import Derived.Test.YtnldmigofmedkaaOwn
namespace Go.Proofs.Ytnldmigofmedkaa
open Go.RowKit

def placeCells (a : Nat) (l : List Nat) : List Value := l.flatMap fun i => [.int .i64 ((i % a : Nat) : Int), .int .i64 ((i / a : Nat) : Int)]
theorem placeCells_length (a : Nat) (l : List Nat) : (placeCells a l).length = l.length * 2 := by
  unfold placeCells
  induction l with
  | nil => rfl
  | cons i l ih => simp only [List.flatMap_cons, List.length_append, ih, List.length_cons, List.length_nil]; omega
theorem placeCells_snoc (a : Nat) (l : List Nat) (i : Nat) : placeCells a (l ++ [i]) = placeCells a l ++ [.int .i64 ((i % a : Nat) : Int), .int .i64 ((i / a : Nat) : Int)] := by
  simp [placeCells]

theorem Try.infoCell : (Try.prog.info? 79).map (fun i => (i.zero, i.size, i.bytes)) = some (some (.agg #[.int .i64 0, .int .i64 0]), 2, 16) := by kernel_rfl
theorem Try.elemCell : ElemT Try.prog 54 79 (.agg #[.int .i64 0, .int .i64 0]) 2 16 :=
  ⟨Try.underlying54, info_parts Try.infoCell, rfl, by decide⟩

set_option maxHeartbeats 400000 in
theorem places_any (a m n : Nat) (w : World) (ha : 1 ≤ a ∧ a ≤ 1000) (hm : m < 2 ^ n) (hn : n ≤ 60) :
    Calls Try.prog 76 #[.int .i64 a, .int .i64 m] w fun e w' => ∃ v, e = .returned v ∧ w'.ownsRow w.heap.size 79 2 v (smBits n m).length (placeCells a (smBits n m)) ∧ Below w.heap.size w w' := by
  obtain ⟨ha1, ha2⟩ := ha
  have hm' : m < 1152921504606846976 := Nat.lt_of_lt_of_le hm (Nat.pow_le_pow_right (by decide) hn)
  have HM := Lib.hid hm
  clear hm
  go_enter Try.func76, Try.ntmps76
  go_wp2
  go_loopw [5, 6] (fun v i wr => ∃ k : Nat, k ≤ n ∧ i = .int .i64 k ∧ wr.ownsRow w.heap.size 79 2 v (smBits k m).length (placeCells a (smBits k m)) ∧ Below w.heap.size w wr) (fun _ i _ => n - (intOf i).toNat)
  case atStart => exact ⟨0, by omega, rfl, World.ownsRow_nil _ _ _ _, Below.refl _ _⟩
  case round =>
    obtain ⟨k, hk, rfl, hown, hb⟩ := hrel
    have HSB := Lib.hid (smBits_succ k m)
    have hlen := smBits_length_le k m
    by_cases hz : m / 2 ^ k = 0
    · have hz1 : ((m : Int) / 2 ^ k != 0) = false := by
        have e : ((m : Int) / 2 ^ k) = ((m / 2 ^ k : Nat) : Int) := by norm_cast
        rw [e, hz]; rfl
      have HZ := Lib.hid hz
      clear hz
      go_wp2
      go_ret
      have he : smBits n m = smBits k m := smBits_of_zero k m n hk HZ.out
      rw [he]
      exact ⟨_, rfl, hown, hb⟩
    · have hlt : k < n := by
        rcases Nat.lt_or_ge k n with h | h
        · exact h
        · exact absurd (Nat.div_eq_of_lt (Nat.lt_of_lt_of_le HM.out (Nat.pow_le_pow_right (by decide) h))) hz
      have hz1 : ((m : Int) / 2 ^ k != 0) = true := by
        have e : ((m : Int) / 2 ^ k) = ((m / 2 ^ k : Nat) : Int) := by norm_cast
        rw [e]; simp; omega
      have HZ := Lib.hid hz
      clear hz
      by_cases hbit : m.testBit k = true
      · have hb1 : bits .and .i64 ((m : Int) / 2 ^ k) 1 = 1 := by rw [and_shr_one m k (by omega), if_pos hbit]
        have a0 : ¬ a = 0 := by omega
        have d0 : 0 ≤ (k : Int) / (a : Int) := Int.ediv_nonneg (by omega) (by omega)
        have d1 : (k : Int) / (a : Int) ≤ 60 := Int.le_trans (Int.ediv_le_self _ (by omega)) (by omega)
        have r0 : 0 ≤ (k : Int) % (a : Int) := Int.emod_nonneg _ (by omega)
        have r1 : (k : Int) % (a : Int) < (a : Int) := Int.emod_lt_of_pos _ (by omega)
        go_wp2
        have t1 : IntKind.i64.wrap ((k : Int) / (a : Int)) = (k : Int) / (a : Int) := IntWalk.i64_in _ (by omega)
        have t2 : (k : Int).tmod (a : Int) = (k : Int) % (a : Int) := Int.tmod_eq_emod_of_nonneg (by omega)
        have hcl := placeCells_length a (smBits k m)
        go_region_law (refine step_app1 rfl (.tmp 18) (.tmp 26) 54 rfl w.heap.size 79 _ 2 16 Try.elemCell _ _ _ _ _ _ rfl rfl rfl hown (by rfl) (by simp [Value.oneCell']) (by unfold maxLen; omega) (by omega) (by have := hb.size; omega) ?_; intro g cap w1 q1 q2 q3 q4 q5 q6)
        go_wp2
        go_roundw
        case rel =>
          refine ⟨k + 1, by omega, by go_num, ?_, hb.trans (q2.mono (Nat.le_refl _))⟩
          rw [HSB.out, if_pos hbit, placeCells_snoc]
          simpa using q1
        case measure => simp [intOf]; omega
      · have hb1 : bits .and .i64 ((m : Int) / 2 ^ k) 1 = 0 := by rw [and_shr_one m k (by omega), if_neg hbit]
        go_wp2
        go_roundw
        case rel => exact ⟨k + 1, by omega, by go_num, by rw [HSB.out, if_neg hbit, List.append_nil]; exact hown, hb⟩
        case measure => simp [intOf]; omega
theorem places_view (a m n : Nat) (w : World) (ha : 1 ≤ a ∧ a ≤ 1000) (hm : m < 2 ^ n) (hn : n ≤ 60) :
    Calls Try.prog 76 #[.int .i64 a, .int .i64 m] w fun e w' => ∃ ad cap, e = .returned (.slice ad (smBits n m).length cap) ∧ Below w.heap.size w w' ∧
      (0 < (smBits n m).length → ∃ g, ad = some ⟨g, 0, none⟩ ∧ w.heap.size ≤ g ∧ g < w'.heap.size ∧ ∀ j u, (placeCells a (smBits n m))[j]? = some u → w'.cell? ⟨g, j, none⟩ = some u) := by
  refine (places_any a m n w ha hm hn).mono ?_
  rintro e w' ⟨v, rfl, hown, hb⟩
  obtain ⟨ad, cap, rfl, h⟩ := ownsRow_view hown
  exact ⟨ad, cap, rfl, hb, h⟩

end Go.Proofs.Ytnldmigofmedkaa
