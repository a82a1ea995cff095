/- AllMarkI: parts laid together: MarkInts, MarkFar, MarkReg. -/
import Derived.Test.YtjklclegkjnegaaAllBase

/- MarkInts: the walks of the helpers that write marks into a list of integers and look for them. -/
namespace Go.Proofs.Ytjklclegkjnegaa
open Go.RowKit

set_option maxHeartbeats 400000 in
theorem markIntS_any (lo hi : Nat) (ad : Option Addr) (cap : Nat) (cs : List Value) (k : Nat) (w : World) (hn : cs.length ≤ 1048576) (hk : k ≤ 1048576) (ho : Owned w lo hi 3 1 ad cs.length cap cs) :
    Calls Try.prog 13 #[.slice ad cs.length cap, .int .i64 k] w fun e w' => e = .returned (.int .i64 ((k + cs.length : Nat) : Int)) ∧ Owned w' lo hi 3 1 ad cs.length cap (marks k cs.length) ∧ Touched lo hi w w' := by
  have HO := Lib.hid ho
  clear ho
  go_enter Try.func13, Try.ntmps13
  go_wp2
  go_loopw [1, 5] (fun x i wr => ∃ j : Nat, j ≤ cs.length ∧ i = .int .i64 j ∧ x = .int .i64 ((k + j : Nat) : Int) ∧ Owned wr lo hi 3 1 ad cs.length cap (partly k cs j) ∧ Touched lo hi w wr) (fun _ i _ => cs.length - (intOf i).toNat)
  case atStart => exact ⟨0, by omega, rfl, rfl, by rw [partly_zero]; exact HO.out, Touched.refl _ _ _⟩
  case round =>
    obtain ⟨j, hj, rfl, rfl, ho, ht⟩ := hrel
    have HW := Lib.hid ho
    clear ho
    by_cases hlt : j < cs.length
    · obtain ⟨g, rfl, hg1, hg2⟩ := HW.out.lo_hi (by omega)
      have hcell : ∃ u, wr.cell? ⟨g, j, none⟩ = some u := by
        rw [HW.out.1.cellAt j (by omega)]
        exact ⟨(partly k cs j)[j]'(by rw [partly_length _ _ _ hj]; exact hlt), by simp⟩
      obtain ⟨u, hcell⟩ := hcell
      have hfz := HW.out.1.frozenAt j
      have HS := Lib.hid (partly_set k cs j hlt)
      go_wp2
      go_roundw
      case rel =>
        refine ⟨j + 1, by omega, by go_num, by go_num, ?_, ht.setCell hg1 hg2 _⟩
        have q := HW.out.1.stored j (.int .i64 ((k + j : Nat) : Int))
        refine ⟨?_, HW.out.2⟩
        have q1 := q.1
        rw [HS.out] at q1
        first | exact q1 | simpa using q1
      case measure => simp [intOf]; omega
    · obtain rfl : j = cs.length := by omega
      go_wp2
      go_ret
      have h2 := HW.out
      rw [partly_all] at h2
      first | exact ⟨rfl, h2, ht⟩ | exact ⟨by simp, h2, ht⟩

set_option maxHeartbeats 400000 in
theorem heldIntS_any (ad : Option Addr) (cap n k : Nat) (w : World) (hn : n ≤ 1048576) (hk : k ≤ 1048576) (hc : CellsAt w ad (marks k n)) :
    Calls Try.prog 14 #[.slice ad n cap, .int .i64 k] w fun e w' => e = .returned (.int .i64 ((k + n : Nat) : Int)) ∧ ∃ m, w' = w.drewN m := by
  have HC := Lib.hid hc
  clear hc
  go_enter Try.func14, Try.ntmps14
  go_wp2
  go_loopw [1, 5] (fun x i wr => ∃ j : Nat, j ≤ n ∧ i = .int .i64 j ∧ x = .int .i64 ((k + j : Nat) : Int) ∧ ∃ m, wr = w.drewN m) (fun _ i _ => n - (intOf i).toNat)
  case atStart => exact ⟨0, by omega, rfl, rfl, 0, rfl⟩
  case round =>
    obtain ⟨j, hj, rfl, rfl, m, rfl⟩ := hrel
    by_cases hlt : j < n
    · obtain ⟨g, off, rfl, hg, hcc⟩ := HC.out.open (by rw [marks_length]; omega)
      have hx := hcc j _ (marks_at hlt)
      clear hcc
      have hne : (((k + j : Nat) : Int) != ((k + j : Nat) : Int)) = false := by simp
      go_wp2
      go_roundw
      case rel => exact ⟨j + 1, by omega, by go_num, by go_num, m, rfl⟩
      case measure => simp [intOf]; omega
    · obtain rfl : j = n := by omega
      go_wp2
      go_ret
      first | exact ⟨rfl, m, rfl⟩ | exact ⟨by simp, m, rfl⟩
theorem markIntS_all {k : Nat} (lo hi : Nat) (ad : Option Addr) (cap : Nat) (xs : List Int) (w : World) (hn : xs.length ≤ 1048576) (hk : k ≤ 1048576) (ho : Owned w lo hi 3 1 ad xs.length cap (ints xs)) :
    Calls Try.prog 13 #[.slice ad xs.length cap, .int .i64 k] w fun e w' => e = .returned (.int .i64 ((k + xs.length : Nat) : Int)) ∧ Owned w' lo hi 3 1 ad xs.length cap (marks k xs.length) ∧ Touched lo hi w w' := by
  have hl := ints_length xs
  have := markIntS_any lo hi ad cap (ints xs) k w (by omega) hk (by rw [hl]; exact ho)
  rw [hl] at this
  exact this
theorem heldIntS_b {k : Nat} (ad : Option Addr) (cap n : Nat) (w : World) (hn : n ≤ 1048576) (hk : k ≤ 1048576) (hc : CellsAt w ad (marks k n)) :
    Calls Try.prog 14 #[.slice ad n cap, .int .i64 k] w fun e w' => e = .returned (.int .i64 ((k + n : Nat) : Int)) ∧ Below w.heap.size w w' := by
  refine (heldIntS_any ad cap n k w hn hk hc).mono ?_
  rintro e w' ⟨rfl, m, rfl⟩
  exact ⟨rfl, ⟨rfl, rfl, rfl, Nat.le_refl _, fun _ _ => rfl⟩⟩
end Go.Proofs.Ytjklclegkjnegaa

/- MarkFar: marking a list behind another one: the first number up to 2^26. -/
namespace Go.Proofs.Ytjklclegkjnegaa
open Go.RowKit

theorem markIntS_far0 (lo hi : Nat) (ad : Option Addr) (cap : Nat) (cs : List Value) (k : Nat) (w : World) (hn : cs.length ≤ 1048576) (hk : k ≤ 67108864) (ho : Owned w lo hi 3 1 ad cs.length cap cs) :
    Calls Try.prog 13 #[.slice ad cs.length cap, .int .i64 k] w fun e w' => e = .returned (.int .i64 ((k + cs.length : Nat) : Int)) ∧ Owned w' lo hi 3 1 ad cs.length cap (marks k cs.length) ∧ Touched lo hi w w' := by
  have HO := Lib.hid ho
  clear ho
  go_enter Try.func13, Try.ntmps13
  go_wp2
  go_loopw [1, 5] (fun x i wr => ∃ j : Nat, j ≤ cs.length ∧ i = .int .i64 j ∧ x = .int .i64 ((k + j : Nat) : Int) ∧ Owned wr lo hi 3 1 ad cs.length cap (partly k cs j) ∧ Touched lo hi w wr) (fun _ i _ => cs.length - (intOf i).toNat)
  case atStart => exact ⟨0, by omega, rfl, rfl, by rw [partly_zero]; exact HO.out, Touched.refl _ _ _⟩
  case round =>
    obtain ⟨j, hj, rfl, rfl, ho, ht⟩ := hrel
    have HW := Lib.hid ho
    clear ho
    by_cases hlt : j < cs.length
    · obtain ⟨g, rfl, hg1, hg2⟩ := HW.out.lo_hi (by omega)
      have hcell : ∃ u, wr.cell? ⟨g, j, none⟩ = some u := by
        rw [HW.out.1.cellAt j (by omega)]
        exact ⟨(partly k cs j)[j]'(by rw [partly_length _ _ _ hj]; exact hlt), by simp⟩
      obtain ⟨u, hcell⟩ := hcell
      have hfz := HW.out.1.frozenAt j
      have HS := Lib.hid (partly_set k cs j hlt)
      go_wp2
      go_roundw
      case rel =>
        refine ⟨j + 1, by omega, by go_num, by go_num, ?_, ht.setCell hg1 hg2 _⟩
        have q := HW.out.1.stored j (.int .i64 ((k + j : Nat) : Int))
        refine ⟨?_, HW.out.2⟩
        have q1 := q.1
        rw [HS.out] at q1
        first | exact q1 | simpa using q1
      case measure => simp [intOf]; omega
    · obtain rfl : j = cs.length := by omega
      go_wp2
      go_ret
      have h2 := HW.out
      rw [partly_all] at h2
      first | exact ⟨rfl, h2, ht⟩ | exact ⟨by simp, h2, ht⟩

set_option maxHeartbeats 400000 in

theorem markIntS_far {k : Nat} (lo hi : Nat) (ad : Option Addr) (cap : Nat) (xs : List Int) (w : World) (hn : xs.length ≤ 1048576) (hk : k ≤ 67108864) (ho : Owned w lo hi 3 1 ad xs.length cap (ints xs)) :
    Calls Try.prog 13 #[.slice ad xs.length cap, .int .i64 k] w fun e w' => e = .returned (.int .i64 ((k + xs.length : Nat) : Int)) ∧ Owned w' lo hi 3 1 ad xs.length cap (marks k xs.length) ∧ Touched lo hi w w' := by
  have hl := ints_length xs
  have := markIntS_far0 lo hi ad cap (ints xs) k w (by omega) hk (by rw [hl]; exact ho)
  rw [hl] at this
  exact this
set_option maxHeartbeats 400000 in
theorem heldIntS_far0 (ad : Option Addr) (cap n k : Nat) (w : World) (hn : n ≤ 1048576) (hk : k ≤ 67108864) (hc : CellsAt w ad (marks k n)) :
    Calls Try.prog 14 #[.slice ad n cap, .int .i64 k] w fun e w' => e = .returned (.int .i64 ((k + n : Nat) : Int)) ∧ ∃ m, w' = w.drewN m := by
  have HC := Lib.hid hc
  clear hc
  go_enter Try.func14, Try.ntmps14
  go_wp2
  go_loopw [1, 5] (fun x i wr => ∃ j : Nat, j ≤ n ∧ i = .int .i64 j ∧ x = .int .i64 ((k + j : Nat) : Int) ∧ ∃ m, wr = w.drewN m) (fun _ i _ => n - (intOf i).toNat)
  case atStart => exact ⟨0, by omega, rfl, rfl, 0, rfl⟩
  case round =>
    obtain ⟨j, hj, rfl, rfl, m, rfl⟩ := hrel
    by_cases hlt : j < n
    · obtain ⟨g, off, rfl, hg, hcc⟩ := HC.out.open (by rw [marks_length]; omega)
      have hx := hcc j _ (marks_at hlt)
      clear hcc
      have hne : (((k + j : Nat) : Int) != ((k + j : Nat) : Int)) = false := by simp
      go_wp2
      go_roundw
      case rel => exact ⟨j + 1, by omega, by go_num, by go_num, m, rfl⟩
      case measure => simp [intOf]; omega
    · obtain rfl : j = n := by omega
      go_wp2
      go_ret
      first | exact ⟨rfl, m, rfl⟩ | exact ⟨by simp, m, rfl⟩
theorem heldIntS_far {k : Nat} (ad : Option Addr) (cap n : Nat) (w : World) (hn : n ≤ 1048576) (hk : k ≤ 67108864) (hc : CellsAt w ad (marks k n)) :
    Calls Try.prog 14 #[.slice ad n cap, .int .i64 k] w fun e w' => e = .returned (.int .i64 ((k + n : Nat) : Int)) ∧ Below w.heap.size w w' := by
  refine (heldIntS_far0 ad cap n k w hn hk hc).mono ?_
  rintro e w' ⟨rfl, m, rfl⟩
  exact ⟨rfl, ⟨rfl, rfl, rfl, Nat.le_refl _, fun _ _ => rfl⟩⟩
end Go.Proofs.Ytjklclegkjnegaa
