/- MarkWang0: the walk of the helper that writes marks into a list of tiles. -/
import Derived.Test.YtjklclegkjnegaaWangH
import Derived.Test.YtjklclegkjnegaaAllBase
namespace Go.Proofs.Ytjklclegkjnegaa
open Go.RowKit

set_option maxRecDepth 100000 in
set_option maxHeartbeats 800000 in
theorem markWangS_any (lo hi : Nat) (ad : Option Addr) (cap n : Nat) (cs : List Value) (k : Nat) (w : World) (hl : cs.length = n * 4) (hn : n ≤ 1048576) (hk : k ≤ 1048576) (ho : Owned w lo hi 43 4 ad n cap cs) :
    Calls Try.prog 12 #[.slice ad n cap, .int .i64 k] w fun e w' => e = .returned (.int .i64 ((k + n * 4 : Nat) : Int)) ∧ Owned w' lo hi 43 4 ad n cap (marks k (n * 4)) ∧ Touched lo hi w w' := by
  have HO := Lib.hid ho
  clear ho
  go_enter Try.func12, Try.ntmps12
  go_wp2
  go_loopw [1, 5] (fun x i wr => ∃ j : Nat, j ≤ n ∧ i = .int .i64 j ∧ x = .int .i64 ((k + j * 4 : Nat) : Int) ∧ Owned wr lo hi 43 4 ad n cap (partly k cs (j * 4)) ∧ Touched lo hi w wr) (fun _ i _ => n - (intOf i).toNat)
  case atStart => exact ⟨0, by omega, rfl, rfl, by rw [Nat.zero_mul, partly_zero]; exact HO.out, Touched.refl _ _ _⟩
  case round =>
    obtain ⟨j, hj, rfl, rfl, ho, ht⟩ := hrel
    have HW := Lib.hid ho
    have HL := Lib.hid hl
    clear ho
    by_cases hlt : j < n
    · obtain ⟨g, rfl, hg1, hg2⟩ := HW.out.lo_hi (by omega)
      have hcell : ∀ d, d < 4 → ∃ u, wr.cell? ⟨g, j * 4 + d, none⟩ = some u := by
        intro d hd
        rw [HW.out.1.cellAt (j * 4 + d) (by omega)]
        exact ⟨(partly k cs (j * 4))[j * 4 + d]'(by rw [partly_length _ _ _ (by omega)]; omega), by simp⟩
      obtain ⟨u0, s0⟩ := hcell 0 (by omega)
      obtain ⟨u1, s1⟩ := hcell 1 (by omega)
      obtain ⟨u2, s2⟩ := hcell 2 (by omega)
      obtain ⟨u3, s3⟩ := hcell 3 (by omega)
      rw [Nat.add_zero] at s0
      have f0 := HW.out.1.frozenAt (j * 4)
      have f1 := HW.out.1.frozenAt (j * 4 + 1)
      have f2 := HW.out.1.frozenAt (j * 4 + 2)
      have f3 := HW.out.1.frozenAt (j * 4 + 3)
      have S0 := Lib.hid (partly_set k cs (j * 4) (by omega))
      have S1 := Lib.hid (partly_set k cs (j * 4 + 1) (by omega))
      have S2 := Lib.hid (partly_set k cs (j * 4 + 2) (by omega))
      have S3 := Lib.hid (partly_set k cs (j * 4 + 3) (by omega))
      clear hcell hl
      go_wp2
      go_roundw
      case rel =>
        refine ⟨j + 1, by omega, by go_num, by go_num, ?_, (((ht.setCell hg1 hg2 _).setCell hg1 hg2 _).setCell hg1 hg2 _).setCell hg1 hg2 _⟩
        have q0 := HW.out.1.stored (j * 4) (.int .i64 ((k + j * 4 : Nat) : Int))
        have q1 := q0.1.stored (j * 4 + 1) (.int .i64 ((k + (j * 4 + 1) : Nat) : Int))
        have q2 := q1.1.stored (j * 4 + 2) (.int .i64 ((k + (j * 4 + 2) : Nat) : Int))
        have q3 := q2.1.stored (j * 4 + 3) (.int .i64 ((k + (j * 4 + 3) : Nat) : Int))
        refine ⟨?_, HW.out.2⟩
        have h2 := q3.1
        rw [S0.out, S1.out, S2.out, S3.out] at h2
        rw [show (j + 1) * 4 = j * 4 + 3 + 1 from by omega]
        have e1 : ((k + (j * 4 + 1) : Nat) : Int) = (k : Int) + (j : Int) * 4 + 1 := by omega
        have e2 : ((k + (j * 4 + 2) : Nat) : Int) = (k : Int) + (j : Int) * 4 + 1 + 1 := by omega
        have e3 : ((k + (j * 4 + 3) : Nat) : Int) = (k : Int) + (j : Int) * 4 + 1 + 1 + 1 := by omega
        rw [e1, e2, e3] at h2
        first | exact h2 | simpa using h2
      case measure => simp [intOf]; omega
    · obtain rfl : j = n := by omega
      go_wp2
      go_ret
      have h2 := HW.out
      rw [← HL.out, partly_all, HL.out] at h2
      first | exact ⟨rfl, h2, ht⟩ | exact ⟨by simp, h2, ht⟩

theorem markWangS_all {k : Nat} (lo hi : Nat) (ad : Option Addr) (cap : Nat) (xs : List Tile) (w : World) (hn : xs.length ≤ 1048576) (hk : k ≤ 1048576) (ho : Owned w lo hi 43 4 ad xs.length cap (wangs xs)) :
    Calls Try.prog 12 #[.slice ad xs.length cap, .int .i64 k] w fun e w' => e = .returned (.int .i64 ((k + xs.length * 4 : Nat) : Int)) ∧ Owned w' lo hi 43 4 ad xs.length cap (marks k (xs.length * 4)) ∧ Touched lo hi w w' :=
  markWangS_any lo hi ad cap xs.length (wangs xs) k w (wangs_length xs) hn hk ho
end Go.Proofs.Ytjklclegkjnegaa
