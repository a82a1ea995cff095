/- OnesW: the walk of math/bits.OnesCount64 and OnesCount: how many bits a number has. -/
import Derived.Test.YtcoggnoeafpgbaaOnes0
import Derived.Shelf.Spec.TrailingZeros
import Derived.IntWalk
namespace Go.Proofs.Ytcoggnoeafpgbaa
open Go.RowKit

theorem mkF1 : mkF 1 32 = 6148914691236517205 := by decide +kernel
theorem mkF2 : mkF 2 16 = 3689348814741910323 := by decide +kernel
theorem mkF4 : mkF 4 8 = 1085102592571150095 := by decide +kernel

set_option maxRecDepth 100000 in
set_option maxHeartbeats 1600000 in
theorem ones_walk (x a1 b1 x1 a2 b2 x2 s3 x3 x4 x5 x6 r : Nat) (w : World)
    (f1 : bits .and .u64 ((x : Int) / 2) 6148914691236517205 = (a1 : Int)) (f2 : bits .and .u64 (x : Int) 6148914691236517205 = (b1 : Int)) (f3 : IntKind.u64.wrap ((a1 : Int) + (b1 : Int)) = (x1 : Int))
    (g1 : bits .and .u64 ((x1 : Int) / 4) 3689348814741910323 = (a2 : Int)) (g2 : bits .and .u64 (x1 : Int) 3689348814741910323 = (b2 : Int)) (g3 : IntKind.u64.wrap ((a2 : Int) + (b2 : Int)) = (x2 : Int))
    (h1 : IntKind.u64.wrap ((x2 : Int) / 16 + (x2 : Int)) = (s3 : Int)) (h2 : bits .and .u64 (s3 : Int) 1085102592571150095 = (x3 : Int))
    (k1 : IntKind.u64.wrap ((x3 : Int) + (x3 : Int) / 256) = (x4 : Int)) (k2 : IntKind.u64.wrap ((x4 : Int) + (x4 : Int) / 65536) = (x5 : Int)) (k3 : IntKind.u64.wrap ((x5 : Int) + (x5 : Int) / 4294967296) = (x6 : Int))
    (l1 : bits .and .i64 (wrap64 (x6 : Int)) 127 = (r : Int)) :
    Calls Try.prog 38 #[.int .u64 x] w fun e w' => e = .returned (.int .i64 r) ∧ w' = w := by
  go_enter Try.func38, Try.ntmps38
  go_wp2
  go_ret
  exact ⟨by first | rfl | (rw [← l1]; rfl), rfl⟩
theorem i64_127 {x : Nat} (h : x < 9223372036854775808) : bits .and .i64 (x : Int) 127 = ((x % 128 : Nat) : Int) := by
  have e := i64_and_nat x 127 h (by decide)
  rw [show (127 : Nat) = 2 ^ 7 - 1 from rfl, Nat.and_two_pow_sub_one_eq_mod] at e
  exact e
theorem u64_in {n : Nat} (h : n < 18446744073709551616) : IntKind.u64.wrap (n : Int) = (n : Int) := by
  rw [IntKind.wrap_u64]; omega
theorem u64_add {a b c : Nat} (e : c = a + b) (h : c < 18446744073709551616) : IntKind.u64.wrap ((a : Int) + (b : Int)) = (c : Int) := by
  subst e; rw [show (a : Int) + (b : Int) = ((a + b : Nat) : Int) by omega]; exact u64_in h
theorem u64_addd {a c : Nat} (d : Nat) (e : c = a + a / d) (h : c < 18446744073709551616) : IntKind.u64.wrap ((a : Int) + (a : Int) / (d : Int)) = (c : Int) := by
  subst e; rw [show (a : Int) + (a : Int) / (d : Int) = ((a + a / d : Nat) : Int) by rw [Int.natCast_add, Int.natCast_ediv]]; exact u64_in h
theorem ones_num (x x1 x2 x3 x4 x5 x6 n : Nat) (hx : x < 18446744073709551616) (w : World)
    (q1 : x1 = (x / 2 &&& 6148914691236517205) + (x &&& 6148914691236517205))
    (q2 : x2 = (x1 / 4 &&& 3689348814741910323) + (x1 &&& 3689348814741910323))
    (q3 : x3 = (x2 / 16 + x2) &&& 1085102592571150095)
    (e4 : x4 = x3 + x3 / 256) (e5 : x5 = x4 + x4 / 65536) (e6 : x6 = x5 + x5 / 4294967296)
    (r1 : x6 % 128 = n) :
    Calls Try.prog 38 #[.int .u64 x] w fun e w' => e = .returned (.int .i64 n) ∧ w' = w := by
  have a1 : x / 2 &&& 6148914691236517205 ≤ 6148914691236517205 := Nat.and_le_right
  have a2 : x &&& 6148914691236517205 ≤ 6148914691236517205 := Nat.and_le_right
  have a3 : x1 / 4 &&& 3689348814741910323 ≤ 3689348814741910323 := Nat.and_le_right
  have a4 : x1 &&& 3689348814741910323 ≤ 3689348814741910323 := Nat.and_le_right
  have a5 : x3 ≤ 1085102592571150095 := by rw [q3]; exact Nat.and_le_right
  have hx1 : x1 < 18446744073709551616 := by rw [q1]; exact Nat.lt_of_le_of_lt (Nat.add_le_add a1 a2) (by decide)
  have hx2 : x2 ≤ 7378697629483820646 := by rw [q2]; exact Nat.le_trans (Nat.add_le_add a3 a4) (by decide)
  have p4 : x4 ≤ 2000000000000000000 := by clear a1 a2 a3 a4 q1 q2 q3; omega
  have p5 : x5 ≤ 3000000000000000000 := by clear a1 a2 a3 a4 q1 q2 q3; omega
  have p6 : x6 ≤ 4000000000000000000 := by clear a1 a2 a3 a4 q1 q2 q3; omega
  have p3 : x2 / 16 + x2 < 18446744073709551616 := by clear a1 a2 a3 a4 q1 q2 q3; omega
  refine ones_walk x (x / 2 &&& 6148914691236517205) (x &&& 6148914691236517205) x1 (x1 / 4 &&& 3689348814741910323) (x1 &&& 3689348814741910323) x2 (x2 / 16 + x2) x3 x4 x5 x6 n w ?_ ?_ ?_ ?_ ?_ ?_ ?_ ?_ ?_ ?_ ?_ ?_
  · exact bits_and_u64_nat (x / 2) 6148914691236517205 (Nat.lt_of_le_of_lt (Nat.div_le_self _ _) hx) (by decide)
  · exact bits_and_u64_nat x 6148914691236517205 hx (by decide)
  · exact u64_add q1 hx1
  · exact bits_and_u64_nat (x1 / 4) 3689348814741910323 (Nat.lt_of_le_of_lt (Nat.div_le_self _ _) hx1) (by decide)
  · exact bits_and_u64_nat x1 3689348814741910323 hx1 (by decide)
  · exact u64_add q2 (Nat.lt_of_le_of_lt hx2 (by decide))
  · rw [Int.add_comm]; exact u64_addd 16 (Nat.add_comm _ _) p3
  · rw [q3]; exact bits_and_u64_nat (x2 / 16 + x2) 1085102592571150095 p3 (by decide)
  · exact u64_addd 256 e4 (Nat.lt_of_le_of_lt p4 (by decide))
  · exact u64_addd 65536 e5 (Nat.lt_of_le_of_lt p5 (by decide))
  · exact u64_addd 4294967296 e6 (Nat.lt_of_le_of_lt p6 (by decide))
  · have b6 : x6 < 9223372036854775808 := Nat.lt_of_le_of_lt p6 (by decide)
    rw [show wrap64 (x6 : Int) = (x6 : Int) from IntWalk.wrap64_in _ (by clear a1 a2 a3 a4 q1 q2 q3 e4 e5 e6; omega), i64_127 b6, r1]
theorem fin_all {x : Nat} (hx : x ≤ 1085102592571150095) (b3 : digB 8 8 8 x) : fin3 (fin2 (fin1 x)) % 128 = digS 8 8 x := by
  obtain ⟨d0, d1, d2, d3, d4, d5, d6, d7, hd, he, hs⟩ := digs_eq (x := x) (Nat.lt_of_le_of_lt hx (by decide)) b3
  obtain ⟨r1, _⟩ := fin_dig d0 d1 d2 d3 d4 d5 d6 d7 hd
  rw [← he, ← hs] at r1
  exact r1
theorem ones64 (x : Nat) (hx : x < 18446744073709551616) (w : World) :
    Calls Try.prog 38 #[.int .u64 x] w fun e w' => e = .returned (.int .i64 (digS 1 64 x)) ∧ w' = w := by
  have q3 : stg3 8 (stg 2 16 (stg 1 32 x)) = (stg 2 16 (stg 1 32 x) / 16 + stg 2 16 (stg 1 32 x)) &&& 1085102592571150095 := by rw [stg3, mkF4]
  have s1 : digS 2 32 (stg 1 32 x) = digS 1 64 x := digS_stg (k := 1) (by decide) 32 x
  have b1 : digB 2 2 32 (stg 1 32 x) := digB_stg (k := 1) (m := 1) (by decide) 32 x (digB_one 64 x)
  have s2 : digS 4 16 (stg 2 16 (stg 1 32 x)) = digS 2 32 (stg 1 32 x) := digS_stg (k := 2) (by decide) 16 _
  have b2 : digB 4 4 16 (stg 2 16 (stg 1 32 x)) := digB_stg (k := 2) (m := 2) (by decide) 16 _ b1
  obtain ⟨s3, b3⟩ := digS_stg3 8 _ b2
  have a5 : stg3 8 (stg 2 16 (stg 1 32 x)) ≤ 1085102592571150095 := by rw [q3]; exact Nat.and_le_right
  have q1 : stg 1 32 x = (x / 2 &&& 6148914691236517205) + (x &&& 6148914691236517205) := by unfold stg; rw [mkF1]
  have q2 : stg 2 16 (stg 1 32 x) = (stg 1 32 x / 4 &&& 3689348814741910323) + (stg 1 32 x &&& 3689348814741910323) := by rw [stg, mkF2]
  exact ones_num x _ _ _ _ _ _ _ hx w q1 q2 q3 rfl rfl rfl ((fin_all a5 b3).trans (s3.trans (s2.trans s1)))

set_option maxRecDepth 100000 in
theorem implOnes (x : Nat) (hx : x < 18446744073709551616) (w : World) :
    Calls Try.prog 24 #[.int .u64 x] w fun e w' => e = .returned (.int .i64 (digS 1 64 x)) ∧ w' = w := by
  have HZ := Lib.hid (ones64 x hx w)
  generalize digS 1 64 x = n at HZ ⊢
  go_enter Try.func24, Try.ntmps24
  go_wp2_with fail
  refine HZ.out.mono ?_
  rintro e w1 ⟨rfl, rfl⟩
  go_wp2
  go_ret
  exact ⟨rfl, rfl⟩
end Go.Proofs.Ytcoggnoeafpgbaa
