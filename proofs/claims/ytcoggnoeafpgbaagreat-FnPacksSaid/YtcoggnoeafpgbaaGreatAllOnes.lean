/- AllOnes: parts laid together: Ones0, OnesP, OnesW. -/
import Derived.Test.YtcoggnoeafpgbaaGreatAllBase
import Derived.Shelf.Spec.TrailingZeros
import Derived.IntWalk

/- Ones0: how many bits a number has, reckoned by fields that grow (the library's OnesCount64), as numbers; plain. -/
namespace Go.Proofs.YtcoggnoeafpgbaaGreat

/-- n fields of 2 * k bits, the low k bits of each set. -/
def mkF (k : Nat) : Nat → Nat
  | 0 => 0
  | n + 1 => (2 ^ k - 1) + 2 ^ (2 * k) * mkF k n
/-- The sum of the first n digits to the base 2 ^ b. -/
def digS (b : Nat) : Nat → Nat → Nat
  | 0, _ => 0
  | n + 1, x => x % 2 ^ b + digS b n (x / 2 ^ b)
/-- All digits are at most m. -/
def digB (b m : Nat) : Nat → Nat → Prop
  | 0, _ => True
  | n + 1, x => x % 2 ^ b ≤ m ∧ digB b m n (x / 2 ^ b)
theorem and_parts {m a b c d : Nat} (ha : a < 2 ^ m) (hc : c < 2 ^ m) : (a + 2 ^ m * b) &&& (c + 2 ^ m * d) = (a &&& c) + 2 ^ m * (b &&& d) := by
  have hac : a &&& c < 2 ^ m := Nat.and_lt_two_pow _ hc
  apply Nat.eq_of_testBit_eq
  intro i
  rw [Nat.testBit_and, Nat.add_comm a, Nat.add_comm c, Nat.add_comm (a &&& c), Nat.testBit_two_pow_mul_add _ ha, Nat.testBit_two_pow_mul_add _ hc, Nat.testBit_two_pow_mul_add _ hac]
  by_cases h : i < m
  · rw [if_pos h, if_pos h, if_pos h, Nat.testBit_and]
  · rw [if_neg h, if_neg h, if_neg h, Nat.testBit_and]
theorem and_low (x k : Nat) : x &&& (2 ^ k - 1) = x % 2 ^ k := Nat.and_two_pow_sub_one_eq_mod x k
/-- One stage: neighbouring digits are added. -/
def stg (k n x : Nat) : Nat := (x / 2 ^ k &&& mkF k n) + (x &&& mkF k n)
theorem stg_succ {k n x : Nat} (hk : 0 < k) : stg k (n + 1) x = (x % 2 ^ (2 * k) / 2 ^ k + x % 2 ^ k) + 2 ^ (2 * k) * stg k n (x / 2 ^ (2 * k)) := by
  have hp : 2 ^ (2 * k) = 2 ^ k * 2 ^ k := by rw [← Nat.pow_add]; congr 1; omega
  have hp0 : 0 < 2 ^ k := Nat.two_pow_pos k
  have hp2 : 0 < 2 ^ (2 * k) := Nat.two_pow_pos _
  have hc : 2 ^ k - 1 < 2 ^ (2 * k) := by
    have h1 : 2 ^ k ≤ 2 ^ (2 * k) := Nat.pow_le_pow_right (by decide) (by omega)
    omega
  have hx : x = x % 2 ^ (2 * k) + 2 ^ (2 * k) * (x / 2 ^ (2 * k)) := by rw [Nat.add_comm]; exact (Nat.div_add_mod x _).symm
  have e1 : x &&& mkF k (n + 1) = x % 2 ^ k + 2 ^ (2 * k) * (x / 2 ^ (2 * k) &&& mkF k n) := by
    conv => lhs; rw [hx]
    rw [mkF, and_parts (Nat.mod_lt _ hp2) hc, and_low]
    congr 1
    rw [hp, Nat.mod_mul_left_mod]
  have hy : x / 2 ^ k = (x / 2 ^ k) % 2 ^ (2 * k) + 2 ^ (2 * k) * (x / 2 ^ k / 2 ^ (2 * k)) := by rw [Nat.add_comm]; exact (Nat.div_add_mod _ _).symm
  have e2 : x / 2 ^ k &&& mkF k (n + 1) = x % 2 ^ (2 * k) / 2 ^ k + 2 ^ (2 * k) * (x / 2 ^ (2 * k) / 2 ^ k &&& mkF k n) := by
    conv => lhs; rw [hy]
    rw [mkF, and_parts (Nat.mod_lt _ hp2) hc, and_low]
    congr 1
    · rw [hp, Nat.mod_mul_left_mod, Nat.mod_mul_right_div_self]
    · rw [Nat.div_div_eq_div_mul, Nat.div_div_eq_div_mul, Nat.mul_comm (2 ^ k)]
  unfold stg
  rw [e1, e2, Nat.mul_add]
  omega
theorem pow_two (k : Nat) : 2 ^ (2 * k) = 2 ^ k * 2 ^ k := by rw [← Nat.pow_add]; congr 1; omega
theorem fit_two {k a b : Nat} (hk : 0 < k) (ha : a < 2 ^ k) (hb : b < 2 ^ k) : a + b < 2 ^ (2 * k) := by
  rw [pow_two]
  have h2 : 2 ≤ 2 ^ k := Nat.pow_le_pow_right (n := 2) (by decide) hk
  have h3 : 2 * 2 ^ k ≤ 2 ^ k * 2 ^ k := Nat.mul_le_mul_right _ h2
  omega
theorem stg_mod {k n x : Nat} (hk : 0 < k) : stg k (n + 1) x % 2 ^ (2 * k) = x / 2 ^ k % 2 ^ k + x % 2 ^ k := by
  have e : x % 2 ^ (2 * k) / 2 ^ k = x / 2 ^ k % 2 ^ k := by rw [pow_two, Nat.mod_mul_right_div_self]
  rw [stg_succ hk, e, Nat.add_mul_mod_self_left]
  exact Nat.mod_eq_of_lt (fit_two hk (Nat.mod_lt _ (Nat.two_pow_pos k)) (Nat.mod_lt _ (Nat.two_pow_pos k)))
theorem stg_div {k n x : Nat} (hk : 0 < k) : stg k (n + 1) x / 2 ^ (2 * k) = stg k n (x / 2 ^ k / 2 ^ k) := by
  have e : x % 2 ^ (2 * k) / 2 ^ k = x / 2 ^ k % 2 ^ k := by rw [pow_two, Nat.mod_mul_right_div_self]
  have hl := fit_two hk (Nat.mod_lt (x / 2 ^ k) (Nat.two_pow_pos k)) (Nat.mod_lt x (Nat.two_pow_pos k))
  rw [stg_succ hk, e, Nat.add_mul_div_left _ _ (Nat.two_pow_pos _), Nat.div_eq_of_lt hl, Nat.zero_add, pow_two, Nat.div_div_eq_div_mul]
/-- A stage keeps the sum of the digits. -/
theorem digS_stg {k : Nat} (hk : 0 < k) : ∀ n x, digS (2 * k) n (stg k n x) = digS k (2 * n) x
  | 0, _ => rfl
  | n + 1, x => by
    rw [digS, stg_mod hk, stg_div hk, digS_stg hk n, show 2 * (n + 1) = 2 * n + 1 + 1 by omega, digS, digS]
    omega
theorem digB_stg {k m : Nat} (hk : 0 < k) : ∀ n x, digB k m (2 * n) x → digB (2 * k) (2 * m) n (stg k n x)
  | 0, _, _ => trivial
  | n + 1, x, h => by
    rw [show 2 * (n + 1) = 2 * n + 1 + 1 by omega, digB, digB] at h
    rw [digB, stg_mod hk, stg_div hk]
    exact ⟨by omega, digB_stg hk n _ h.2.2⟩
theorem digB_one : ∀ n x, digB 1 1 n x
  | 0, _ => trivial
  | n + 1, x => ⟨by have := Nat.mod_lt x (show 0 < 2 ^ 1 by decide); omega, digB_one n _⟩
/-- The third stage: no digit is above 4. -/
def stg3 (n x : Nat) : Nat := (x / 16 + x) &&& mkF 4 n
theorem stg3_succ {n x : Nat} (h : digB 4 4 (2 * (n + 1)) x) : stg3 (n + 1) x = (x / 16 % 16 + x % 16) + 256 * stg3 n (x / 256) := by
  have h4 : (2 : Nat) ^ 4 = 16 := rfl
  rw [show 2 * (n + 1) = 2 * n + 1 + 1 by omega, digB, digB, h4] at h
  obtain ⟨h1, h2, h3⟩ := h
  have hy : x / 256 % 16 ≤ 15 := by omega
  have hs : x / 16 + x = (x % 256 / 16 + x % 256 + 16 * (x / 256 % 16)) + 256 * (x / 256 / 16 + x / 256) := by omega
  unfold stg3
  have hd : x / 256 % 16 ≤ 4 ∨ n = 0 := by
    cases n with
    | zero => right; rfl
    | succ n =>
      left
      rw [show 2 * (n + 1) = 2 * n + 1 + 1 by omega, digB, h4] at h3
      have := h3.1
      omega
  rcases hd with hd | hd
  · have hlo : x % 256 / 16 + x % 256 + 16 * (x / 256 % 16) < 2 ^ 8 := by show _ < 256; omega
    rw [hs, mkF, show (2 : Nat) ^ (2 * 4) = 256 from rfl]
    have := and_parts (m := 8) (a := x % 256 / 16 + x % 256 + 16 * (x / 256 % 16)) (b := x / 256 / 16 + x / 256) (c := 2 ^ 4 - 1) (d := mkF 4 n) hlo (by decide)
    rw [show (2 : Nat) ^ 8 = 256 from rfl] at this
    rw [this, and_low, h4]
    congr 1
    omega
  · subst hd
    simp only [mkF, Nat.mul_zero, Nat.add_zero, Nat.and_zero]
    rw [and_low, h4]
    omega
theorem digS_stg3 : ∀ n x, digB 4 4 (2 * n) x → digS 8 n (stg3 n x) = digS 4 (2 * n) x ∧ digB 8 8 n (stg3 n x)
  | 0, _, _ => ⟨rfl, trivial⟩
  | n + 1, x, h => by
    have e := stg3_succ h
    have h4 : (2 : Nat) ^ 4 = 16 := rfl
    have h8 : (2 : Nat) ^ 8 = 256 := rfl
    rw [show 2 * (n + 1) = 2 * n + 1 + 1 by omega, digB, digB, h4] at h
    obtain ⟨h1, h2, h3⟩ := h
    have hx : x / 16 / 16 = x / 256 := by omega
    rw [hx] at h3
    obtain ⟨i1, i2⟩ := digS_stg3 n (x / 256) h3
    have m1 : stg3 (n + 1) x % 256 = x / 16 % 16 + x % 16 := by rw [e]; omega
    have m2 : stg3 (n + 1) x / 256 = stg3 n (x / 256) := by rw [e]; omega
    constructor
    · rw [digS, h8, m1, m2, i1, show 2 * (n + 1) = 2 * n + 1 + 1 by omega, digS, digS, h4, hx]
      omega
    · rw [digB, h8, m1, m2]
      exact ⟨by omega, i2⟩
/-- The last stages: eight digits, none above 8, are added in the lowest place. -/
def fin1 (x : Nat) : Nat := x + x / 256
def fin2 (x : Nat) : Nat := x + x / 65536
def fin3 (x : Nat) : Nat := x + x / 4294967296
theorem fin1_eq (d0 d1 d2 d3 d4 d5 d6 d7 : Nat) (h : d0 ≤ 8 ∧ d1 ≤ 8 ∧ d2 ≤ 8 ∧ d3 ≤ 8 ∧ d4 ≤ 8 ∧ d5 ≤ 8 ∧ d6 ≤ 8 ∧ d7 ≤ 8) : fin1 (d0 + 256 * d1 + 65536 * d2 + 16777216 * d3 + 4294967296 * d4 + 1099511627776 * d5 + 281474976710656 * d6 + 72057594037927936 * d7) = (d0 + d1) + 256 * (d1 + d2) + 65536 * (d2 + d3) + 16777216 * (d3 + d4) + 4294967296 * (d4 + d5) + 1099511627776 * (d5 + d6) + 281474976710656 * (d6 + d7) + 72057594037927936 * d7 := by
  unfold fin1
  omega
theorem fin2_eq (d0 d1 d2 d3 d4 d5 d6 d7 : Nat) (h : d0 ≤ 16 ∧ d1 ≤ 16 ∧ d2 ≤ 16 ∧ d3 ≤ 16 ∧ d4 ≤ 16 ∧ d5 ≤ 16 ∧ d6 ≤ 16 ∧ d7 ≤ 16) : fin2 (d0 + 256 * d1 + 65536 * d2 + 16777216 * d3 + 4294967296 * d4 + 1099511627776 * d5 + 281474976710656 * d6 + 72057594037927936 * d7) = (d0 + d2) + 256 * (d1 + d3) + 65536 * (d2 + d4) + 16777216 * (d3 + d5) + 4294967296 * (d4 + d6) + 1099511627776 * (d5 + d7) + 281474976710656 * d6 + 72057594037927936 * d7 := by
  unfold fin2
  omega
theorem fin3_eq (d0 d1 d2 d3 d4 d5 d6 d7 : Nat) (h : d0 ≤ 32 ∧ d1 ≤ 32 ∧ d2 ≤ 32 ∧ d3 ≤ 32 ∧ d4 ≤ 32 ∧ d5 ≤ 32 ∧ d6 ≤ 32 ∧ d7 ≤ 32) : fin3 (d0 + 256 * d1 + 65536 * d2 + 16777216 * d3 + 4294967296 * d4 + 1099511627776 * d5 + 281474976710656 * d6 + 72057594037927936 * d7) % 128 = (d0 + d4) % 128 ∧ fin3 (d0 + 256 * d1 + 65536 * d2 + 16777216 * d3 + 4294967296 * d4 + 1099511627776 * d5 + 281474976710656 * d6 + 72057594037927936 * d7) < 18446744073709551616 := by
  have hq : (d0 + 256 * d1 + 65536 * d2 + 16777216 * d3 + 4294967296 * d4 + 1099511627776 * d5 + 281474976710656 * d6 + 72057594037927936 * d7) / 4294967296 = d4 + 256 * d5 + 65536 * d6 + 16777216 * d7 := by omega
  unfold fin3
  rw [hq]
  have e : d0 + 256 * d1 + 65536 * d2 + 16777216 * d3 + 4294967296 * d4 + 1099511627776 * d5 + 281474976710656 * d6 + 72057594037927936 * d7 + (d4 + 256 * d5 + 65536 * d6 + 16777216 * d7) = (d0 + d4) + 128 * (2 * d1 + 512 * d2 + 131072 * d3 + 33554432 * d4 + 8589934592 * d5 + 2199023255552 * d6 + 562949953421312 * d7 + (2 * d5 + 512 * d6 + 131072 * d7)) := by omega
  rw [e, Nat.add_mul_mod_self_left]
  refine ⟨rfl, ?_⟩
  omega
theorem fin_dig (d0 d1 d2 d3 d4 d5 d6 d7 : Nat) (h : d0 ≤ 8 ∧ d1 ≤ 8 ∧ d2 ≤ 8 ∧ d3 ≤ 8 ∧ d4 ≤ 8 ∧ d5 ≤ 8 ∧ d6 ≤ 8 ∧ d7 ≤ 8) : fin3 (fin2 (fin1 (d0 + 256 * d1 + 65536 * d2 + 16777216 * d3 + 4294967296 * d4 + 1099511627776 * d5 + 281474976710656 * d6 + 72057594037927936 * d7))) % 128 = d0 + d1 + d2 + d3 + d4 + d5 + d6 + d7 ∧ fin3 (fin2 (fin1 (d0 + 256 * d1 + 65536 * d2 + 16777216 * d3 + 4294967296 * d4 + 1099511627776 * d5 + 281474976710656 * d6 + 72057594037927936 * d7))) < 18446744073709551616 := by
  rw [fin1_eq _ _ _ _ _ _ _ _ h, fin2_eq _ _ _ _ _ _ _ _ (by omega)]
  obtain ⟨h1, h2⟩ := fin3_eq ((d0 + d1) + (d2 + d3)) ((d1 + d2) + (d3 + d4)) ((d2 + d3) + (d4 + d5)) ((d3 + d4) + (d5 + d6)) ((d4 + d5) + (d6 + d7)) ((d5 + d6) + d7) (d6 + d7) d7 (by omega)
  refine ⟨h1.trans ?_, h2⟩
  omega
theorem digs_eq {x : Nat} (hx : x < 18446744073709551616) (h : digB 8 8 8 x) : ∃ d0 d1 d2 d3 d4 d5 d6 d7 : Nat, (d0 ≤ 8 ∧ d1 ≤ 8 ∧ d2 ≤ 8 ∧ d3 ≤ 8 ∧ d4 ≤ 8 ∧ d5 ≤ 8 ∧ d6 ≤ 8 ∧ d7 ≤ 8) ∧ x = d0 + 256 * d1 + 65536 * d2 + 16777216 * d3 + 4294967296 * d4 + 1099511627776 * d5 + 281474976710656 * d6 + 72057594037927936 * d7 ∧ digS 8 8 x = d0 + d1 + d2 + d3 + d4 + d5 + d6 + d7 := by
  simp only [digB, digS, show (2 : Nat) ^ 8 = 256 from rfl] at h ⊢
  refine ⟨_, _, _, _, _, _, _, _, ⟨h.1, h.2.1, h.2.2.1, h.2.2.2.1, h.2.2.2.2.1, h.2.2.2.2.2.1, h.2.2.2.2.2.2.1, h.2.2.2.2.2.2.2.1⟩, ?_, ?_⟩
  · omega
  · omega
end Go.Proofs.YtcoggnoeafpgbaaGreat

/- OnesP: the sum of the bits of a small number is the count of its set places; plain. -/
namespace Go.Proofs.YtcoggnoeafpgbaaGreat
open Go.RowKit

theorem digS_countP : ∀ n x : Nat, digS 1 n x = (List.range n).countP fun i => x.testBit i
  | 0, _ => rfl
  | n + 1, x => by
    rw [digS, digS_countP n, List.range_succ_eq_map, List.countP_cons, List.countP_map, Nat.add_comm]
    have e : ((fun i => x.testBit i) ∘ Nat.succ) = fun i => (x / 2 ^ 1).testBit i := by
      funext i
      show x.testBit (i + 1) = _
      rw [Nat.testBit_succ, Nat.pow_one]
    rw [e]
    congr 1
    rw [Nat.testBit_zero, Nat.pow_one]
    rcases Nat.mod_two_eq_zero_or_one x with h | h
    · rw [h]; rfl
    · rw [h]; rfl
theorem digS_small {x : Nat} (h : x < 2 ^ 36) : digS 1 64 x = (List.range 36).countP fun i => x.testBit i := by
  rw [digS_countP, show 64 = 36 + 28 from rfl, List.range_add, List.countP_append]
  have e : ((List.range 28).map (36 + ·)).countP (fun i => x.testBit i) = 0 := by
    rw [List.countP_eq_zero]
    intro i hi
    obtain ⟨k, _, rfl⟩ := List.mem_map.1 hi
    rw [Nat.testBit_lt_two_pow (Nat.lt_of_lt_of_le h (Nat.pow_le_pow_right (by decide) (Nat.le_add_right _ _)))]
    decide
  rw [e, Nat.add_zero]
end Go.Proofs.YtcoggnoeafpgbaaGreat

/- OnesW: the walk of math/bits.OnesCount64 and OnesCount: how many bits a number has. -/
namespace Go.Proofs.YtcoggnoeafpgbaaGreat
open Go.RowKit

theorem mkF1 : mkF 1 32 = 6148914691236517205 := by decide +kernel
theorem mkF2 : mkF 2 16 = 3689348814741910323 := by decide +kernel
theorem mkF4 : mkF 4 8 = 1085102592571150095 := by decide +kernel

set_option maxRecDepth 100000 in
set_option maxHeartbeats 1600000 in
theorem ones_walk (x a1 b1 x1 a2 b2 x2 s3 x3 x4 x5 x6 r : Nat) (w : World)
    (f1 : bits .and .u64 ((x : Int) / 2) 6148914691236517205 = (a1 : Int)) (f2 : bits .and .u64 (x : Int) 6148914691236517205 = (b1 : Int)) (f3 : IntKind.u64.wrap ((a1 : Int) + (b1 : Int)) = (x1 : Int))
    (g1 : bits .and .u64 ((x1 : Int) / 4) 3689348814741910323 = (a2 : Int)) (g2 : bits .and .u64 (x1 : Int) 3689348814741910323 = (b2 : Int)) (g3 : IntKind.u64.wrap ((a2 : Int) + (b2 : Int)) = (x2 : Int))
    (h1 : IntKind.u64.wrap ((x2 : Int) / 16 + (x2 : Int)) = (s3 : Int)) (h2 : bits .and .u64 (s3 : Int) 1085102592571150095 = (x3 : Int))
    (k1 : IntKind.u64.wrap ((x3 : Int) + (x3 : Int) / 256) = (x4 : Int)) (k2 : IntKind.u64.wrap ((x4 : Int) + (x4 : Int) / 65536) = (x5 : Int)) (k3 : IntKind.u64.wrap ((x5 : Int) + (x5 : Int) / 4294967296) = (x6 : Int))
    (l1 : bits .and .i64 (wrap64 (x6 : Int)) 127 = (r : Int)) :
    Calls Tryz.prog 75 #[.int .u64 x] w fun e w' => e = .returned (.int .i64 r) ∧ w' = w := by
  go_enter Tryz.func75, Tryz.ntmps75
  go_wp2
  go_ret
  exact ⟨by first | rfl | (rw [← l1]; rfl), rfl⟩
theorem i64_127 {x : Nat} (h : x < 9223372036854775808) : bits .and .i64 (x : Int) 127 = ((x % 128 : Nat) : Int) := by
  have e := i64_and_nat x 127 h (by decide)
  rw [show (127 : Nat) = 2 ^ 7 - 1 from rfl, Nat.and_two_pow_sub_one_eq_mod] at e
  exact e
theorem u64_in {n : Nat} (h : n < 18446744073709551616) : IntKind.u64.wrap (n : Int) = (n : Int) := by
  rw [IntKind.wrap_u64]; omega
theorem u64_add {a b c : Nat} (e : c = a + b) (h : c < 18446744073709551616) : IntKind.u64.wrap ((a : Int) + (b : Int)) = (c : Int) := by
  subst e; rw [show (a : Int) + (b : Int) = ((a + b : Nat) : Int) by omega]; exact u64_in h
theorem u64_addd {a c : Nat} (d : Nat) (e : c = a + a / d) (h : c < 18446744073709551616) : IntKind.u64.wrap ((a : Int) + (a : Int) / (d : Int)) = (c : Int) := by
  subst e; rw [show (a : Int) + (a : Int) / (d : Int) = ((a + a / d : Nat) : Int) by rw [Int.natCast_add, Int.natCast_ediv]]; exact u64_in h
theorem ones_num (x x1 x2 x3 x4 x5 x6 n : Nat) (hx : x < 18446744073709551616) (w : World)
    (q1 : x1 = (x / 2 &&& 6148914691236517205) + (x &&& 6148914691236517205))
    (q2 : x2 = (x1 / 4 &&& 3689348814741910323) + (x1 &&& 3689348814741910323))
    (q3 : x3 = (x2 / 16 + x2) &&& 1085102592571150095)
    (e4 : x4 = x3 + x3 / 256) (e5 : x5 = x4 + x4 / 65536) (e6 : x6 = x5 + x5 / 4294967296)
    (r1 : x6 % 128 = n) :
    Calls Tryz.prog 75 #[.int .u64 x] w fun e w' => e = .returned (.int .i64 n) ∧ w' = w := by
  have a1 : x / 2 &&& 6148914691236517205 ≤ 6148914691236517205 := Nat.and_le_right
  have a2 : x &&& 6148914691236517205 ≤ 6148914691236517205 := Nat.and_le_right
  have a3 : x1 / 4 &&& 3689348814741910323 ≤ 3689348814741910323 := Nat.and_le_right
  have a4 : x1 &&& 3689348814741910323 ≤ 3689348814741910323 := Nat.and_le_right
  have a5 : x3 ≤ 1085102592571150095 := by rw [q3]; exact Nat.and_le_right
  have hx1 : x1 < 18446744073709551616 := by rw [q1]; exact Nat.lt_of_le_of_lt (Nat.add_le_add a1 a2) (by decide)
  have hx2 : x2 ≤ 7378697629483820646 := by rw [q2]; exact Nat.le_trans (Nat.add_le_add a3 a4) (by decide)
  have p4 : x4 ≤ 2000000000000000000 := by clear a1 a2 a3 a4 q1 q2 q3; omega
  have p5 : x5 ≤ 3000000000000000000 := by clear a1 a2 a3 a4 q1 q2 q3; omega
  have p6 : x6 ≤ 4000000000000000000 := by clear a1 a2 a3 a4 q1 q2 q3; omega
  have p3 : x2 / 16 + x2 < 18446744073709551616 := by clear a1 a2 a3 a4 q1 q2 q3; omega
  refine ones_walk x (x / 2 &&& 6148914691236517205) (x &&& 6148914691236517205) x1 (x1 / 4 &&& 3689348814741910323) (x1 &&& 3689348814741910323) x2 (x2 / 16 + x2) x3 x4 x5 x6 n w ?_ ?_ ?_ ?_ ?_ ?_ ?_ ?_ ?_ ?_ ?_ ?_
  · exact bits_and_u64_nat (x / 2) 6148914691236517205 (Nat.lt_of_le_of_lt (Nat.div_le_self _ _) hx) (by decide)
  · exact bits_and_u64_nat x 6148914691236517205 hx (by decide)
  · exact u64_add q1 hx1
  · exact bits_and_u64_nat (x1 / 4) 3689348814741910323 (Nat.lt_of_le_of_lt (Nat.div_le_self _ _) hx1) (by decide)
  · exact bits_and_u64_nat x1 3689348814741910323 hx1 (by decide)
  · exact u64_add q2 (Nat.lt_of_le_of_lt hx2 (by decide))
  · rw [Int.add_comm]; exact u64_addd 16 (Nat.add_comm _ _) p3
  · rw [q3]; exact bits_and_u64_nat (x2 / 16 + x2) 1085102592571150095 p3 (by decide)
  · exact u64_addd 256 e4 (Nat.lt_of_le_of_lt p4 (by decide))
  · exact u64_addd 65536 e5 (Nat.lt_of_le_of_lt p5 (by decide))
  · exact u64_addd 4294967296 e6 (Nat.lt_of_le_of_lt p6 (by decide))
  · have b6 : x6 < 9223372036854775808 := Nat.lt_of_le_of_lt p6 (by decide)
    rw [show wrap64 (x6 : Int) = (x6 : Int) from IntWalk.wrap64_in _ (by clear a1 a2 a3 a4 q1 q2 q3 e4 e5 e6; omega), i64_127 b6, r1]
theorem fin_all {x : Nat} (hx : x ≤ 1085102592571150095) (b3 : digB 8 8 8 x) : fin3 (fin2 (fin1 x)) % 128 = digS 8 8 x := by
  obtain ⟨d0, d1, d2, d3, d4, d5, d6, d7, hd, he, hs⟩ := digs_eq (x := x) (Nat.lt_of_le_of_lt hx (by decide)) b3
  obtain ⟨r1, _⟩ := fin_dig d0 d1 d2 d3 d4 d5 d6 d7 hd
  rw [← he, ← hs] at r1
  exact r1
theorem ones64 (x : Nat) (hx : x < 18446744073709551616) (w : World) :
    Calls Tryz.prog 75 #[.int .u64 x] w fun e w' => e = .returned (.int .i64 (digS 1 64 x)) ∧ w' = w := by
  have q3 : stg3 8 (stg 2 16 (stg 1 32 x)) = (stg 2 16 (stg 1 32 x) / 16 + stg 2 16 (stg 1 32 x)) &&& 1085102592571150095 := by rw [stg3, mkF4]
  have s1 : digS 2 32 (stg 1 32 x) = digS 1 64 x := digS_stg (k := 1) (by decide) 32 x
  have b1 : digB 2 2 32 (stg 1 32 x) := digB_stg (k := 1) (m := 1) (by decide) 32 x (digB_one 64 x)
  have s2 : digS 4 16 (stg 2 16 (stg 1 32 x)) = digS 2 32 (stg 1 32 x) := digS_stg (k := 2) (by decide) 16 _
  have b2 : digB 4 4 16 (stg 2 16 (stg 1 32 x)) := digB_stg (k := 2) (m := 2) (by decide) 16 _ b1
  obtain ⟨s3, b3⟩ := digS_stg3 8 _ b2
  have a5 : stg3 8 (stg 2 16 (stg 1 32 x)) ≤ 1085102592571150095 := by rw [q3]; exact Nat.and_le_right
  have q1 : stg 1 32 x = (x / 2 &&& 6148914691236517205) + (x &&& 6148914691236517205) := by unfold stg; rw [mkF1]
  have q2 : stg 2 16 (stg 1 32 x) = (stg 1 32 x / 4 &&& 3689348814741910323) + (stg 1 32 x &&& 3689348814741910323) := by rw [stg, mkF2]
  exact ones_num x _ _ _ _ _ _ _ hx w q1 q2 q3 rfl rfl rfl ((fin_all a5 b3).trans (s3.trans (s2.trans s1)))

set_option maxRecDepth 100000 in
theorem implOnes (x : Nat) (hx : x < 18446744073709551616) (w : World) :
    Calls Tryz.prog 51 #[.int .u64 x] w fun e w' => e = .returned (.int .i64 (digS 1 64 x)) ∧ w' = w := by
  have HZ := Lib.hid (ones64 x hx w)
  generalize digS 1 64 x = n at HZ ⊢
  go_enter Tryz.func51, Tryz.ntmps51
  go_wp2_with fail
  refine HZ.out.mono ?_
  rintro e w1 ⟨rfl, rfl⟩
  go_wp2
  go_ret
  exact ⟨rfl, rfl⟩
end Go.Proofs.YtcoggnoeafpgbaaGreat
