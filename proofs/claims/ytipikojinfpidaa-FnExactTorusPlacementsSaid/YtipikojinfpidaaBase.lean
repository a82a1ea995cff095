/- Base: plain lemmas on bits of int64 numbers and on the cells of slices; no statement about a Go function. -/
import Derived.WalkKit
import Derived.Handy
import Derived.WalkLawsBesides
import Derived.WalkSpells
import Derived.BigQuiet
import Derived.Deep.QuietTactic
import Derived.StillTailTactics
import Derived.Lib.Hide
namespace Go.Proofs.Ytipikojinfpidaa
open Go.RowKit

theorem ofInt_i64 (a : Nat) (ha : a < 18446744073709551616) : (BitVec.ofInt 64 (a : Int)).toNat = a := by
  rw [BitVec.ofInt_natCast, BitVec.toNat_ofNat]; exact Nat.mod_eq_of_lt (by omega)
theorem i64_and_nat (a b : Nat) (ha : a < 9223372036854775808) (hb : b < 9223372036854775808) : bits .and .i64 (a : Int) (b : Int) = ((a &&& b : Nat) : Int) := by
  have hx : a &&& b ≤ a := Nat.and_le_left
  show IntKind.i64.wrap ((BitVec.ofInt 64 (a : Int) &&& BitVec.ofInt 64 (b : Int)).toNat : Int) = _
  rw [BitVec.toNat_and, ofInt_i64 a (by omega), ofInt_i64 b (by omega), IntKind.wrap_i64]
  omega
theorem i64_or_nat (a b : Nat) (ha : a < 9223372036854775808) (hb : b < 9223372036854775808) : bits .or .i64 (a : Int) (b : Int) = ((a ||| b : Nat) : Int) := by
  have hx : a ||| b < 2 ^ 63 := Nat.or_lt_two_pow (by omega) (by omega)
  show IntKind.i64.wrap ((BitVec.ofInt 64 (a : Int) ||| BitVec.ofInt 64 (b : Int)).toNat : Int) = _
  rw [BitVec.toNat_or, ofInt_i64 a (by omega), ofInt_i64 b (by omega), IntKind.wrap_i64]
  omega
theorem i64_and_one (a : Nat) (ha : a < 9223372036854775808) : bits .and .i64 (a : Int) 1 = ((a % 2 : Nat) : Int) := by
  have := i64_and_nat a 1 ha (by omega)
  rw [Nat.and_one_is_mod] at this
  exact this
theorem and_shr_one (m k : Nat) (hm : m < 9223372036854775808) : bits .and .i64 ((m : Int) / 2 ^ k) 1 = if m.testBit k then 1 else 0 := by
  have e : ((m : Int) / 2 ^ k) = ((m / 2 ^ k : Nat) : Int) := by norm_cast
  rw [e, i64_and_one _ (Nat.lt_of_le_of_lt (Nat.div_le_self _ _) hm), Nat.testBit_eq_decide_div_mod_eq]
  have := Nat.mod_lt (m / 2 ^ k) (show 0 < 2 by decide)
  by_cases h : m / 2 ^ k % 2 = 1
  · simp [h]
  · have h0 : m / 2 ^ k % 2 = 0 := by omega
    simp [h0]
theorem wrap_add_pow (s p : Nat) (hp : p ≤ 60) (hs : s ≤ 1152921504606846976) : wrap64 ((s : Int) + wrap64 (2 ^ p)) = ((s + 2 ^ p : Nat) : Int) := by
  have h : 2 ^ p ≤ 2 ^ 60 := Nat.pow_le_pow_right (by decide) hp
  have e : ((2 : Int) ^ p) = ((2 ^ p : Nat) : Int) := by norm_cast
  rw [e]
  generalize 2 ^ p = q at h
  rw [IntWalk.wrap64_in (q : Int) (by omega), IntWalk.wrap64_in _ (by omega)]
  norm_cast
theorem or_pow (s p : Nat) (hp : p ≤ 60) (hs : s ≤ 1152921504606846976) : bits .or .i64 (s : Int) (wrap64 (2 ^ p)) = ((s ||| 2 ^ p : Nat) : Int) := by
  have h : 2 ^ p ≤ 2 ^ 60 := Nat.pow_le_pow_right (by decide) hp
  have e : ((2 : Int) ^ p) = ((2 ^ p : Nat) : Int) := by norm_cast
  rw [e]
  generalize 2 ^ p = q at h
  rw [IntWalk.wrap64_in (q : Int) (by omega), i64_or_nat _ _ (by omega) (by omega)]
theorem bv_split (x y : BitVec 64) : (x &&& ~~~y).toNat + (x &&& y).toNat = x.toNat := by
  have h0 : (x &&& ~~~y) &&& (x &&& y) = 0#64 := by
    ext i hi
    simp only [BitVec.getElem_and, BitVec.getElem_not, BitVec.getElem_zero]
    cases x[i] <;> cases y[i] <;> rfl
  have h1 : (x &&& ~~~y) + (x &&& y) = x := by
    rw [BitVec.add_eq_or_of_and_eq_zero _ _ h0]
    ext i hi
    simp
    cases x[i] <;> cases y[i] <;> rfl
  have h2 := congrArg BitVec.toNat h1
  rw [BitVec.toNat_add] at h2
  have hx := x.isLt
  have ha : (x &&& ~~~y).toNat ≤ x.toNat := by rw [BitVec.toNat_and]; exact Nat.and_le_left
  by_cases hlt : (x &&& ~~~y).toNat + (x &&& y).toNat < 2 ^ 64
  · rwa [Nat.mod_eq_of_lt hlt] at h2
  · have hb : (x &&& y).toNat ≤ x.toNat := by rw [BitVec.toNat_and]; exact Nat.and_le_left
    omega
theorem i64_andNot_nat (a b : Nat) (ha : a < 9223372036854775808) (hb : b < 9223372036854775808) : bits .andNot .i64 (a : Int) (b : Int) = ((a - (a &&& b) : Nat) : Int) := by
  have h := bv_split (BitVec.ofInt 64 (a : Int)) (BitVec.ofInt 64 (b : Int))
  have hx : a &&& b ≤ a := Nat.and_le_left
  show IntKind.i64.wrap ((BitVec.ofInt 64 (a : Int) &&& ~~~(BitVec.ofInt 64 (b : Int))).toNat : Int) = _
  rw [BitVec.toNat_and (x := BitVec.ofInt 64 (a : Int)) (y := BitVec.ofInt 64 (b : Int)), ofInt_i64 a (by omega), ofInt_i64 b (by omega)] at h
  rw [IntKind.wrap_i64]
  omega

theorem or_eq_add {x y : Nat} (h : x &&& y = 0) : x ||| y = x + y := by
  have hlt : x + y < 2 ^ (x + y) := Nat.lt_two_pow_self
  have hbv : BitVec.ofNat (x + y) x &&& BitVec.ofNat (x + y) y = 0#(x + y) := by
    apply BitVec.eq_of_toNat_eq
    rw [BitVec.toNat_and, BitVec.toNat_ofNat, BitVec.toNat_ofNat, Nat.mod_eq_of_lt (by omega), Nat.mod_eq_of_lt (by omega), h]
    simp
  have h2 := congrArg BitVec.toNat (BitVec.add_eq_or_of_and_eq_zero _ _ hbv)
  rw [BitVec.toNat_add, BitVec.toNat_or, BitVec.toNat_ofNat, BitVec.toNat_ofNat, Nat.mod_eq_of_lt (a := x) (by omega), Nat.mod_eq_of_lt (a := y) (by omega), Nat.mod_eq_of_lt hlt] at h2
  exact h2.symm
theorem and_two_pow_zero {s p : Nat} (h : s.testBit p = false) : s &&& 2 ^ p = 0 := by
  apply Nat.eq_of_testBit_eq
  intro i
  rw [Nat.testBit_and, Nat.testBit_two_pow, Nat.zero_testBit]
  by_cases e : p = i
  · subst e; simp [h]
  · simp [e]
theorem or_two_pow {s p : Nat} (h : s.testBit p = false) : s ||| 2 ^ p = s + 2 ^ p := or_eq_add (and_two_pow_zero h)

/-- A callee that leaves the world as it is, inside a region that only reads. -/
theorem quiet_same {P : Program} {f : FuncId} {args : Array Value} {w : World} {n : Nat} {v : Value}
    (h : Calls P f args (w.drewN n) fun e w' => e = .returned v ∧ w.drewN n = w') : Calls P f args (w.drewN n) fun e w'' => e = .returned v ∧ ∃ m, w'' = w.drewN m :=
  h.mono fun _ _ ⟨he, hm⟩ => ⟨he, n, hm.symm⟩

end Go.Proofs.Ytipikojinfpidaa
