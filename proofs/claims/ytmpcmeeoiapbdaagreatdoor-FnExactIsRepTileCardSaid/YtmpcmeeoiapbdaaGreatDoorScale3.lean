/- Scale3: the number that the program stores in a row. -/
import Derived.Test.YtmpcmeeoiapbdaaGreatDoorScale2
import Derived.Test.YtmpcmeeoiapbdaaGreatDoorAllReg
namespace Go.Proofs.YtmpcmeeoiapbdaaGreatDoor
open Go.RowKit

theorem rowVal {k p rr : Nat} (hp : p + k ≤ 6) (hr : rr < 64) : bits .or .i64 (rr : Int) (IntKind.i64.wrap (IntKind.i64.wrap (IntKind.i64.wrap (2 ^ k) - 1) * 2 ^ p)) = ((rr ||| (2 ^ k - 1) * 2 ^ p : Nat) : Int) := by
  rw [show ((2 : Int) ^ k) = ((2 ^ k : Nat) : Int) by norm_cast]
  have h2 := pow_le6 (n := k) (by omega)
  have h3 := pow_le6 (n := p) (by omega)
  have h1 : 1 ≤ 2 ^ k := Nat.one_le_two_pow
  generalize 2 ^ k = t at h1 h2
  have hb : (t - 1) * 2 ^ p ≤ 64 * 64 := Nat.mul_le_mul (by omega) h3
  have e1 : (t : Int) - 1 = ((t - 1 : Nat) : Int) := by omega
  generalize t - 1 = r at hb e1
  rw [IntWalk.i64_in (t : Int) (by omega), e1, IntWalk.i64_in (r : Int) (by omega), IntWalk.i64_left]
  have hr1 : rr < 1073741824 := by omega
  have hb1 : r * 2 ^ p < 68719476736 := Nat.lt_of_le_of_lt hb (by decide)
  rw [or_shl hr1 hb1]
theorem ownsRow_far_set {w : World} {base e size n : Nat} {v : Value} {xs : List Value} (h : w.ownsRow base e size v n xs) {p : Addr} (u : Value) (hp : p.block < base) : (w.setCell p u).ownsRow base e size v n xs :=
  h.kept (row := some p.block) ⟨rfl, rfl, rfl, by simp [World.setCell], fun k hk hne => Below.heap_setCell _ _ _ _ (fun q => hne (by rw [q]))⟩ (.inr (fun e => by have := (h.lt _ e).1; omega))
end Go.Proofs.YtmpcmeeoiapbdaaGreatDoor
