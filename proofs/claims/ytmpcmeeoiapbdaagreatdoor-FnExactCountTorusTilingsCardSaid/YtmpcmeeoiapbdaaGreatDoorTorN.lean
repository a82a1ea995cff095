/- TorN: the number of a torus' cells, its full mask, and the tilings of a torus, in the order of the search; plain. -/
import Derived.Test.YtmpcmeeoiapbdaaGreatDoorTorAll0
import Derived.Test.YtmpcmeeoiapbdaaGreatDoorSrch1
namespace Go.Proofs.YtmpcmeeoiapbdaaGreatDoor
open Go.RowKit

theorem tor_all {W H : Nat} (hW : 1 ≤ W ∧ W ≤ 5) (hH : 1 ≤ H ∧ H ≤ 5) : ∃ n pn n1 : Nat, n = W * H ∧ n ≤ 25 ∧ pn = 2 ^ n ∧ pn ≤ 33554432 ∧ n1 = 2 ^ (W * H) - 1 ∧ n1 + 1 = pn ∧ (W : Int) * (H : Int) = (n : Int) ∧ wrap64 (2 ^ n) = (pn : Int) ∧ (pn : Int) - 1 = (n1 : Int) := by
  have h25 : W * H ≤ 25 := Nat.mul_le_mul hW.2 hH.2
  have hp : 2 ^ (W * H) ≤ 2 ^ 25 := Nat.pow_le_pow_right (by decide) h25
  have hp0 : 0 < 2 ^ (W * H) := Nat.two_pow_pos _
  refine ⟨W * H, 2 ^ (W * H), 2 ^ (W * H) - 1, rfl, h25, rfl, hp, rfl, by omega, by norm_cast, ?_, by omega⟩
  have h1 : ((2 : Int) ^ (W * H)) = ((2 ^ (W * H) : Nat) : Int) := by norm_cast
  rw [h1]
  exact wrap_nat (by omega)
theorem tor_all2 {W H : Nat} (hW : 1 ≤ W ∧ W ≤ 5) (hH : 1 ≤ H ∧ H ≤ 5) : ∃ n pn n1 : Nat, (n1 = 2 ^ (W * H) - 1 ∧ n ≤ 25 ∧ pn ≤ 33554432 ∧ n1 + 1 = pn) ∧ (W : Int) * (H : Int) = (n : Int) ∧ wrap64 (2 ^ n) = (pn : Int) ∧ (pn : Int) - 1 = (n1 : Int) ∧
    IntKind.i64.wrap (n : Int) = (n : Int) ∧ IntKind.i64.wrap (2 ^ n) = (pn : Int) ∧ IntKind.i64.wrap (n1 : Int) = (n1 : Int) ∧ (n : Int) < 64 := by
  obtain ⟨n, pn, n1, _, hn25, _, hpn, hn1, hn1p, t1, t2, t3⟩ := tor_all hW hH
  exact ⟨n, pn, n1, ⟨hn1, hn25, hpn, hn1p⟩, t1, t2, t3, IntWalk.i64_in _ (by omega), by rw [IntWalk.i64_left]; exact t2, IntWalk.i64_in _ (by omega), by omega⟩
/-- A valid torus and valid pieces. -/
def TorOk (x y : Int) (ps : List (List Cl)) : Prop := (1 ≤ x ∧ x ≤ 5 ∧ 1 ≤ y ∧ y ≤ 5) ∧ Pcs ps
instance (x y : Int) (ps : List (List Cl)) : Decidable (TorOk x y ps) := by unfold TorOk; infer_instance
/-- The tilings of a torus. -/
def torF (x y : Int) (ps : List (List Cl)) : List (List Int) := if TorOk x y ps then srchF (torAll x.toNat y.toNat ps) (2 ^ (x.toNat * y.toNat) - 1) (2 ^ (x.toNat * y.toNat) - 1) else []
theorem torF_yes {W H : Nat} {ps : List (List Cl)} (hW : 1 ≤ W ∧ W ≤ 5) (hH : 1 ≤ H ∧ H ≤ 5) (hp : Pcs ps) : torF W H ps = srchF (torAll W H ps) (2 ^ (W * H) - 1) (2 ^ (W * H) - 1) := by
  unfold torF
  rw [if_pos ⟨⟨by omega, by omega, by omega, by omega⟩, hp⟩, Int.toNat_natCast, Int.toNat_natCast]
theorem torF_no {x y : Int} {ps : List (List Cl)} (h : ¬ TorOk x y ps) : torF x y ps = [] := if_neg h
theorem torF_len (x y : Int) (ps : List (List Cl)) : ∀ l ∈ torF x y ps, l.length ≤ 36 := by
  intro l hl
  unfold torF at hl
  split at hl
  · rename_i h
    obtain ⟨⟨h1, h2, h3, h4⟩, hp⟩ := h
    have h25 : x.toNat * y.toNat ≤ 5 * 5 := Nat.mul_le_mul (by omega) (by omega)
    have hq : 2 ^ (x.toNat * y.toNat) ≤ 2 ^ 25 := Nat.pow_le_pow_right (by decide) h25
    exact srchF_len36 (fun v hv => (torAll_mk (by omega) (by omega) ps v hv).mk (by omega)) (Nat.lt_of_le_of_lt (Nat.sub_le _ _) (Nat.lt_of_le_of_lt hq (by decide))) l hl
  · simp at hl
/-- How many, at most 2000; -1 where something is not valid. -/
def ctR (x y : Int) (ps : List (List Cl)) : Int := if TorOk x y ps then ((min 2000 (torF x y ps).length : Nat) : Int) else -1
end Go.Proofs.YtmpcmeeoiapbdaaGreatDoor
