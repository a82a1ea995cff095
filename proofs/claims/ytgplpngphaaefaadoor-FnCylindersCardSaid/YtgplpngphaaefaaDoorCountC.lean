/- CountC: the walks of CountCylinder, the reference's and the program's. -/
import Derived.Test.YtgplpngphaaefaaDoorCylP
import Derived.Test.YtgplpngphaaefaaDoorSCount
import Derived.Test.YtgplpngphaaefaaDoorAllFill
import Derived.Deep.RegionHeld3
import Derived.BigRegion
import Derived.Deep.DrawnRows
namespace Go.Proofs.YtgplpngphaaefaaDoor
open Go.RowKit

attribute [local go_sem ↓] Go.wp_at_zero Go.wp_at_succ

theorem cylCell_mk {W N y x : Nat} (hW : W ≤ 4) (hN : 0 < N ∧ N ≤ 6) (hy : y < N) (hx : x < W) : ∀ v ∈ cylCell W N y x, Mk v := by
  have hp : ∀ p q : Nat, p ≤ 24 → q ≤ 24 → Mk ((2 ^ p + 2 ^ q : Nat) : Int) := fun p q h1 h2 => by
    have e1 : 2 ^ p ≤ 16777216 := Nat.pow_le_pow_right (by decide) h1
    have e2 : 2 ^ q ≤ 16777216 := Nat.pow_le_pow_right (by decide) h2
    have e3 : 0 < 2 ^ p := Nat.two_pow_pos p
    unfold Mk
    generalize 2 ^ p = P at e1 e3 ⊢
    generalize 2 ^ q = Q at e2 ⊢
    omega
  have h1 : y * W ≤ 5 * 4 := Nat.mul_le_mul (by omega) hW
  have h2 : (y + 1) % N * W ≤ 5 * 4 := Nat.mul_le_mul (by have := Nat.mod_lt (y + 1) hN.1; omega) hW
  intro v hv
  unfold cylCell at hv
  rcases List.mem_append.1 hv with hv | hv
  · split at hv
    · rw [List.mem_singleton] at hv
      subst hv
      exact hp _ _ (by omega) (by omega)
    · simp at hv
  · rw [List.mem_singleton] at hv
    subst hv
    exact hp _ _ (by omega) (by omega)
theorem cylRow_mk {W N y : Nat} (hW : W ≤ 4) (hN : 0 < N ∧ N ≤ 6) (hy : y < N) : ∀ x, x ≤ W → ∀ v ∈ cylRow W N y x, Mk v
  | 0, _ => fun v hv => by simp [cylRow] at hv
  | x + 1, hx => fun v hv => by
    rw [cylRow] at hv
    rcases List.mem_append.1 hv with hv | hv
    · exact cylRow_mk hW hN hy x (by omega) v hv
    · exact cylCell_mk hW hN hy (by omega) v hv
theorem cylAll_mk {W N : Nat} (hW : W ≤ 4) (hN : 0 < N ∧ N ≤ 6) : ∀ y, y ≤ N → ∀ v ∈ cylAll W N y, Mk v
  | 0, _ => fun v hv => by simp [cylAll] at hv
  | y + 1, hy => fun v hv => by
    rw [cylAll] at hv
    rcases List.mem_append.1 hv with hv | hv
    · exact cylAll_mk hW hN y (by omega) v hv
    · exact cylRow_mk hW hN (by omega) W (Nat.le_refl _) v hv
theorem cylL_mk (a b : Int) : ∀ v ∈ cylL a b, Mk v := by
  intro v hv
  unfold cylL at hv
  split at hv
  · rename_i h
    exact cylAll_mk (by have := h.1; omega) (by have := h.2; omega) _ (Nat.le_refl _) v ((mem_putAllG wholeI _ v).1 hv)
  · simp at hv
theorem cylL_pos {W N : Nat} (hW : 1 ≤ W ∧ W ≤ 4) (hN : 3 ≤ N ∧ N ≤ 6) : 0 < (cylL W N).length := by
  have h : CylFine W N := ⟨by omega, by omega⟩
  obtain ⟨v, hv⟩ : ∃ v, v ∈ cylL W N := by
    obtain ⟨m, rfl⟩ : ∃ m, N = m + 1 := ⟨N - 1, by omega⟩
    obtain ⟨k, rfl⟩ : ∃ k, W = k + 1 := ⟨W - 1, by omega⟩
    refine ⟨((2 ^ (m * (k + 1) + k) + 2 ^ ((m + 1) % (m + 1) * (k + 1) + k) : Nat) : Int), ?_⟩
    rw [show cylL ((k + 1 : Nat) : Int) ((m + 1 : Nat) : Int) = _ from if_pos h, mem_putAllG wholeI, Int.toNat_natCast, Int.toNat_natCast]
    rw [cylAll, cylRow]
    unfold cylCell
    exact List.mem_append_right _ (List.mem_append_right _ (List.mem_append_right _ (List.mem_singleton.2 rfl)))
  exact List.length_pos_of_mem hv
theorem cyl_all2 {W H : Nat} (hW : 1 ≤ W ∧ W ≤ 4) (hH : 3 ≤ H ∧ H ≤ 6) : ∃ n pn n1 : Nat, (n1 = 2 ^ (W * H) - 1 ∧ n ≤ 24 ∧ pn ≤ 16777216 ∧ n1 + 1 = pn) ∧ (W : Int) * (H : Int) = (n : Int) ∧ wrap64 (2 ^ n) = (pn : Int) ∧ (pn : Int) - 1 = (n1 : Int) ∧
    IntKind.i64.wrap (n : Int) = (n : Int) ∧ IntKind.i64.wrap (2 ^ n) = (pn : Int) ∧ IntKind.i64.wrap (n1 : Int) = (n1 : Int) ∧ (n : Int) < 64 := by
  have h24 : W * H ≤ 24 := Nat.mul_le_mul hW.2 hH.2
  have hp : 2 ^ (W * H) ≤ 2 ^ 24 := Nat.pow_le_pow_right (by decide) h24
  have hp0 : 0 < 2 ^ (W * H) := Nat.two_pow_pos _
  have h1 : ((2 : Int) ^ (W * H)) = ((2 ^ (W * H) : Nat) : Int) := by norm_cast
  have hw : wrap64 (2 ^ (W * H)) = ((2 ^ (W * H) : Nat) : Int) := by
    rw [h1]
    exact IntWalk.wrap64_in _ (by omega)
  exact ⟨W * H, 2 ^ (W * H), 2 ^ (W * H) - 1, ⟨rfl, h24, hp, by omega⟩, by norm_cast, hw, by omega, IntWalk.i64_in _ (by omega), by rw [IntWalk.i64_left]; exact hw, IntWalk.i64_in _ (by omega), by omega⟩
/-- How many tilings a cylinder has, up to a bound. -/
def ccR (x y : Int) : Int := if CylFine x y then ((min 2000 (srchF (cylL x y) (2 ^ (x.toNat * y.toNat) - 1) (2 ^ (x.toNat * y.toNat) - 1)).length : Nat) : Int) else -1

set_option maxRecDepth 100000 in
set_option maxHeartbeats 3200000 in
theorem implCC (x y : Int) (w : World) (hT : Tab w) :
    Calls Tryd.prog 6 #[.int .i64 x, .int .i64 y] w fun e w' => e = .returned (.int .i64 (ccR x y)) ∧ Below w.heap.size w w' := by
  have HCP := Lib.hid (implCylP x y w)
  have HT := Lib.hid hT
  clear hT
  by_cases hf : CylFine x y
  · obtain ⟨W, N, rfl, rfl, hW1, hW4, hN3, hN6⟩ := fine_nat hf
    rw [show ccR W N = ((min 2000 (srchF (cylL W N) (2 ^ (W * N) - 1) (2 ^ (W * N) - 1)).length : Nat) : Int) from by unfold ccR; rw [if_pos hf, Int.toNat_natCast, Int.toNat_natCast]]
    obtain ⟨n, pn, n1, ⟨hn1, hn25, hpn, hn1p⟩, t1, t2, t3, t4, t5, t6, t7⟩ := cyl_all2 ⟨hW1, hW4⟩ ⟨hN3, hN6⟩
    rw [← hn1]
    have HSM := Lib.hid (cylL_mk W N)
    have hlen := cylL_length W N
    have hpos := cylL_pos ⟨hW1, hW4⟩ ⟨hN3, hN6⟩
    clear hn1 hf
    generalize cylL W N = A at HSM HCP hlen hpos ⊢
    have HN1 := Lib.hid (show n1 < 68719476736 by omega)
    have hcn : min 2000 (srchF A n1 n1).length ≤ 2000 := Nat.min_le_left _ _
    have HCU := Lib.hid (fun aa ca w1 h1 h2 => implCountUpTo aa ca A n1 2000 w1 (by omega) HSM.out HN1.out (by omega) (by omega) h1 h2)
    have hne : ((A.length : Int) == 0) = false := beq_false_of_ne (by omega)
    generalize min 2000 (srchF A n1 n1).length = cn at HCU hcn ⊢
    go_enter Tryd.func6, Tryd.ntmps6
    go_wp2_with fail
    refine HCP.out.mono ?_
    rintro e w1 ⟨aa, ca, rfl, ho1, hb1⟩
    have HB1 := Lib.hid hb1
    have hsz1 := hb1.size
    have HCV := Lib.hid (HCU.out aa ca w1 (HT.out.below hb1) (ownsRow_cellsAt ho1))
    clear ho1 hb1
    go_wp2_with fail
    refine HCV.out.mono ?_
    rintro e w2 ⟨rfl, hb2⟩
    have HB2 := Lib.hid (HB1.out.trans (hb2.mono hsz1))
    clear hb2
    go_wp2
    go_ret
    exact ⟨rfl, HB2.out⟩
  · rw [show ccR x y = -1 from if_neg hf]
    rw [show cylL x y = [] from if_neg hf] at HCP
    clear hf
    go_enter Tryd.func6, Tryd.ntmps6
    go_wp2_with fail
    refine HCP.out.mono ?_
    rintro e w1 ⟨aa, ca, rfl, _, hb1⟩
    have HB1 := Lib.hid hb1
    clear hb1
    go_wp2
    go_ret
    exact ⟨rfl, HB1.out⟩

set_option maxRecDepth 100000 in
set_option maxHeartbeats 3200000 in
theorem specCC (x y : Int) (w : World) :
    Calls Tryd.prog 5 #[.int .i64 x, .int .i64 y] w fun e w' => e = .returned (.int .i64 (ccR x y)) ∧ Below w.heap.size w w' := by
  have HCP := Lib.hid (specCylP x y w)
  by_cases hf : CylFine x y
  · obtain ⟨W, N, rfl, rfl, hW1, hW4, hN3, hN6⟩ := fine_nat hf
    rw [show ccR W N = ((min 2000 (srchF (cylL W N) (2 ^ (W * N) - 1) (2 ^ (W * N) - 1)).length : Nat) : Int) from by unfold ccR; rw [if_pos hf, Int.toNat_natCast, Int.toNat_natCast]]
    obtain ⟨n, pn, n1, ⟨hn1, hn25, hpn, hn1p⟩, t1, t2, t3, t4, t5, t6, t7⟩ := cyl_all2 ⟨hW1, hW4⟩ ⟨hN3, hN6⟩
    rw [← hn1]
    have HSM := Lib.hid (cylL_mk W N)
    have hlen := cylL_length W N
    have hpos := cylL_pos ⟨hW1, hW4⟩ ⟨hN3, hN6⟩
    clear hn1 hf
    generalize cylL W N = A at HSM HCP hlen hpos ⊢
    have HN1 := Lib.hid (show n1 < 68719476736 by omega)
    have hcn : min 2000 (srchF A n1 n1).length ≤ 2000 := Nat.min_le_left _ _
    have HCU := Lib.hid (fun aa ca w1 h1 => specCount aa ca A (by omega) HSM.out n1 n1 2000 w1 (Nat.le_refl _) HN1.out (by omega) (by omega) h1)
    have hne : ((A.length : Int) == 0) = false := beq_false_of_ne (by omega)
    generalize min 2000 (srchF A n1 n1).length = cn at HCU hcn ⊢
    go_enter Tryd.func5, Tryd.ntmps5
    go_wp2_with fail
    refine HCP.out.mono ?_
    rintro e w1 ⟨aa, ca, rfl, ho1, hb1⟩
    have HB1 := Lib.hid hb1
    have hsz1 := hb1.size
    have HCV := Lib.hid (HCU.out aa ca w1 (ownsRow_cellsAt ho1))
    clear ho1 hb1
    go_wp2_with fail
    refine HCV.out.mono ?_
    rintro e w2 ⟨rfl, hb2⟩
    have HB2 := Lib.hid (HB1.out.trans (hb2.mono hsz1))
    clear hb2
    go_wp2
    go_ret
    exact ⟨rfl, HB2.out⟩
  · rw [show ccR x y = -1 from if_neg hf]
    rw [show cylL x y = [] from if_neg hf] at HCP
    clear hf
    go_enter Tryd.func5, Tryd.ntmps5
    go_wp2_with fail
    refine HCP.out.mono ?_
    rintro e w1 ⟨aa, ca, rfl, _, hb1⟩
    have HB1 := Lib.hid hb1
    clear hb1
    go_wp2
    go_ret
    exact ⟨rfl, HB1.out⟩
end Go.Proofs.YtgplpngphaaefaaDoor
