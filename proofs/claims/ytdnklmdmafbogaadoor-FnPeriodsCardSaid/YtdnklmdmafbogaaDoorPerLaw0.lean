/- PerLaw0: what FnPeriods asks of the row graph's length and of the largest square, plain. -/
import Derived.Test.YtdnklmdmafbogaaDoorWGrid2
import Derived.Test.YtdnklmdmafbogaaDoorRowG0
namespace Go.Proofs.YtdnklmdmafbogaaDoor
open Go.RowKit

theorem rg_small (ts : List Tile) (a : Int) : (rgL ts a).length ≤ 80 ∧ ∀ r ∈ rgL ts a, r.length ≤ 40 := by
  unfold rgL
  split
  · rename_i h
    refine ⟨by rw [rgTo_length]; have := h.2; omega, fun r hr => ?_⟩
    unfold rgTo at hr
    rcases List.mem_append.1 hr with hr | hr
    · obtain ⟨f, hf, rfl⟩ := List.mem_map.1 hr
      have := fillsF_length ts a.toNat a.toNat [] f hf
      rw [nats_length, this]
      have := h.1.2.2
      rw [List.length_nil]
      omega
    · obtain ⟨i, _, rfl⟩ := List.mem_map.1 hr
      have := nextTo_length ts a.toNat (rgF ts a) i (rgF ts a).length
      rw [nats_length]
      have := h.2
      omega
  · simp
/-- The row graph has twice as many rows as there are fills of one row. -/
theorem rg_count {ts : List Tile} {a : Int} (h : rgB ts a = true) : ((rgL ts a).length : Int) = 2 * countFills ts a 1 ∧ 0 ≤ countFills ts a 1 ∧ countFills ts a 1 ≤ 40 := by
  have hp := of_decide_eq_true (show decide (rgOk ts a ∧ (rgF ts a).length ≤ 40) = true from h)
  have hL : rgL ts a = rgTo ts a.toNat (rgF ts a) (rgF ts a).length := if_pos hp
  obtain ⟨⟨hW, h1, h3⟩, h40⟩ := hp
  have hc : countFills ts a 1 = ((rgF ts a).length : Nat) := by
    unfold countFills
    rw [if_pos ⟨hW, ⟨h1, by omega⟩, by omega, by omega⟩, show Int.toNat 1 = 1 from rfl, Nat.mul_one]
    show ((min 2000 (rgF ts a).length : Nat) : Int) = _
    rw [Nat.min_eq_right (by omega)]
  rw [hL, rgTo_length, hc]
  exact ⟨by omega, by omega, by omega⟩
end Go.Proofs.YtdnklmdmafbogaaDoor
