/- Scale1: the rows of the larger region while they are filled, as the program fills them and as the reference fills them; plain. -/
import Derived.Test.YtmpcmeeoiapbdaaGreatDoorScale0
namespace Go.Proofs.YtmpcmeeoiapbdaaGreatDoor
open Go.RowKit

def tab (Y : Nat) (f : Nat → Nat) : List Int := (List.range Y).map fun y => ((f y : Nat) : Int)
theorem tab_length (Y : Nat) (f : Nat → Nat) : (tab Y f).length = Y := by simp [tab]
theorem tab_at {Y : Nat} {f : Nat → Nat} {y : Nat} (h : y < Y) : (tab Y f)[y]'(by rw [tab_length]; exact h) = ((f y : Nat) : Int) := by simp [tab]
theorem tab_congr {Y : Nat} {f g : Nat → Nat} (h : ∀ y, y < Y → f y = g y) : tab Y f = tab Y g := by
  unfold tab
  refine List.map_congr_left fun y hy => ?_
  rw [h y (List.mem_range.1 hy)]
theorem tab_set {Y : Nat} {f g : Nat → Nat} {y : Nat} {v : Int} (_h : y < Y) (hv : v = ((g y : Nat) : Int)) (hg : ∀ z, z < Y → z ≠ y → f z = g z) : (tab Y f).set y v = tab Y g := by
  apply List.ext_getElem
  · simp [tab]
  · intro i h1 h2
    rw [List.getElem_set]
    have hi : i < Y := by rw [tab_length] at h2; exact h2
    split
    · rename_i e
      subst e
      rw [tab_at hi, hv]
    · rename_i e
      rw [tab_at hi, tab_at hi, hg i hi (fun q => e q.symm)]
theorem tab_zero (Y : Nat) : tab Y (fun _ => 0) = List.replicate Y 0 := by
  apply List.ext_getElem
  · simp [tab]
  · intro i h1 h2
    rw [tab_at (by rw [tab_length] at h1; exact h1)]
    simp
/-- The rows when the cells P are drawn. -/
def scF (k : Nat) (P : List Cl) (y : Nat) : Nat := scRow k P y
theorem block_iff (k b y : Nat) (hk : 0 < k) : (b * k ≤ y ∧ y < b * k + k) ↔ b = y / k := by
  have h := div_iff k y b hk
  constructor
  · intro q; exact (h.1 ⟨q.1, by omega⟩).symm
  · intro q
    have := h.2 q.symm
    omega
/-- The program: j rows of the cell c are drawn. -/
def stI (k : Nat) (P : List Cl) (c : Cl) (j y : Nat) : Nat := if c.y.toNat * k ≤ y ∧ y < c.y.toNat * k + j then scRow k (P ++ [c]) y else scRow k P y
theorem stI_zero (k Y : Nat) (P : List Cl) (c : Cl) : tab Y (stI k P c 0) = tab Y (scF k P) := tab_congr fun y _ => by
  unfold stI scF
  rw [if_neg (by omega)]
theorem stI_full (k Y : Nat) (P : List Cl) (c : Cl) (hk : 0 < k) : tab Y (stI k P c k) = tab Y (scF k (P ++ [c])) := tab_congr fun y _ => by
  unfold stI scF
  split
  · rfl
  · rename_i h
    rw [block_iff k _ y hk] at h
    rw [scRow_snoc, if_neg h, Nat.add_zero]
theorem stI_at (k : Nat) (P : List Cl) (c : Cl) (j : Nat) : stI k P c j (c.y.toNat * k + j) = scRow k P (c.y.toNat * k + j) := by
  unfold stI
  rw [if_neg (by omega)]
theorem stI_set (k Y : Nat) (P : List Cl) (c : Cl) (j : Nat) (hy : c.y.toNat * k + j < Y) {v : Int} (hv : v = ((scRow k (P ++ [c]) (c.y.toNat * k + j) : Nat) : Int)) :
    (tab Y (stI k P c j)).set (c.y.toNat * k + j) v = tab Y (stI k P c (j + 1)) := by
  refine tab_set hy (hv.trans ?_) fun z _ hz => ?_
  · unfold stI
    rw [if_pos (by omega)]
  · unfold stI
    by_cases h : c.y.toNat * k ≤ z ∧ z < c.y.toNat * k + j
    · rw [if_pos h, if_pos (by omega)]
    · rw [if_neg h, if_neg (by omega)]
/-- The reference: i columns of the cell c are drawn, and j cells of the next. -/
def stS (k : Nat) (P : List Cl) (c : Cl) (i j y : Nat) : Nat :=
  scRow k P y + (if c.y.toNat * k ≤ y ∧ y < c.y.toNat * k + k then upTo2 (c.x.toNat * k) i + (if y < c.y.toNat * k + j then 2 ^ (c.x.toNat * k + i) else 0) else 0)
theorem stS_zero (k Y : Nat) (P : List Cl) (c : Cl) : tab Y (stS k P c 0 0) = tab Y (scF k P) := tab_congr fun y _ => by
  unfold stS scF
  split
  · rw [if_neg (by omega)]; rfl
  · rfl
theorem stS_next (k Y : Nat) (P : List Cl) (c : Cl) (i : Nat) : tab Y (stS k P c i k) = tab Y (stS k P c (i + 1) 0) := tab_congr fun y _ => by
  unfold stS
  split
  · rename_i h
    rw [if_pos h.2, if_neg (by omega), upTo2, Nat.add_zero]
  · rfl
theorem stS_full (k Y : Nat) (P : List Cl) (c : Cl) (hk : 0 < k) : tab Y (stS k P c k 0) = tab Y (scF k (P ++ [c])) := tab_congr fun y _ => by
  unfold stS scF
  rw [scRow_snoc]
  by_cases h : c.y.toNat = y / k
  · rw [if_pos h, if_pos ((block_iff k _ y hk).2 h), if_neg (by have := (block_iff k _ y hk).2 h; omega), upTo2_bit, Nat.add_zero]
  · rw [if_neg h, if_neg (fun q => h ((block_iff k _ y hk).1 q))]
theorem stS_set (k Y : Nat) (P : List Cl) (c : Cl) (i j : Nat) (hj : j < k) (hy : c.y.toNat * k + j < Y) {v : Int} (hv : v = ((stS k P c i j (c.y.toNat * k + j) + 2 ^ (c.x.toNat * k + i) : Nat) : Int)) :
    (tab Y (stS k P c i j)).set (c.y.toNat * k + j) v = tab Y (stS k P c i (j + 1)) := by
  refine tab_set hy (hv.trans ?_) fun z _ hz => ?_
  · unfold stS
    rw [if_pos (by omega), if_neg (by omega), if_pos (by omega), if_pos (by omega)]
    congr 1
    omega
  · unfold stS
    by_cases h : c.y.toNat * k ≤ z ∧ z < c.y.toNat * k + k
    · rw [if_pos h, if_pos h]
      by_cases h2 : z < c.y.toNat * k + j
      · rw [if_pos h2, if_pos (by omega)]
      · rw [if_neg h2, if_neg (by omega)]
    · rw [if_neg h, if_neg h]
end Go.Proofs.YtmpcmeeoiapbdaaGreatDoor
