/- Packs0: largest lists of masks without common cells: the program's greedy choice is the reference's first largest; plain. -/
import Derived.Test.YtcoggnoeafpgbaaGreatOnes0
namespace Go.Proofs.YtcoggnoeafpgbaaGreat

/-- The greatest number of masks without cells that are used. -/
def mostL : List Int → Nat → Nat
  | [], _ => 0
  | v :: t, used => if v.toNat &&& used = 0 then max (mostL t used) (1 + mostL t (used ||| v.toNat)) else mostL t used
/-- The program's list: the first mask that loses nothing, again and again. -/
def packL : List Int → Nat → List Int
  | [], _ => []
  | v :: t, used => if v.toNat &&& used = 0 ∧ 1 + mostL t (used ||| v.toNat) = mostL (v :: t) used then v :: packL t (used ||| v.toNat) else packL t used
theorem packL_length : ∀ (l : List Int) (used : Nat), (packL l used).length = mostL l used
  | [], _ => rfl
  | v :: t, used => by
    have h1 := packL_length t used
    have h2 := packL_length t (used ||| v.toNat)
    rw [packL]
    by_cases hz : v.toNat &&& used = 0
    · have hm : mostL (v :: t) used = max (mostL t used) (1 + mostL t (used ||| v.toNat)) := by rw [mostL, if_pos hz]
      by_cases hq : 1 + mostL t (used ||| v.toNat) = mostL (v :: t) used
      · rw [if_pos ⟨hz, hq⟩, List.length_cons, h2, ← hq, Nat.add_comm]
      · rw [if_neg (fun q : _ ∧ _ => hq q.2), h1]
        rw [hm] at hq ⊢
        omega
    · rw [if_neg (fun q : _ ∧ _ => hz q.1), h1, mostL, if_neg hz]
/-- The reference's: behind a best list so far. -/
def packS : List Int → Nat → List Int → List Int
  | [], _, best => best
  | v :: t, used, best => if v.toNat &&& used = 0 then packS t used (if best.length < (v :: packS t (used ||| v.toNat) []).length then v :: packS t (used ||| v.toNat) [] else best) else packS t used best
theorem packS_eq : ∀ (l : List Int) (used : Nat) (best : List Int), packS l used best = if best.length < mostL l used then packL l used else best
  | [], used, best => by rw [packS, mostL, if_neg (Nat.not_lt_zero _)]
  | v :: t, used, best => by
    by_cases hz : v.toNat &&& used = 0
    · have hx : packS t (used ||| v.toNat) [] = packL t (used ||| v.toNat) := by
        rw [packS_eq t (used ||| v.toNat) []]
        by_cases h : ([] : List Int).length < mostL t (used ||| v.toNat)
        · rw [if_pos h]
        · rw [if_neg h]
          have := packL_length t (used ||| v.toNat)
          rw [List.length_nil] at h
          exact (List.eq_nil_of_length_eq_zero (by omega)).symm
      have hm : mostL (v :: t) used = max (mostL t used) (1 + mostL t (used ||| v.toNat)) := by rw [mostL, if_pos hz]
      have hl2 := packL_length t (used ||| v.toNat)
      rw [packS, if_pos hz, hx, packS_eq t used, packL, List.length_cons, hl2]
      generalize mostL t (used ||| v.toNat) = a at hm hl2 ⊢
      generalize mostL t used = b at hm ⊢
      generalize mostL (v :: t) used = m at hm ⊢
      by_cases hb : best.length < a + 1
      · rw [if_pos hb, List.length_cons, hl2]
        by_cases h2 : a + 1 < b
        · rw [if_pos h2, if_pos (by omega), if_neg (by omega)]
        · rw [if_neg h2, if_pos (by omega), if_pos ⟨hz, by omega⟩]
      · rw [if_neg hb]
        by_cases h2 : best.length < b
        · rw [if_pos h2, if_pos (by omega), if_neg (by omega)]
        · rw [if_neg h2, if_neg (by omega)]
    · have e1 : mostL (v :: t) used = mostL t used := by rw [mostL, if_neg hz]
      have e2 : packL (v :: t) used = packL t used := by rw [packL, if_neg (fun q : _ ∧ _ => hz q.1)]
      rw [packS, if_neg hz, packS_eq t used best, e1, e2]
theorem packS_nil (l : List Int) (used : Nat) : packS l used [] = packL l used := by
  rw [packS_eq]
  by_cases h : ([] : List Int).length < mostL l used
  · rw [if_pos h]
  · rw [if_neg h]
    have := packL_length l used
    rw [List.length_nil] at h
    exact (List.eq_nil_of_length_eq_zero (by omega)).symm
theorem mostL_le : ∀ (l : List Int) (used : Nat), mostL l used ≤ l.length
  | [], _ => Nat.le_refl _
  | v :: t, used => by
    have h1 := mostL_le t used
    have h2 := mostL_le t (used ||| v.toNat)
    rw [mostL, List.length_cons]
    split <;> omega
theorem packL_le (l : List Int) (used : Nat) : (packL l used).length ≤ l.length := by rw [packL_length]; exact mostL_le l used
theorem packL_mem : ∀ (l : List Int) (used : Nat), ∀ v ∈ packL l used, v ∈ l
  | [], _, v, h => h
  | u :: t, used, v, h => by
    rw [packL] at h
    split at h
    · rcases List.mem_cons.1 h with rfl | h
      · exact List.mem_cons_self
      · exact List.mem_cons_of_mem _ (packL_mem t _ v h)
    · exact List.mem_cons_of_mem _ (packL_mem t _ v h)
end Go.Proofs.YtcoggnoeafpgbaaGreat
