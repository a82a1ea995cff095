/- PacksL: the plain part of the law of packings: the largest packing is one, the fewest blockers block and are no fewer than its pieces. -/
import Derived.Test.YtcoggnoeafpgbaaGreatAllPJ
import Derived.Test.YtcoggnoeafpgbaaGreatAllFewB
import Derived.Test.YtcoggnoeafpgbaaGreatAllPl
import Derived.Test.YtcoggnoeafpgbaaGreatBitsW
namespace Go.Proofs.YtcoggnoeafpgbaaGreat
open Go.RowKit

theorem fold_stepQ {A : List Int} {M : Nat} : ∀ (F : List Nat) (sq : Nat × Nat), (∀ m ∈ F, m &&& M = m) → (blocksL A sq.1 = true ∧ sq.1 &&& M = sq.1) → (blocksL A (F.foldl (stepQ A) sq).1 = true ∧ (F.foldl (stepQ A) sq).1 &&& M = (F.foldl (stepQ A) sq).1)
  | [], _, _, h => h
  | m :: F, sq, hF, h => by
    rw [List.foldl_cons]
    refine fold_stepQ F _ (fun x hx => hF x (List.mem_cons_of_mem _ hx)) ?_
    unfold stepQ
    by_cases hc : pc m < sq.2 ∧ blocksL A m = true
    · rw [if_pos hc]; exact ⟨hc.2, hF m List.mem_cons_self⟩
    · rw [if_neg hc]; exact h
theorem and_of_sub {m M : Nat} (h : ∀ i, m.testBit i = true → M.testBit i = true) : m &&& M = m := by
  refine Nat.eq_of_testBit_eq fun i => ?_
  rw [Nat.testBit_and]
  cases hb : m.testBit i with
  | false => rfl
  | true => rw [h i hb]; rfl
theorem fewB_facts {A : List Int} {M : Nat} (hA : blocksL A M = true) : blocksL A (fewB A M) = true ∧ fewB A M &&& M = fewB A M :=
  fold_stepQ (partsL M) (M, pc M) (fun m hm => and_of_sub (subL_sub M 36 m hm)) ⟨hA, Nat.and_self M⟩
theorem packL_apart : ∀ (l : List Int) (used : Nat), (∀ v ∈ packL l used, v.toNat &&& used = 0) ∧ (packL l used).Pairwise (fun a b : Int => a.toNat &&& b.toNat = 0)
  | [], _ => ⟨fun v h => absurd h List.not_mem_nil, List.Pairwise.nil⟩
  | u :: t, used => by
    rw [packL]
    split
    · next hz =>
      obtain ⟨h1, h2⟩ := packL_apart t (used ||| u.toNat)
      have hh : ∀ v ∈ packL t (used ||| u.toNat), v.toNat &&& used = 0 ∧ v.toNat &&& u.toNat = 0 := fun v hv => by
        have := h1 v hv
        rw [Nat.and_or_distrib_left] at this
        exact Nat.or_eq_zero_iff.1 this
      refine ⟨fun v hv => ?_, List.pairwise_cons.2 ⟨fun v hv => by rw [Nat.and_comm]; exact (hh v hv).2, h2⟩⟩
      rcases List.mem_cons.1 hv with rfl | hv
      · exact hz.1
      · exact (hh v hv).1
    · exact packL_apart t used
theorem packL_sublist : ∀ (l : List Int) (used : Nat), (packL l used).Sublist l
  | [], _ => List.Sublist.slnil
  | u :: t, used => by
    rw [packL]
    split
    · exact (packL_sublist t _).cons_cons u
    · exact (packL_sublist t used).cons u
theorem usedTo_bit (l : List Int) (i : Nat) : ∀ k, k ≤ l.length → (usedTo l k).testBit i = true → ∃ j, ∃ h : j < l.length, j < k ∧ (l[j]).toNat.testBit i = true
  | 0, _, h => by rw [usedTo, Nat.zero_testBit] at h; cases h
  | k + 1, hk, h => by
    rw [usedTo, Nat.testBit_or, getD_at l k (by omega), Bool.or_eq_true] at h
    rcases h with h | h
    · obtain ⟨j, hj, hjk, hb⟩ := usedTo_bit l i k (by omega) h
      exact ⟨j, hj, by omega, hb⟩
    · exact ⟨k, by omega, by omega, h⟩
theorem apTo_of {A l : List Int} (hm : ∀ v ∈ l, v ∈ A) (ha : l.Pairwise (fun a b : Int => a.toNat &&& b.toNat = 0)) (hs : l.Pairwise (· < ·)) : ∀ k, k ≤ l.length → apTo A l k = true
  | 0, _ => rfl
  | k + 1, hk => by
    rw [apTo, apTo_of hm ha hs k (by omega), Bool.true_and, apStep_at A l k (by omega)]
    have h1 : l[k] ∈ A := hm _ (List.getElem_mem _)
    have h2 : usedTo l k &&& (l[k]).toNat = 0 := by
      refine Nat.eq_of_testBit_eq fun i => ?_
      rw [Nat.testBit_and, Nat.zero_testBit]
      cases hb : (usedTo l k).testBit i with
      | false => rfl
      | true =>
        obtain ⟨j, hj, hjk, hb2⟩ := usedTo_bit l i k (by omega) hb
        have h3 := List.pairwise_iff_getElem.1 ha j k hj (by omega) hjk
        have h4 : ((l[j]).toNat &&& (l[k]).toNat).testBit i = false := by rw [h3, Nat.zero_testBit]
        rw [Nat.testBit_and, hb2] at h4
        exact h4
    have h3 : (decide (k = 0) || decide (l.getD (k - 1) 0 < l[k])) = true := by
      by_cases hk0 : k = 0
      · rw [decide_eq_true hk0]; rfl
      · rw [getD_at l (k - 1) (by omega), decide_eq_true (List.pairwise_iff_getElem.1 hs (k - 1) k (by omega) (by omega) (by omega)), Bool.or_true]
    rw [decide_eq_true h1, decide_eq_true h2, h3]
    rfl
theorem pc_pos {m : Nat} (hm : m < 2 ^ 36) (h0 : m ≠ 0) : 1 ≤ pc m := by
  unfold pc
  rw [Nat.succ_le_iff, List.countP_pos_iff]
  obtain ⟨i, hi⟩ := Nat.exists_testBit_of_ne_zero h0
  refine ⟨i, List.mem_range.2 ?_, hi⟩
  rcases Nat.lt_or_ge i 36 with h | h
  · exact h
  · rw [Nat.testBit_lt_two_pow (Nat.lt_of_lt_of_le hm (Nat.pow_le_pow_right (by decide) h))] at hi
    cases hi
theorem apart_le : ∀ (l : List Int) (f : Nat), f < 2 ^ 36 → l.Pairwise (fun a b : Int => a.toNat &&& b.toNat = 0) → (∀ v ∈ l, v.toNat &&& f ≠ 0) → l.length ≤ pc f
  | [], _, _, _, _ => Nat.zero_le _
  | v :: t, f, hf, ha, hb => by
    obtain ⟨h1, h2⟩ := List.pairwise_cons.1 ha
    have hu : (v.toNat &&& f) &&& f = v.toNat &&& f := by rw [Nat.and_assoc, Nat.and_self]
    have h3 := pc_sub hu
    have h4 : 1 ≤ pc (v.toNat &&& f) := pc_pos (Nat.lt_of_le_of_lt Nat.and_le_right hf) (hb v List.mem_cons_self)
    have h5 : t.length ≤ pc (f - (v.toNat &&& f)) := by
      refine apart_le t _ (Nat.lt_of_le_of_lt (Nat.sub_le _ _) hf) h2 fun u hut e => hb u (List.mem_cons_of_mem _ hut) ?_
      refine Nat.eq_of_testBit_eq fun i => ?_
      have e1 : (u.toNat &&& (f - (v.toNat &&& f))).testBit i = false := by rw [e, Nat.zero_testBit]
      have e2 : (v.toNat &&& u.toNat).testBit i = false := by rw [h1 u hut, Nat.zero_testBit]
      rw [Nat.testBit_and, sub_bits hu, Nat.testBit_and] at e1
      rw [Nat.testBit_and] at e2
      rw [Nat.testBit_and, Nat.zero_testBit]
      cases hq : u.toNat.testBit i <;> cases hv : v.toNat.testBit i <;> cases hg : f.testBit i <;> simp_all
    rw [List.length_cons]
    omega
/-- All that the law says where the largest packing is found. -/
theorem packs_law {b : Int} {xs : List Int} {ps : List (List Cl)} (hs : SmallP b xs ps) :
    packR b xs ps (lpR b xs ps) = true ∧ ∃ f : Nat, fewR b xs ps = (f : Int) ∧ f < 2 ^ 36 ∧ blkR b xs ps f = true ∧ (lpR b xs ps).length ≤ pc f := by
  obtain ⟨B, rfl⟩ := Int.eq_ofNat_of_zero_le (by have := hs.1.1.1.1; omega : 0 ≤ b)
  have hr : Reg (B : Int) xs := hs.1.1
  have hp := hs.1.2
  have e1 : lpR (B : Int) xs ps = packL (allL B xs ps) 0 := if_pos hs
  have e2 : fewR (B : Int) xs ps = (fewB (allL B xs ps) (regMask B xs) : Nat) := if_pos hs
  have hf := fewB_facts (blocksL_full hr hp)
  have hM := regMask_lt hr
  have hlt : fewB (allL B xs ps) (regMask B xs) < 2 ^ 36 := by rw [← hf.2]; exact Nat.lt_of_le_of_lt Nat.and_le_right hM
  have hap := packL_apart (allL B xs ps) 0
  have hmem : ∀ v ∈ packL (allL B xs ps) 0, v ∈ allL B xs ps := fun v hv => packL_mem _ _ v hv
  have hasc : (packL (allL B xs ps) 0).Pairwise (· < ·) := by
    have h1 := asc_putAllG wholeI (allTo B xs ps ps.length)
    have h2 : (allL B xs ps).Pairwise (fun a b : Int => ltI a b = true) := h1
    exact (h2.sublist (packL_sublist _ 0)).imp fun h => of_decide_eq_true h
  refine ⟨?_, _, e2, hlt, ?_, ?_⟩
  · rw [e1]
    unfold packR apartL
    rw [Int.toNat_natCast, decide_eq_true hr, decide_eq_true hp, apTo_of hmem hap.2 hasc _ (Nat.le_refl _)]
    rfl
  · unfold blkR isMk
    rw [Int.toNat_natCast, Int.toNat_natCast, decide_eq_true hr, decide_eq_true hp, hf.1, decide_eq_true (Int.natCast_nonneg _), decide_eq_true hf.2]
    rfl
  · rw [e1]
    refine apart_le _ _ hlt hap.2 fun v hv => ?_
    have h1 := hf.1
    unfold blocksL at h1
    exact of_decide_eq_true h1 v (hmem v hv)
theorem fewR_small (b : Int) (xs : List Int) (ps : List (List Cl)) : 0 ≤ fewR b xs ps ∧ fewR b xs ps < 68719476736 := by
  by_cases hs : SmallP b xs ps
  · obtain ⟨_, f, e, hf, _⟩ := packs_law hs
    rw [e]
    constructor <;> omega
  · rw [show fewR b xs ps = 0 from if_neg hs]
    decide
end Go.Proofs.YtcoggnoeafpgbaaGreat
