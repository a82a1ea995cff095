/- Half0: the halves of a region by their codes; plain. -/
import Derived.Test.YtcoggnoeafpgbaaArea0
import Derived.Test.YtcoggnoeafpgbaaDep0
import Derived.Test.YtcoggnoeafpgbaaConn0
import Derived.Test.YtcoggnoeafpgbaaCong
import Derived.Test.YtcoggnoeafpgbaaAllReg
import Derived.Lib.TrailingZeros
namespace Go.Proofs.Ytcoggnoeafpgbaa
open Go.RowKit

/-- The places that a code takes. -/
def selTo (ps : List Nat) (code : Nat) : Nat → List Nat
  | 0 => []
  | j + 1 => selTo ps code j ++ if code.testBit j then [ps.getD j 0] else []
/-- The places that it leaves. -/
def unsTo (ps : List Nat) (code : Nat) : Nat → List Nat
  | 0 => []
  | j + 1 => unsTo ps code j ++ if code.testBit j then [] else [ps.getD j 0]
def coC (n code : Nat) : Nat := 2 ^ n - (code + 1)
theorem coC_bit {n code i : Nat} (h : code < 2 ^ n) (hi : i < n) : (coC n code).testBit i = !code.testBit i := by
  unfold coC
  rw [Nat.testBit_two_pow_sub_succ h, decide_eq_true hi, Bool.true_and]
theorem unsTo_co {ps : List Nat} {n code : Nat} (h : code < 2 ^ n) : ∀ k, k ≤ n → unsTo ps code k = selTo ps (coC n code) k
  | 0, _ => rfl
  | k + 1, hk => by
    rw [unsTo, selTo, unsTo_co h k (by omega), coC_bit h (by omega)]
    cases code.testBit k <;> rfl
theorem selTo_length (ps : List Nat) (code : Nat) : ∀ k, (selTo ps code k).length = cntC code k
  | 0 => rfl
  | k + 1 => by
    rw [selTo, cntC, List.length_append, selTo_length ps code k]
    cases code.testBit k <;> rfl
theorem selTo_mem {ps : List Nat} {code p : Nat} : ∀ k, k ≤ ps.length → p ∈ selTo ps code k → ∃ i, ∃ h : i < ps.length, i < k ∧ ps[i] = p
  | 0, _, h => by simp [selTo] at h
  | k + 1, hk, h => by
    rw [selTo] at h
    rcases List.mem_append.1 h with h | h
    · obtain ⟨i, h1, h2, h3⟩ := selTo_mem k (by omega) h
      exact ⟨i, h1, by omega, h3⟩
    · split at h
      · rw [List.mem_singleton, List.getD_eq_getElem?_getD, List.getElem?_eq_getElem (by omega)] at h
        exact ⟨k, by omega, Nat.lt_succ_self k, h.symm⟩
      · simp at h
theorem selTo_asc {ps : List Nat} (hp : ps.Pairwise (· < ·)) (code : Nat) : ∀ k, k ≤ ps.length → (selTo ps code k).Pairwise (· < ·)
  | 0, _ => List.Pairwise.nil
  | k + 1, hk => by
    rw [selTo, List.pairwise_append]
    refine ⟨selTo_asc hp code k (by omega), ?_, fun a ha b hb => ?_⟩
    · split
      · exact List.pairwise_singleton _ _
      · exact List.Pairwise.nil
    · obtain ⟨i, h1, h2, rfl⟩ := selTo_mem k (by omega) ha
      split at hb
      · rw [List.mem_singleton, List.getD_eq_getElem?_getD, List.getElem?_eq_getElem (by omega)] at hb
        rw [hb]
        exact (List.pairwise_iff_getElem.1 hp) i k h1 (by omega) h2
      · simp at hb
theorem smBits_top {m p : Nat} (h : m < 2 ^ p) (hp : p < 36) : smBits 36 (m + 2 ^ p) = smBits 36 m ++ [p] := by
  have h1 : m + 2 ^ p < 2 ^ (p + 1) := by rw [Nat.pow_succ]; omega
  have hb : (m + 2 ^ p).testBit p = true := by
    rw [Nat.add_comm, Nat.testBit_two_pow_add_eq, Nat.testBit_lt_two_pow h]
    rfl
  rw [smBits_of_zero (p + 1) (m + 2 ^ p) 36 (by omega) (Nat.div_eq_of_lt h1), smBits_succ, hb, if_pos rfl, smBits_of_zero p m 36 (by omega) (Nat.div_eq_of_lt h)]
  congr 1
  unfold smBits
  refine List.filter_congr fun i hi => ?_
  rw [Nat.add_comm, Nat.testBit_two_pow_add_gt (List.mem_range.1 hi)]
/-- A part's places are those that its code takes. -/
theorem dep_sel {ps : List Nat} (hp : ps.Pairwise (· < ·)) (h36 : ∀ p ∈ ps, p < 36) (code : Nat) : ∀ k, k ≤ ps.length → smBits 36 (depTo ps code k) = selTo ps code k
  | 0, _ => by
    rw [depTo, selTo]
    unfold smBits
    simp
  | k + 1, hk => by
    have e : ps.getD k 0 = ps[k] := by rw [List.getD_eq_getElem?_getD, List.getElem?_eq_getElem (by omega)]; rfl
    rw [depTo, selTo]
    cases hb : code.testBit k with
    | false => rw [if_neg (by decide), if_neg (by decide), Nat.add_zero, List.append_nil, dep_sel hp h36 code k (by omega)]
    | true =>
      have hlt := depTo_lt hp code k (by omega) (ps.getD k 0) (fun i hi => by
        rw [e, List.getD_eq_getElem?_getD, List.getElem?_eq_getElem (by omega)]
        exact (List.pairwise_iff_getElem.1 hp) i k (by omega) (by omega) hi)
      rw [if_pos rfl, if_pos rfl, smBits_top hlt (by rw [e]; exact h36 _ (List.getElem_mem _)), dep_sel hp h36 code k (by omega)]
theorem smBits_inj {a b : Nat} (ha : a < 2 ^ 36) (hb : b < 2 ^ 36) (h : smBits 36 a = smBits 36 b) : a = b := by
  refine Nat.eq_of_testBit_eq fun i => ?_
  by_cases hi : i < 36
  · have h1 : i ∈ smBits 36 a ↔ i ∈ smBits 36 b := by rw [h]
    unfold smBits at h1
    rw [List.mem_filter, List.mem_filter] at h1
    simp only [List.mem_range, hi, true_and] at h1
    rw [Bool.eq_iff_iff]
    exact h1
  · have hp : 2 ^ 36 ≤ 2 ^ i := Nat.pow_le_pow_right (by decide) (by omega)
    rw [Nat.testBit_lt_two_pow (Nat.lt_of_lt_of_le ha hp), Nat.testBit_lt_two_pow (Nat.lt_of_lt_of_le hb hp)]
theorem dep_co {ps : List Nat} {n code : Nat} (h : code < 2 ^ n) : ∀ k, k ≤ n → depTo ps code k + depTo ps (coC n code) k = depTo ps (2 ^ n - 1) k
  | 0, _ => rfl
  | k + 1, hk => by
    have ih := dep_co (ps := ps) h k (by omega)
    rw [depTo, depTo, depTo, ← ih, coC_bit h (by omega), Nat.testBit_two_pow_sub_one, decide_eq_true (by omega : k < n), if_pos rfl]
    cases code.testBit k
    · simp only [Bool.not_false, if_true, Bool.false_eq_true, if_false]; omega
    · simp only [Bool.not_true, if_true, Bool.false_eq_true, if_false]; omega
theorem sel_full {ps : List Nat} : ∀ k, k ≤ ps.length → selTo ps (2 ^ ps.length - 1) k = ps.take k
  | 0, _ => rfl
  | k + 1, hk => by
    rw [selTo, sel_full k (by omega), Nat.testBit_two_pow_sub_one, decide_eq_true (by omega : k < ps.length), if_pos rfl, List.take_succ_eq_append_getElem (by omega), List.getD_eq_getElem?_getD, List.getElem?_eq_getElem (by omega)]
    rfl
theorem smBits_36 {M p : Nat} (h : p ∈ smBits 36 M) : p < 36 := smBits_lt h
theorem dep_lt36 {M : Nat} (code : Nat) {k : Nat} (hk : k ≤ (smBits 36 M).length) : depTo (smBits 36 M) code k < 2 ^ 36 :=
  depTo_lt (smBits_asc 36 M) code k hk 36 (fun i hi => by
    rw [List.getD_eq_getElem?_getD, List.getElem?_eq_getElem (by omega)]
    exact smBits_36 (List.getElem_mem _))
theorem dep_full {M : Nat} (hM : M < 2 ^ 36) : depTo (smBits 36 M) (2 ^ (smBits 36 M).length - 1) (smBits 36 M).length = M := by
  refine smBits_inj (dep_lt36 _ (Nat.le_refl _)) hM ?_
  rw [dep_sel (smBits_asc 36 M) (fun p hp => smBits_36 hp) _ _ (Nat.le_refl _), sel_full _ (Nat.le_refl _), List.take_length]
/-- What a part of a mask leaves. -/
theorem dep_rest {M code : Nat} (hM : M < 2 ^ 36) (h : code < 2 ^ (smBits 36 M).length) :
    M - depTo (smBits 36 M) code (smBits 36 M).length = depTo (smBits 36 M) (coC (smBits 36 M).length code) (smBits 36 M).length ∧ depTo (smBits 36 M) code (smBits 36 M).length ≤ M := by
  have h1 := dep_co (ps := smBits 36 M) h _ (Nat.le_refl _)
  rw [dep_full hM] at h1
  omega
theorem dep_in {M code : Nat} : ∀ i, (depTo (smBits 36 M) code (smBits 36 M).length).testBit i = true → M.testBit i = true := fun i hi => by
  have h1 := dep_sel (smBits_asc 36 M) (fun p hp => smBits_36 hp) code _ (Nat.le_refl _)
  have hlt := dep_lt36 (M := M) code (Nat.le_refl _)
  have hi36 : i < 36 := by
    rcases Nat.lt_or_ge i 36 with q | q
    · exact q
    · rw [Nat.testBit_lt_two_pow (Nat.lt_of_lt_of_le hlt (Nat.pow_le_pow_right (by decide) q))] at hi
      cases hi
  have h2 : i ∈ smBits 36 (depTo (smBits 36 M) code (smBits 36 M).length) := by
    generalize depTo (smBits 36 M) code (smBits 36 M).length = X at hi
    unfold smBits
    exact List.mem_filter.2 ⟨List.mem_range.2 hi36, hi⟩
  rw [h1] at h2
  obtain ⟨j, h3, _, h4⟩ := selTo_mem _ (Nat.le_refl _) h2
  have h5 : i ∈ smBits 36 M := h4 ▸ List.getElem_mem h3
  unfold smBits at h5
  exact (List.mem_filter.1 h5).2
theorem dep_and {M code : Nat} : M &&& depTo (smBits 36 M) code (smBits 36 M).length = depTo (smBits 36 M) code (smBits 36 M).length := by
  refine Nat.eq_of_testBit_eq fun i => ?_
  rw [Nat.testBit_and]
  cases hb : (depTo (smBits 36 M) code (smBits 36 M).length).testBit i with
  | false => rw [Bool.and_false]
  | true => rw [dep_in i hb]; rfl
theorem depTo_cons (k : Nat) (T : List Nat) (j : Nat) : ∀ i, depTo (k :: T) (2 * j + 1) (i + 1) = depTo T j i + 2 ^ k
  | 0 => by
    rw [depTo, depTo, depTo, show (2 * j + 1).testBit 0 = true by simp [Nat.testBit_zero], if_pos rfl]
    rfl
  | i + 1 => by
    rw [depTo, depTo_cons k T j i, depTo]
    have e : (2 * j + 1).testBit (i + 1) = j.testBit i := by
      rw [Nat.testBit_succ, show (2 * j + 1) / 2 = j by omega]
    rw [e, show (k :: T).getD (i + 1) 0 = T.getD i 0 from rfl]
    omega
/-- The first cell, the others, and the parts of the others. -/
theorem first_cell {M p : Nat} {T : List Nat} (hP : smBits 36 M = p :: T) :
    p < 36 ∧ (∃ m, M = 2 ^ p * (2 * m + 1)) ∧ M &&& 2 ^ p = 2 ^ p ∧ smBits 36 (M - 2 ^ p) = T ∧ (M - 2 ^ p).testBit p = false := by
  have hasc := smBits_asc 36 M
  have hmem : ∀ i, i ∈ smBits 36 M ↔ i < 36 ∧ M.testBit i = true := fun i => by
    unfold smBits
    rw [List.mem_filter, List.mem_range]
  rw [hP] at hasc hmem
  have h1 := List.pairwise_cons.1 hasc
  have hp := (hmem p).1 List.mem_cons_self
  have hand : 2 ^ p &&& M = 2 ^ p := by
    refine Nat.eq_of_testBit_eq fun i => ?_
    rw [Nat.testBit_and, Nat.testBit_two_pow]
    by_cases e : p = i
    · subst e; rw [hp.2]; simp
    · rw [decide_eq_false e, Bool.false_and]
  refine ⟨hp.1, ?_, by rw [Nat.and_comm]; exact hand, ?_, ?_⟩
  · have hlow : ∀ i, i < p → M.testBit i = false := fun i hi => by
      cases hb : M.testBit i with
      | false => rfl
      | true =>
        rcases List.mem_cons.1 ((hmem i).2 ⟨by omega, hb⟩) with e | e
        · omega
        · have := h1.1 i e; omega
    have hmod : M % 2 ^ p = 0 := by
      refine Nat.eq_of_testBit_eq fun i => ?_
      rw [Nat.testBit_mod_two_pow, Nat.zero_testBit]
      by_cases hi : i < p
      · rw [hlow i hi, Bool.and_false]
      · rw [decide_eq_false hi, Bool.false_and]
    have hodd : M / 2 ^ p % 2 = 1 := by
      have := hp.2
      rw [Nat.testBit_eq_decide_div_mod_eq] at this
      exact of_decide_eq_true this
    refine ⟨M / 2 ^ p / 2, ?_⟩
    have h3 := Nat.div_add_mod M (2 ^ p)
    rw [hmod, Nat.add_zero] at h3
    have h4 : M / 2 ^ p = 2 * (M / 2 ^ p / 2) + 1 := by omega
    rw [← h4]
    exact h3.symm
  · have hf : smBits 36 (M - 2 ^ p) = (smBits 36 M).filter (fun i => decide (i ≠ p)) := by
      unfold smBits
      rw [List.filter_filter]
      refine List.filter_congr fun i _ => ?_
      rw [sub_bits hand, Nat.testBit_two_pow, Bool.and_comm]
      congr 1
      by_cases e : p = i
      · subst e; simp
      · have e2 : i ≠ p := fun q => e q.symm
        simp [e, e2]
    rw [hf, hP, List.filter_cons_of_neg (by simp)]
    rw [List.filter_eq_self]
    intro i hi
    have := h1.1 i hi
    exact decide_eq_true (by omega)
  · rw [sub_bits hand, Nat.testBit_two_pow, hp.2]
    simp
theorem i64_low {M p m : Nat} (hM : M < 68719476736) (h : M = 2 ^ p * (2 * m + 1)) : bits .and .i64 (M : Int) (-(M : Int)) = ((2 ^ p : Nat) : Int) := by
  have hpos : 0 < M := by
    rw [h]
    exact Nat.mul_pos (Nat.two_pow_pos _) (by omega)
  have h1 : (BitVec.ofInt 64 (-(M : Int))).toNat = 2 ^ 64 - M := by
    rw [BitVec.toNat_ofInt]
    have e : (-(M : Int)) % ((2 ^ 64 : Nat) : Int) = ((2 ^ 64 - M : Nat) : Int) := by
      rw [show (-(M : Int)) = ((2 ^ 64 - M : Nat) : Int) + (-1) * ((2 ^ 64 : Nat) : Int) by omega, Int.add_mul_emod_self_right]
      exact Int.emod_eq_of_lt (by omega) (by omega)
    rw [e]
    rfl
  show IntKind.i64.wrap ((BitVec.ofInt 64 (M : Int) &&& BitVec.ofInt 64 (-(M : Int))).toNat : Int) = _
  rw [BitVec.toNat_and, h1, ofInt_i64 M (by omega), IntWalk.i64_left]
  have h2 : M &&& (2 ^ 64 - M) = 2 ^ p := by
    rw [h]
    exact Go.Lib.and_neg 64 p m (by rw [← h]; omega)
  rw [h2]
  have h3 : 2 ^ p ≤ M := by rw [h]; exact Nat.le_mul_of_pos_right _ (by omega)
  exact wrap_nat (Nat.lt_of_le_of_lt h3 hM)

/-- The cells of some places come as the places themselves. -/
theorem cells_places {B : Nat} {xs : List Int} (hr : Reg (B : Int) xs) : cellsTo B xs xs.length = placesOf B (smBits 36 (regMask B xs)) ∧ ∀ c ∈ cellsTo B xs xs.length, inR B xs c.x.toNat c.y.toNat = true := by
  have hb1 : 1 ≤ B := by have := hr.1.1; omega
  have hb6 : B ≤ 6 := by have := hr.1.2; omega
  have hcl : ∀ k, k ≤ xs.length → ∀ c ∈ cellsTo B xs k, ∃ X Y : Nat, c = ⟨(X : Int), (Y : Int)⟩ ∧ X < B ∧ Y < xs.length ∧ inR B xs X Y = true := by
    intro k
    induction k with
    | zero => intro _ c h; simp [cellsTo] at h
    | succ k ih =>
      intro hk c h
      rw [cellsTo] at h
      rcases List.mem_append.1 h with h | h
      · exact ih (by omega) c h
      · unfold rowC at h
        obtain ⟨i, hi, rfl⟩ := List.mem_map.1 h
        have h1 := smBits_lt hi
        unfold smBits at hi
        have h2 := (List.mem_filter.1 hi).2
        refine ⟨i, k, rfl, h1, by omega, ?_⟩
        rw [regN_at (by omega : k < xs.length)] at h2
        unfold inR
        rw [decide_eq_true h1, decide_eq_true (by omega : k < xs.length), List.getD_eq_getElem?_getD, List.getElem?_eq_getElem (by omega : k < xs.length)]
        exact h2
  have h2 := cellsR_place hr
  have hnat : ∀ x ∈ regN xs, x < 2 ^ B := by have := reg_nat hr; rwa [Int.toNat_natCast] at this
  have hn : xs.length * B ≤ 6 * 6 := Nat.mul_le_mul hr.2.1.2 hb6
  have hlt : regMask (B : Int) xs < 2 ^ (xs.length * B) := by
    unfold regMask
    rw [Int.toNat_natCast]
    exact maskTo_lt hnat xs.length (by rw [regN_length]; exact Nat.le_refl _)
  have e : smBits 36 (regMask B xs) = smBits (xs.length * B) (regMask B xs) := smBits_of_zero _ _ 36 (by omega) (Nat.div_eq_of_lt hlt)
  unfold cellsR at h2
  rw [if_pos hr, Int.toNat_natCast, ← e] at h2
  refine ⟨?_, fun c hc => ?_⟩
  · rw [← h2]
    unfold placesOf
    rw [List.map_map]
    conv => lhs; rw [← List.map_id (cellsTo B xs xs.length)]
    refine List.map_congr_left fun c hc => ?_
    obtain ⟨X, Y, rfl, hX, hY, _⟩ := hcl _ (Nat.le_refl _) c hc
    show (⟨(X : Int), (Y : Int)⟩ : Cl) = ⟨((pbit B ⟨(X : Int), (Y : Int)⟩ % B : Nat) : Int), ((pbit B ⟨(X : Int), (Y : Int)⟩ / B : Nat) : Int)⟩
    unfold pbit
    rw [Int.toNat_natCast, Int.toNat_natCast, Nat.add_comm, Nat.add_mul_mod_self_right, Nat.mod_eq_of_lt hX, Nat.add_mul_div_right _ _ (by omega), Nat.div_eq_of_lt hX, Nat.zero_add]
  · obtain ⟨X, Y, rfl, hX, hY, h⟩ := hcl _ (Nat.le_refl _) c hc
    rw [Int.toNat_natCast, Int.toNat_natCast]
    exact h
theorem pbit_place {B : Nat} (i : Nat) : pbit B ⟨((i % B : Nat) : Int), ((i / B : Nat) : Int)⟩ = i := by
  unfold pbit
  rw [Int.toNat_natCast, Int.toNat_natCast, Nat.mul_comm]
  exact Nat.div_add_mod i B
theorem placesOf_at {B : Nat} {ps : List Nat} {i : Nat} (h : i < ps.length) : (placesOf B ps)[i]'(by rw [placesOf_length]; exact h) = ⟨((ps[i] % B : Nat) : Int), ((ps[i] / B : Nat) : Int)⟩ := by
  unfold placesOf
  rw [List.getElem_map]
theorem moc_asc {B : Nat} {xs : List Int} : ∀ (ps : List Nat) (m : Nat), ps.Pairwise (· < ·) → (∀ p ∈ ps, m < 2 ^ p ∧ inR B xs (p % B) (p / B) = true) → mocS B xs (placesOf B ps) m = some (ps.foldl (fun a p => a + 2 ^ p) m)
  | [], m, _, _ => rfl
  | p :: r, m, ha, h => by
    have h0 := h p List.mem_cons_self
    have h1 := List.pairwise_cons.1 ha
    rw [show placesOf B (p :: r) = ⟨((p % B : Nat) : Int), ((p / B : Nat) : Int)⟩ :: placesOf B r from rfl, mocS, pbit_place, Int.toNat_natCast, Int.toNat_natCast, h0.2, Nat.testBit_lt_two_pow h0.1]
    rw [List.foldl_cons]
    refine moc_asc r _ h1.2 fun q hq => ⟨?_, (h q (List.mem_cons_of_mem _ hq)).2⟩
    have h2 : 2 ^ (p + 1) ≤ 2 ^ q := Nat.pow_le_pow_right (by decide) (h1.1 q hq)
    rw [Nat.pow_succ] at h2
    omega
theorem sel_sum (ps : List Nat) (code : Nat) : ∀ k, (selTo ps code k).foldl (fun a p => a + 2 ^ p) 0 = depTo ps code k
  | 0 => rfl
  | k + 1 => by
    rw [selTo, depTo, List.foldl_append, sel_sum ps code k]
    cases code.testBit k <;> rfl
/-- The mask of a half. -/
theorem moc_half {B : Nat} {xs : List Int} (hr : Reg (B : Int) xs) (code : Nat) {k : Nat} (hk : k ≤ (smBits 36 (regMask B xs)).length) :
    mocS B xs (placesOf B (selTo (smBits 36 (regMask B xs)) code k)) 0 = some (depTo (smBits 36 (regMask B xs)) code k) := by
  obtain ⟨h1, h2⟩ := cells_places hr
  rw [moc_asc _ 0 (selTo_asc (smBits_asc 36 _) code k hk), sel_sum]
  intro p hp
  obtain ⟨i, h3, _, rfl⟩ := selTo_mem k hk hp
  refine ⟨Nat.two_pow_pos _, ?_⟩
  have h4 : (⟨((smBits 36 (regMask B xs))[i] % B : Nat), ((smBits 36 (regMask B xs))[i] / B : Nat)⟩ : Cl) ∈ cellsTo B xs xs.length := by
    rw [h1]
    unfold placesOf
    exact List.mem_map.2 ⟨_, List.getElem_mem h3, rfl⟩
  have h5 := h2 _ h4
  rwa [Int.toNat_natCast, Int.toNat_natCast] at h5
theorem places_small {B : Nat} {ps : List Nat} (hb : 1 ≤ B ∧ B ≤ 6) (h : ∀ p ∈ ps, p < 6 * B) : ∀ c ∈ placesOf B ps, (0 ≤ c.x ∧ c.x ≤ 5) ∧ 0 ≤ c.y ∧ c.y ≤ 5 := fun c hc => by
  unfold placesOf at hc
  obtain ⟨p, hp, rfl⟩ := List.mem_map.1 hc
  have h1 : p % B < B := Nat.mod_lt _ (by omega)
  have h2 : p / B < 6 := Nat.div_lt_of_lt_mul (by rw [Nat.mul_comm]; exact h p hp)
  exact ⟨⟨Int.natCast_nonneg _, by show ((p % B : Nat) : Int) ≤ 5; omega⟩, Int.natCast_nonneg _, by show ((p / B : Nat) : Int) ≤ 5; omega⟩
theorem places_asc {B : Nat} : ∀ {ps : List Nat}, ps.Pairwise (· < ·) → AscG ltC (placesOf B ps)
  | [], _ => List.Pairwise.nil
  | p :: r, h => by
    obtain ⟨h1, h2⟩ := List.pairwise_cons.1 h
    refine List.pairwise_cons.2 ⟨fun c hc => ?_, places_asc h2⟩
    obtain ⟨q, hq, rfl⟩ := List.mem_map.1 hc
    have hlt := h1 q hq
    rw [ltC_iff]
    show ((p / B : Nat) : Int) < ((q / B : Nat) : Int) ∨ (((p / B : Nat) : Int) = ((q / B : Nat) : Int) ∧ ((p % B : Nat) : Int) < ((q % B : Nat) : Int))
    have h3 : p / B ≤ q / B := Nat.div_le_div_right (by omega)
    rcases Nat.lt_or_ge (p / B) (q / B) with e | e
    · exact .inl (Int.ofNat_lt.2 e)
    · have e2 : p / B = q / B := by omega
      have h4 := Nat.div_add_mod p B
      have h5 := Nat.div_add_mod q B
      rw [e2] at h4
      refine .inr ⟨by rw [e2], Int.ofNat_lt.2 ?_⟩
      omega
end Go.Proofs.Ytcoggnoeafpgbaa
