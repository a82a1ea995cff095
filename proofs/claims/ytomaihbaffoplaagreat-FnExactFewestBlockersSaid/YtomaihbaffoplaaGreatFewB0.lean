/- FewB0: which part of the region has the number of a code; the program's choice of the fewest cells that block is the reference's; plain. -/
import Derived.Test.YtomaihbaffoplaaGreatArea0
import Derived.Test.YtomaihbaffoplaaGreatSubs0
namespace Go.Proofs.YtomaihbaffoplaaGreat
open Go.RowKit

/-- Whatever holds of each mask of cells of the region holds of all placements. -/
theorem plRow_all {B : Nat} {xs : List Int} {P : Int → Prop} (h : ∀ t y x, ∀ v ∈ plOne B xs t y x, P v) (t : List Cl) (y : Nat) : ∀ x, ∀ v ∈ plRow B xs t y x, P v
  | 0 => fun v hv => by simp [plRow] at hv
  | x + 1 => fun v hv => by
    unfold plRow at hv
    rcases List.mem_append.1 hv with hv | hv
    · exact plRow_all h t y x v hv
    · exact h t y x v hv
theorem plGrid_all {B : Nat} {xs : List Int} {P : Int → Prop} (h : ∀ t y x, ∀ v ∈ plOne B xs t y x, P v) (t : List Cl) : ∀ y, ∀ v ∈ plGrid B xs t y, P v
  | 0 => fun v hv => by simp [plGrid] at hv
  | y + 1 => fun v hv => by
    unfold plGrid at hv
    rcases List.mem_append.1 hv with hv | hv
    · exact plGrid_all h t y v hv
    · exact plRow_all h t y B v hv
theorem plTo_all {B : Nat} {xs : List Int} {P : Int → Prop} (h : ∀ t y x, ∀ v ∈ plOne B xs t y x, P v) (rows : List (List Cl)) : ∀ i, ∀ v ∈ plTo B xs rows i, P v
  | 0 => fun v hv => by simp [plTo] at hv
  | i + 1 => fun v hv => by
    unfold plTo at hv
    rcases List.mem_append.1 hv with hv | hv
    · exact plTo_all h rows i v hv
    · exact plGrid_all h _ _ v hv
theorem allTo_all {B : Nat} {xs : List Int} {P : Int → Prop} (h : ∀ t y x, ∀ v ∈ plOne B xs t y x, P v) (ps : List (List Cl)) : ∀ i, ∀ v ∈ allTo B xs ps i, P v
  | 0 => fun v hv => by simp [allTo] at hv
  | i + 1 => fun v hv => by
    unfold allTo at hv
    rcases List.mem_append.1 hv with hv | hv
    · exact allTo_all h ps i v hv
    · unfold placL at hv
      exact plTo_all h _ _ v ((mem_putAllG wholeI _ v).1 hv)
theorem allL_all {B : Nat} {xs : List Int} {P : Int → Prop} (h : ∀ t y x, ∀ v ∈ plOne B xs t y x, P v) (ps : List (List Cl)) : ∀ v ∈ allL B xs ps, P v := fun v hv => by
  unfold allL at hv
  exact allTo_all h ps _ v ((mem_putAllG wholeI _ v).1 hv)
theorem inR_mask {B : Nat} {xs : List Int} {c : Cl} (hr : Reg (B : Int) xs) (h : inR B xs c.x.toNat c.y.toNat = true) : (regMask B xs).testBit (pbit B c) = true := by
  unfold inR at h
  simp only [Bool.and_eq_true, decide_eq_true_eq] at h
  obtain ⟨h1, h2, h3⟩ := h
  have hn : ∀ x ∈ regN xs, x < 2 ^ B := by have := reg_nat hr; rwa [Int.toNat_natCast] at this
  unfold regMask pbit
  rw [Int.toNat_natCast, maskTo_test hn _ _ h1 _ (by rw [regN_length]; exact Nat.le_refl _) h2, regN_at h2]
  rw [List.getD_eq_getElem?_getD, List.getElem?_eq_getElem h2] at h3
  exact h3
theorem mocS_sub {B : Nat} {xs : List Int} (hr : Reg (B : Int) xs) : ∀ (s : List Cl) (m0 m : Nat), mocS B xs s m0 = some m → (∀ i, m0.testBit i = true → (regMask B xs).testBit i = true) → ∀ i, m.testBit i = true → (regMask B xs).testBit i = true
  | [], m0, m, h, h0 => by
    rw [mocS] at h
    cases h
    exact h0
  | c :: r, m0, m, h, h0 => by
    rw [mocS] at h
    cases hin : inR B xs c.x.toNat c.y.toNat with
    | false => rw [hin] at h; simp at h
    | true =>
      cases htb : m0.testBit (pbit B c) with
      | true => rw [hin, htb] at h; simp at h
      | false =>
        rw [hin, htb] at h
        simp only [Bool.not_false, Bool.and_true, cond_true] at h
        refine mocS_sub hr r _ m h (fun i hi => ?_)
        rw [← or_two_pow htb, Nat.testBit_or, Nat.testBit_two_pow] at hi
        by_cases e : pbit B c = i
        · subst e; exact inR_mask hr hin
        · rw [decide_eq_false e, Bool.or_false] at hi
          exact h0 i hi
/-- A placement's cells are cells of the region. -/
theorem allL_sub {B : Nat} {xs : List Int} (hr : Reg (B : Int) xs) (ps : List (List Cl)) : ∀ v ∈ allL B xs ps, ∀ i, v.toNat.testBit i = true → (regMask B xs).testBit i = true :=
  allL_all (fun t y x v hv => by
    unfold plOne at hv
    split at hv
    · rename_i m hm
      rw [List.mem_singleton] at hv
      subst hv
      rw [Int.toNat_natCast]
      exact mocS_sub hr _ _ _ hm (fun i hi => by rw [Nat.zero_testBit] at hi; cases hi)
    · simp at hv) ps
theorem blocksL_full {B : Nat} {xs : List Int} (hr : Reg (B : Int) xs) {ps : List (List Cl)} (hp : Pcs ps) : blocksL (allL B xs ps) (regMask B xs) = true := by
  unfold blocksL
  refine decide_eq_true fun v hv e => ?_
  have h1 := allL_sub hr ps v hv
  have h2 := (allL_mk hr hp v hv).1
  have h3 : v.toNat = 0 := by
    refine Nat.eq_of_testBit_eq fun i => ?_
    rw [Nat.zero_testBit]
    cases hb : v.toNat.testBit i with
    | false => rfl
    | true =>
      have h4 : (v.toNat &&& regMask B xs).testBit i = true := by rw [Nat.testBit_and, hb, h1 i hb]; rfl
      rw [e, Nat.zero_testBit] at h4
      cases h4
  omega

/-- The part of some places that a code says. -/
def depTo (ps : List Nat) (code : Nat) : Nat → Nat
  | 0 => 0
  | j + 1 => depTo ps code j + if code.testBit j then 2 ^ ps.getD j 0 else 0
def cntC (code : Nat) : Nat → Nat
  | 0 => 0
  | j + 1 => cntC code j + if code.testBit j then 1 else 0
theorem cntC_le (code : Nat) : ∀ j, cntC code j ≤ j
  | 0 => Nat.le_refl _
  | j + 1 => by
    have := cntC_le code j
    rw [cntC]
    split <;> omega
theorem depTo_append {ps qs : List Nat} {code : Nat} : ∀ j, j ≤ ps.length → depTo (ps ++ qs) code j = depTo ps code j
  | 0, _ => rfl
  | j + 1, h => by
    rw [depTo, depTo, depTo_append j (by omega)]
    rw [List.getD_eq_getElem?_getD, List.getElem?_append_left (by omega), List.getD_eq_getElem?_getD]
theorem depTo_congr {ps : List Nat} {a b : Nat} : ∀ j, (∀ i, i < j → a.testBit i = b.testBit i) → depTo ps a j = depTo ps b j
  | 0, _ => rfl
  | j + 1, h => by rw [depTo, depTo, depTo_congr j (fun i hi => h i (by omega)), h j (by omega)]
theorem subL_dep (m : Nat) : ∀ K code, code < (subL m K).length → (subL m K).getD code 0 = depTo (smBits K m) code (smBits K m).length ∧ (subL m K).length = 2 ^ (smBits K m).length
  | 0, code, h => by
    rw [subL, List.length_singleton] at h
    obtain rfl : code = 0 := by omega
    exact ⟨rfl, rfl⟩
  | K + 1, code, h => by
    have hpos : 0 < (subL m K).length := by rw [subL_length]; exact Nat.two_pow_pos _
    have hlen := (subL_dep m K 0 hpos).2
    rw [smBits_succ]
    rw [subL] at h ⊢
    cases hb : m.testBit K with
    | false =>
      rw [hb, if_neg (by decide)] at h
      rw [if_neg (by decide), if_neg (by decide), List.append_nil]
      exact subL_dep m K code h
    | true =>
      rw [hb, if_pos rfl, List.length_append, List.length_map] at h
      rw [if_pos rfl, if_pos rfl, List.length_append, List.length_append, List.length_map, List.length_singleton, Nat.pow_succ, depTo, depTo_append _ (Nat.le_refl _)]
      rw [show (smBits K m ++ [K]).getD (smBits K m).length 0 = K by simp [List.getD_eq_getElem?_getD]]
      refine ⟨?_, by omega⟩
      by_cases hc : code < (subL m K).length
      · have h2 := (subL_dep m K code hc).1
        rw [List.getD_eq_getElem?_getD, List.getElem?_append_left hc, ← List.getD_eq_getElem?_getD, h2, Nat.testBit_lt_two_pow (by omega), if_neg (by decide), Nat.add_zero]
      · obtain ⟨r, hr⟩ : ∃ r, code = 2 ^ (smBits K m).length + r := ⟨code - 2 ^ (smBits K m).length, by omega⟩
        have hrl : r < (subL m K).length := by omega
        have h2 := (subL_dep m K r hrl).1
        have hbit : code.testBit (smBits K m).length = true := by
          rw [hr, Nat.testBit_two_pow_add_eq, Nat.testBit_lt_two_pow (by omega)]
          rfl
        have hdep : depTo (smBits K m) code (smBits K m).length = depTo (smBits K m) r (smBits K m).length := by
          refine depTo_congr _ fun i hi => ?_
          rw [hr, Nat.testBit_two_pow_add_gt hi]
        rw [hbit, if_pos rfl, hdep, ← h2]
        rw [List.getD_eq_getElem?_getD, List.getElem?_append_right (by omega), show code - (subL m K).length = r by omega, List.getElem?_map, List.getElem?_eq_getElem hrl, List.getD_eq_getElem?_getD, List.getElem?_eq_getElem hrl]
        show (subL m K)[r] ||| 2 ^ K = (subL m K)[r] + 2 ^ K
        exact or_two_pow (Nat.testBit_lt_two_pow (subL_lt m K _ (List.getElem_mem hrl)))
theorem depTo_lt {ps : List Nat} (hp : ps.Pairwise (· < ·)) (code : Nat) : ∀ j, j ≤ ps.length → ∀ b, (∀ i, i < j → ps.getD i 0 < b) → depTo ps code j < 2 ^ b
  | 0, _, b, _ => Nat.two_pow_pos b
  | j + 1, h, b, hb => by
    have hj : j < ps.length := by omega
    have e : ps.getD j 0 = ps[j] := by simp [List.getD_eq_getElem?_getD, hj]
    have h1 := depTo_lt hp code j (by omega) (ps.getD j 0) (fun i hi => by
      rw [e, List.getD_eq_getElem?_getD, List.getElem?_eq_getElem (by omega)]
      exact (List.pairwise_iff_getElem.1 hp) i j (by omega) hj hi)
    have h2 := hb j (Nat.lt_succ_self j)
    have h3 : 2 ^ (ps.getD j 0 + 1) ≤ 2 ^ b := Nat.pow_le_pow_right (by decide) h2
    rw [Nat.pow_succ] at h3
    rw [depTo]
    split <;> omega
theorem depTo_pc {ps : List Nat} (hp : ps.Pairwise (· < ·)) (h36 : ∀ p ∈ ps, p < 36) (code : Nat) : ∀ j, j ≤ ps.length → pc (depTo ps code j) = cntC code j
  | 0, _ => pc_zero
  | j + 1, h => by
    have hj : j < ps.length := by omega
    have e : ps.getD j 0 = ps[j] := by simp [List.getD_eq_getElem?_getD, hj]
    have h1 := depTo_lt hp code j (by omega) (ps.getD j 0) (fun i hi => by
      rw [e, List.getD_eq_getElem?_getD, List.getElem?_eq_getElem (by omega)]
      exact (List.pairwise_iff_getElem.1 hp) i j (by omega) hj hi)
    have ih := depTo_pc hp h36 code j (by omega)
    rw [depTo, cntC]
    cases hb : code.testBit j with
    | false => rw [if_neg (by decide), if_neg (by decide), Nat.add_zero, ih, Nat.add_zero]
    | true =>
      rw [if_pos rfl, if_pos rfl, pc_add (Nat.testBit_lt_two_pow h1) (by rw [e]; exact h36 _ (List.getElem_mem hj)), ih]
theorem smBits_asc (n m : Nat) : (smBits n m).Pairwise (· < ·) := List.Pairwise.filter _ List.pairwise_lt_range

/-- The program's choice among parts, one after the other. -/
def stepP (A : List Int) (st : Option Nat) (m : Nat) : Option Nat :=
  match st with
  | none => if blocksL A m = true then some m else none
  | some b => if pc m < pc b ∧ blocksL A m = true then some m else some b
/-- The reference's. -/
def stepQ (A : List Int) (st : Nat × Nat) (m : Nat) : Nat × Nat := if pc m < st.2 ∧ blocksL A m = true then (m, pc m) else st
theorem steps_agree {A : List Int} {M : Nat} : ∀ (F : List Nat), (∀ m ∈ F, pc m ≤ pc M ∧ (pc m = pc M → m = M)) → ∀ (st : Option Nat) (sq : Nat × Nat),
    ((st = none ∧ sq = (M, pc M)) ∨ ∃ b, st = some b ∧ blocksL A b = true ∧ pc b ≤ pc M ∧ (pc b = pc M → b = M) ∧ sq = (b, pc b)) →
    ((F.foldl (stepP A) st = none ∧ F.foldl (stepQ A) sq = (M, pc M)) ∨ ∃ b, F.foldl (stepP A) st = some b ∧ blocksL A b = true ∧ pc b ≤ pc M ∧ (pc b = pc M → b = M) ∧ F.foldl (stepQ A) sq = (b, pc b))
  | [], _, _, _, h => h
  | m :: F, hF, st, sq, h => by
    obtain ⟨h1, h2⟩ := hF m List.mem_cons_self
    rw [List.foldl_cons, List.foldl_cons]
    refine steps_agree F (fun k hk => hF k (List.mem_cons_of_mem _ hk)) _ _ ?_
    rcases h with ⟨rfl, rfl⟩ | ⟨b, rfl, q1, q2, q3, rfl⟩
    · show ((if blocksL A m = true then some m else none) = none ∧ stepQ A (M, pc M) m = (M, pc M)) ∨ _
      by_cases hh : blocksL A m = true
      · refine .inr ⟨m, if_pos hh, hh, h1, h2, ?_⟩
        unfold stepQ
        by_cases hlt : pc m < pc M
        · rw [if_pos ⟨hlt, hh⟩]
        · rw [if_neg (fun q => hlt q.1), h2 (by omega)]
      · refine .inl ⟨if_neg hh, ?_⟩
        unfold stepQ
        rw [if_neg (fun q => hh q.2)]
    · by_cases hh : pc m < pc b ∧ blocksL A m = true
      · exact .inr ⟨m, if_pos hh, hh.2, h1, h2, by unfold stepQ; rw [if_pos hh]⟩
      · exact .inr ⟨b, if_neg hh, q1, q2, q3, by unfold stepQ; rw [if_neg hh]⟩
theorem stepP_some {A : List Int} {M : Nat} (hM : blocksL A M = true) : ∀ (F : List Nat) (st : Option Nat), (M ∈ F ∨ st ≠ none) → F.foldl (stepP A) st ≠ none
  | [], st, h => by
    rcases h with h | h
    · simp at h
    · exact h
  | m :: F, st, h => by
    rw [List.foldl_cons]
    refine stepP_some hM F _ ?_
    by_cases hs : st = none
    · subst hs
      rcases h with h | h
      · rcases List.mem_cons.1 h with rfl | h
        · right
          show (if blocksL A M = true then some M else none) ≠ none
          rw [if_pos hM]
          exact fun q => by cases q
        · exact .inl h
      · exact absurd rfl h
    · right
      obtain ⟨b, rfl⟩ := Option.ne_none_iff_exists'.1 hs
      show (if _ then some m else some b) ≠ none
      split <;> exact fun q => by cases q
/-- The parts of a region's mask. -/
def partsL (M : Nat) : List Nat := subL M 36
theorem subL_stop {m k : Nat} (h : m < 2 ^ k) : ∀ n, k ≤ n → subL m n = subL m k := by
  intro n
  induction n with
  | zero => intro hk; rw [show k = 0 by omega]
  | succ n ih =>
    intro hk
    by_cases e : k = n + 1
    · rw [e]
    · rw [subL, Nat.testBit_lt_two_pow (Nat.lt_of_lt_of_le h (Nat.pow_le_pow_right (by decide) (by omega : k ≤ n))), if_neg (by decide)]
      exact ih (by omega)
theorem pc_full {M m : Nat} (hs : ∀ i, m.testBit i = true → M.testBit i = true) (hM : M < 2 ^ 36) (h : pc m = pc M) : m = M := by
  have hmM : m &&& M = m := by
    refine Nat.eq_of_testBit_eq fun i => ?_
    rw [Nat.testBit_and]
    cases hb : m.testBit i with
    | false => rfl
    | true => rw [hs i hb]; rfl
  have h1 := pc_sub hmM
  have h2 : pc (M - m) = 0 := by omega
  have hle : m ≤ M := by rw [← hmM]; exact Nat.and_le_right
  have h3 : M - m = 0 := by
    refine Nat.eq_of_testBit_eq fun i => ?_
    rw [Nat.zero_testBit]
    by_cases hi : i < 36
    · unfold pc at h2
      rw [List.countP_eq_zero] at h2
      have := h2 i (List.mem_range.2 hi)
      simpa using this
    · exact Nat.testBit_lt_two_pow (Nat.lt_of_lt_of_le (Nat.lt_of_le_of_lt (Nat.sub_le _ _) hM) (Nat.pow_le_pow_right (by decide) (by omega)))
  omega
theorem partsL_facts {M : Nat} (hM : M < 2 ^ 36) : ∀ m ∈ partsL M, pc m ≤ pc M ∧ (pc m = pc M → m = M) := fun m hm => by
  have hs := subL_sub M 36 m hm
  have hmM : m &&& M = m := by
    refine Nat.eq_of_testBit_eq fun i => ?_
    rw [Nat.testBit_and]
    cases hb : m.testBit i with
    | false => rfl
    | true => rw [hs i hb]; rfl
  have h1 := pc_sub hmM
  exact ⟨by omega, pc_full hs hM⟩
theorem full_mem (M : Nat) : ∀ K, M % 2 ^ K ∈ subL M K
  | 0 => by rw [Nat.pow_zero, Nat.mod_one]; exact List.mem_singleton.2 rfl
  | K + 1 => by
    have ih := full_mem M K
    have hmod : M % 2 ^ (K + 1) = M % 2 ^ K + 2 ^ K * (M.testBit K).toNat := by rw [Nat.mod_pow_succ, Nat.toNat_testBit]
    rw [hmod, subL]
    cases hb : M.testBit K with
    | false =>
      rw [if_neg (by decide)]
      simpa using ih
    | true =>
      rw [if_pos rfl]
      refine List.mem_append.2 (.inr (List.mem_map.2 ⟨_, ih, ?_⟩))
      rw [or_two_pow (Nat.testBit_lt_two_pow (Nat.mod_lt _ (Nat.two_pow_pos _)))]
      simp
theorem full_parts {M : Nat} (hM : M < 2 ^ 36) : M ∈ partsL M := by
  have := full_mem M 36
  rwa [Nat.mod_eq_of_lt hM] at this
/-- The fewest cells that block. -/
def fewB (A : List Int) (M : Nat) : Nat := ((partsL M).foldl (stepQ A) (M, pc M)).1
theorem few_agree {A : List Int} {M : Nat} (hM : M < 2 ^ 36) (hA : blocksL A M = true) : (partsL M).foldl (stepP A) none = some (fewB A M) := by
  have h := steps_agree (A := A) (partsL M) (partsL_facts hM) none (M, pc M) (.inl ⟨rfl, rfl⟩)
  have h2 := stepP_some hA (partsL M) none (.inl (full_parts hM))
  rcases h with ⟨q, _⟩ | ⟨b, q, _, _, _, e⟩
  · exact absurd q h2
  · rw [q]
    unfold fewB
    rw [e]
end Go.Proofs.YtomaihbaffoplaaGreat
