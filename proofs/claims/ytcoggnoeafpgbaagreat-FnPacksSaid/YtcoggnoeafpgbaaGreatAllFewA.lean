/- AllFewA: parts laid together: Subs0, Dep0, FewB0, AppKept. -/
import Derived.Test.YtcoggnoeafpgbaaGreatAllOnes
import Derived.Test.YtcoggnoeafpgbaaGreatAllArea
import Derived.Test.YtcoggnoeafpgbaaGreatAllPl
import Derived.Test.YtcoggnoeafpgbaaGreatAllFrame
import Derived.ArgAppend

/- Subs0: the parts of a mask, in rising order, as the program lists them; plain. -/
namespace Go.Proofs.YtcoggnoeafpgbaaGreat
open Go.RowKit

/-- The parts of m's places below k. -/
def subL (m : Nat) : Nat → List Nat
  | 0 => [0]
  | k + 1 => if m.testBit k then subL m k ++ (subL m k).map (· ||| 2 ^ k) else subL m k
theorem subL_length (m : Nat) : ∀ k, (subL m k).length = 2 ^ (List.range k).countP fun i => m.testBit i
  | 0 => rfl
  | k + 1 => by
    rw [subL, List.range_succ, List.countP_append]
    cases h : m.testBit k
    · rw [if_neg (by decide), subL_length m k, List.countP_cons, List.countP_nil, h]
      rfl
    · rw [if_pos rfl, List.length_append, List.length_map, subL_length m k, List.countP_cons, List.countP_nil, h, if_pos rfl, Nat.zero_add, Nat.pow_succ]
      omega
theorem subL_lt (m : Nat) : ∀ k, ∀ v ∈ subL m k, v < 2 ^ k
  | 0, v, h => by
    rw [subL, List.mem_singleton] at h
    subst h
    decide
  | k + 1, v, h => by
    have hp : 2 ^ k < 2 ^ (k + 1) := Nat.pow_lt_pow_right (by decide) (Nat.lt_succ_self k)
    rw [subL] at h
    cases e : m.testBit k
    · rw [e, if_neg (by decide)] at h
      exact Nat.lt_trans (subL_lt m k v h) hp
    · rw [e, if_pos rfl, List.mem_append, List.mem_map] at h
      rcases h with h | ⟨u, hu, rfl⟩
      · exact Nat.lt_trans (subL_lt m k v h) hp
      · exact Nat.or_lt_two_pow (Nat.lt_trans (subL_lt m k u hu) hp) hp
theorem subL_sub (m : Nat) : ∀ k, ∀ v ∈ subL m k, ∀ i, v.testBit i = true → m.testBit i = true
  | 0, v, h, i, hi => by
    rw [subL, List.mem_singleton] at h
    subst h
    rw [Nat.zero_testBit] at hi
    cases hi
  | k + 1, v, h, i, hi => by
    rw [subL] at h
    cases e : m.testBit k
    · rw [e, if_neg (by decide)] at h
      exact subL_sub m k v h i hi
    · rw [e, if_pos rfl, List.mem_append, List.mem_map] at h
      rcases h with h | ⟨u, hu, rfl⟩
      · exact subL_sub m k v h i hi
      · rw [Nat.testBit_or, Nat.testBit_two_pow] at hi
        by_cases hk : k = i
        · subst hk; exact e
        · rw [decide_eq_false hk, Bool.or_false] at hi
          exact subL_sub m k u hu i hi
end Go.Proofs.YtcoggnoeafpgbaaGreat

/- Dep0: the parts of a mask by their codes; plain. -/
namespace Go.Proofs.YtcoggnoeafpgbaaGreat
open Go.RowKit

/-- The part of some places that a code says. -/
def depTo (ps : List Nat) (code : Nat) : Nat → Nat
  | 0 => 0
  | j + 1 => depTo ps code j + if code.testBit j then 2 ^ ps.getD j 0 else 0
def cntC (code : Nat) : Nat → Nat
  | 0 => 0
  | j + 1 => cntC code j + if code.testBit j then 1 else 0
theorem cntC_le (code : Nat) : ∀ j, cntC code j ≤ j
  | 0 => Nat.le_refl _
  | j + 1 => by
    have := cntC_le code j
    rw [cntC]
    split <;> omega
theorem depTo_append {ps qs : List Nat} {code : Nat} : ∀ j, j ≤ ps.length → depTo (ps ++ qs) code j = depTo ps code j
  | 0, _ => rfl
  | j + 1, h => by
    rw [depTo, depTo, depTo_append j (by omega)]
    rw [List.getD_eq_getElem?_getD, List.getElem?_append_left (by omega), List.getD_eq_getElem?_getD]
theorem depTo_congr {ps : List Nat} {a b : Nat} : ∀ j, (∀ i, i < j → a.testBit i = b.testBit i) → depTo ps a j = depTo ps b j
  | 0, _ => rfl
  | j + 1, h => by rw [depTo, depTo, depTo_congr j (fun i hi => h i (by omega)), h j (by omega)]
theorem subL_dep (m : Nat) : ∀ K code, code < (subL m K).length → (subL m K).getD code 0 = depTo (smBits K m) code (smBits K m).length ∧ (subL m K).length = 2 ^ (smBits K m).length
  | 0, code, h => by
    rw [subL, List.length_singleton] at h
    obtain rfl : code = 0 := by omega
    exact ⟨rfl, rfl⟩
  | K + 1, code, h => by
    have hpos : 0 < (subL m K).length := by rw [subL_length]; exact Nat.two_pow_pos _
    have hlen := (subL_dep m K 0 hpos).2
    rw [smBits_succ]
    rw [subL] at h ⊢
    cases hb : m.testBit K with
    | false =>
      rw [hb, if_neg (by decide)] at h
      rw [if_neg (by decide), if_neg (by decide), List.append_nil]
      exact subL_dep m K code h
    | true =>
      rw [hb, if_pos rfl, List.length_append, List.length_map] at h
      rw [if_pos rfl, if_pos rfl, List.length_append, List.length_append, List.length_map, List.length_singleton, Nat.pow_succ, depTo, depTo_append _ (Nat.le_refl _)]
      rw [show (smBits K m ++ [K]).getD (smBits K m).length 0 = K by simp [List.getD_eq_getElem?_getD]]
      refine ⟨?_, by omega⟩
      by_cases hc : code < (subL m K).length
      · have h2 := (subL_dep m K code hc).1
        rw [List.getD_eq_getElem?_getD, List.getElem?_append_left hc, ← List.getD_eq_getElem?_getD, h2, Nat.testBit_lt_two_pow (by omega), if_neg (by decide), Nat.add_zero]
      · obtain ⟨r, hr⟩ : ∃ r, code = 2 ^ (smBits K m).length + r := ⟨code - 2 ^ (smBits K m).length, by omega⟩
        have hrl : r < (subL m K).length := by omega
        have h2 := (subL_dep m K r hrl).1
        have hbit : code.testBit (smBits K m).length = true := by
          rw [hr, Nat.testBit_two_pow_add_eq, Nat.testBit_lt_two_pow (by omega)]
          rfl
        have hdep : depTo (smBits K m) code (smBits K m).length = depTo (smBits K m) r (smBits K m).length := by
          refine depTo_congr _ fun i hi => ?_
          rw [hr, Nat.testBit_two_pow_add_gt hi]
        rw [hbit, if_pos rfl, hdep, ← h2]
        rw [List.getD_eq_getElem?_getD, List.getElem?_append_right (by omega), show code - (subL m K).length = r by omega, List.getElem?_map, List.getElem?_eq_getElem hrl, List.getD_eq_getElem?_getD, List.getElem?_eq_getElem hrl]
        show (subL m K)[r] ||| 2 ^ K = (subL m K)[r] + 2 ^ K
        exact or_two_pow (Nat.testBit_lt_two_pow (subL_lt m K _ (List.getElem_mem hrl)))
theorem depTo_lt {ps : List Nat} (hp : ps.Pairwise (· < ·)) (code : Nat) : ∀ j, j ≤ ps.length → ∀ b, (∀ i, i < j → ps.getD i 0 < b) → depTo ps code j < 2 ^ b
  | 0, _, b, _ => Nat.two_pow_pos b
  | j + 1, h, b, hb => by
    have hj : j < ps.length := by omega
    have e : ps.getD j 0 = ps[j] := by simp [List.getD_eq_getElem?_getD, hj]
    have h1 := depTo_lt hp code j (by omega) (ps.getD j 0) (fun i hi => by
      rw [e, List.getD_eq_getElem?_getD, List.getElem?_eq_getElem (by omega)]
      exact (List.pairwise_iff_getElem.1 hp) i j (by omega) hj hi)
    have h2 := hb j (Nat.lt_succ_self j)
    have h3 : 2 ^ (ps.getD j 0 + 1) ≤ 2 ^ b := Nat.pow_le_pow_right (by decide) h2
    rw [Nat.pow_succ] at h3
    rw [depTo]
    split <;> omega
theorem depTo_pc {ps : List Nat} (hp : ps.Pairwise (· < ·)) (h36 : ∀ p ∈ ps, p < 36) (code : Nat) : ∀ j, j ≤ ps.length → pc (depTo ps code j) = cntC code j
  | 0, _ => pc_zero
  | j + 1, h => by
    have hj : j < ps.length := by omega
    have e : ps.getD j 0 = ps[j] := by simp [List.getD_eq_getElem?_getD, hj]
    have h1 := depTo_lt hp code j (by omega) (ps.getD j 0) (fun i hi => by
      rw [e, List.getD_eq_getElem?_getD, List.getElem?_eq_getElem (by omega)]
      exact (List.pairwise_iff_getElem.1 hp) i j (by omega) hj hi)
    have ih := depTo_pc hp h36 code j (by omega)
    rw [depTo, cntC]
    cases hb : code.testBit j with
    | false => rw [if_neg (by decide), if_neg (by decide), Nat.add_zero, ih, Nat.add_zero]
    | true =>
      rw [if_pos rfl, if_pos rfl, pc_add (Nat.testBit_lt_two_pow h1) (by rw [e]; exact h36 _ (List.getElem_mem hj)), ih]
theorem smBits_asc (n m : Nat) : (smBits n m).Pairwise (· < ·) := List.Pairwise.filter _ List.pairwise_lt_range

theorem subL_stop {m k : Nat} (h : m < 2 ^ k) : ∀ n, k ≤ n → subL m n = subL m k := by
  intro n
  induction n with
  | zero => intro hk; rw [show k = 0 by omega]
  | succ n ih =>
    intro hk
    by_cases e : k = n + 1
    · rw [e]
    · rw [subL, Nat.testBit_lt_two_pow (Nat.lt_of_lt_of_le h (Nat.pow_le_pow_right (by decide) (by omega : k ≤ n))), if_neg (by decide)]
      exact ih (by omega)
end Go.Proofs.YtcoggnoeafpgbaaGreat

/- FewB0: which part of the region has the number of a code; the program's choice of the fewest cells that block is the reference's; plain. -/
namespace Go.Proofs.YtcoggnoeafpgbaaGreat
open Go.RowKit

/-- Whatever holds of each mask of cells of the region holds of all placements. -/
theorem plRow_all {B : Nat} {xs : List Int} {P : Int → Prop} (h : ∀ t y x, ∀ v ∈ plOne B xs t y x, P v) (t : List Cl) (y : Nat) : ∀ x, ∀ v ∈ plRow B xs t y x, P v
  | 0 => fun v hv => by simp [plRow] at hv
  | x + 1 => fun v hv => by
    unfold plRow at hv
    rcases List.mem_append.1 hv with hv | hv
    · exact plRow_all h t y x v hv
    · exact h t y x v hv
theorem plGrid_all {B : Nat} {xs : List Int} {P : Int → Prop} (h : ∀ t y x, ∀ v ∈ plOne B xs t y x, P v) (t : List Cl) : ∀ y, ∀ v ∈ plGrid B xs t y, P v
  | 0 => fun v hv => by simp [plGrid] at hv
  | y + 1 => fun v hv => by
    unfold plGrid at hv
    rcases List.mem_append.1 hv with hv | hv
    · exact plGrid_all h t y v hv
    · exact plRow_all h t y B v hv
theorem plTo_all {B : Nat} {xs : List Int} {P : Int → Prop} (h : ∀ t y x, ∀ v ∈ plOne B xs t y x, P v) (rows : List (List Cl)) : ∀ i, ∀ v ∈ plTo B xs rows i, P v
  | 0 => fun v hv => by simp [plTo] at hv
  | i + 1 => fun v hv => by
    unfold plTo at hv
    rcases List.mem_append.1 hv with hv | hv
    · exact plTo_all h rows i v hv
    · exact plGrid_all h _ _ v hv
theorem allTo_all {B : Nat} {xs : List Int} {P : Int → Prop} (h : ∀ t y x, ∀ v ∈ plOne B xs t y x, P v) (ps : List (List Cl)) : ∀ i, ∀ v ∈ allTo B xs ps i, P v
  | 0 => fun v hv => by simp [allTo] at hv
  | i + 1 => fun v hv => by
    unfold allTo at hv
    rcases List.mem_append.1 hv with hv | hv
    · exact allTo_all h ps i v hv
    · unfold placL at hv
      exact plTo_all h _ _ v ((mem_putAllG wholeI _ v).1 hv)
theorem allL_all {B : Nat} {xs : List Int} {P : Int → Prop} (h : ∀ t y x, ∀ v ∈ plOne B xs t y x, P v) (ps : List (List Cl)) : ∀ v ∈ allL B xs ps, P v := fun v hv => by
  unfold allL at hv
  exact allTo_all h ps _ v ((mem_putAllG wholeI _ v).1 hv)
theorem inR_mask {B : Nat} {xs : List Int} {c : Cl} (hr : Reg (B : Int) xs) (h : inR B xs c.x.toNat c.y.toNat = true) : (regMask B xs).testBit (pbit B c) = true := by
  unfold inR at h
  simp only [Bool.and_eq_true, decide_eq_true_eq] at h
  obtain ⟨h1, h2, h3⟩ := h
  have hn : ∀ x ∈ regN xs, x < 2 ^ B := by have := reg_nat hr; rwa [Int.toNat_natCast] at this
  unfold regMask pbit
  rw [Int.toNat_natCast, maskTo_test hn _ _ h1 _ (by rw [regN_length]; exact Nat.le_refl _) h2, regN_at h2]
  rw [List.getD_eq_getElem?_getD, List.getElem?_eq_getElem h2] at h3
  exact h3
theorem mocS_sub {B : Nat} {xs : List Int} (hr : Reg (B : Int) xs) : ∀ (s : List Cl) (m0 m : Nat), mocS B xs s m0 = some m → (∀ i, m0.testBit i = true → (regMask B xs).testBit i = true) → ∀ i, m.testBit i = true → (regMask B xs).testBit i = true
  | [], m0, m, h, h0 => by
    rw [mocS] at h
    cases h
    exact h0
  | c :: r, m0, m, h, h0 => by
    rw [mocS] at h
    cases hin : inR B xs c.x.toNat c.y.toNat with
    | false => rw [hin] at h; simp at h
    | true =>
      cases htb : m0.testBit (pbit B c) with
      | true => rw [hin, htb] at h; simp at h
      | false =>
        rw [hin, htb] at h
        simp only [Bool.not_false, Bool.and_true, cond_true] at h
        refine mocS_sub hr r _ m h (fun i hi => ?_)
        rw [← or_two_pow htb, Nat.testBit_or, Nat.testBit_two_pow] at hi
        by_cases e : pbit B c = i
        · subst e; exact inR_mask hr hin
        · rw [decide_eq_false e, Bool.or_false] at hi
          exact h0 i hi
/-- A placement's cells are cells of the region. -/
theorem allL_sub {B : Nat} {xs : List Int} (hr : Reg (B : Int) xs) (ps : List (List Cl)) : ∀ v ∈ allL B xs ps, ∀ i, v.toNat.testBit i = true → (regMask B xs).testBit i = true :=
  allL_all (fun t y x v hv => by
    unfold plOne at hv
    split at hv
    · rename_i m hm
      rw [List.mem_singleton] at hv
      subst hv
      rw [Int.toNat_natCast]
      exact mocS_sub hr _ _ _ hm (fun i hi => by rw [Nat.zero_testBit] at hi; cases hi)
    · simp at hv) ps
theorem blocksL_full {B : Nat} {xs : List Int} (hr : Reg (B : Int) xs) {ps : List (List Cl)} (hp : Pcs ps) : blocksL (allL B xs ps) (regMask B xs) = true := by
  unfold blocksL
  refine decide_eq_true fun v hv e => ?_
  have h1 := allL_sub hr ps v hv
  have h2 := (allL_mk hr hp v hv).1
  have h3 : v.toNat = 0 := by
    refine Nat.eq_of_testBit_eq fun i => ?_
    rw [Nat.zero_testBit]
    cases hb : v.toNat.testBit i with
    | false => rfl
    | true =>
      have h4 : (v.toNat &&& regMask B xs).testBit i = true := by rw [Nat.testBit_and, hb, h1 i hb]; rfl
      rw [e, Nat.zero_testBit] at h4
      cases h4
  omega

/-- The program's choice among parts, one after the other. -/
def stepP (A : List Int) (st : Option Nat) (m : Nat) : Option Nat :=
  match st with
  | none => if blocksL A m = true then some m else none
  | some b => if pc m < pc b ∧ blocksL A m = true then some m else some b
/-- The reference's. -/
def stepQ (A : List Int) (st : Nat × Nat) (m : Nat) : Nat × Nat := if pc m < st.2 ∧ blocksL A m = true then (m, pc m) else st
theorem steps_agree {A : List Int} {M : Nat} : ∀ (F : List Nat), (∀ m ∈ F, pc m ≤ pc M ∧ (pc m = pc M → m = M)) → ∀ (st : Option Nat) (sq : Nat × Nat),
    ((st = none ∧ sq = (M, pc M)) ∨ ∃ b, st = some b ∧ blocksL A b = true ∧ pc b ≤ pc M ∧ (pc b = pc M → b = M) ∧ sq = (b, pc b)) →
    ((F.foldl (stepP A) st = none ∧ F.foldl (stepQ A) sq = (M, pc M)) ∨ ∃ b, F.foldl (stepP A) st = some b ∧ blocksL A b = true ∧ pc b ≤ pc M ∧ (pc b = pc M → b = M) ∧ F.foldl (stepQ A) sq = (b, pc b))
  | [], _, _, _, h => h
  | m :: F, hF, st, sq, h => by
    obtain ⟨h1, h2⟩ := hF m List.mem_cons_self
    rw [List.foldl_cons, List.foldl_cons]
    refine steps_agree F (fun k hk => hF k (List.mem_cons_of_mem _ hk)) _ _ ?_
    rcases h with ⟨rfl, rfl⟩ | ⟨b, rfl, q1, q2, q3, rfl⟩
    · show ((if blocksL A m = true then some m else none) = none ∧ stepQ A (M, pc M) m = (M, pc M)) ∨ _
      by_cases hh : blocksL A m = true
      · refine .inr ⟨m, if_pos hh, hh, h1, h2, ?_⟩
        unfold stepQ
        by_cases hlt : pc m < pc M
        · rw [if_pos ⟨hlt, hh⟩]
        · rw [if_neg (fun q => hlt q.1), h2 (by omega)]
      · refine .inl ⟨if_neg hh, ?_⟩
        unfold stepQ
        rw [if_neg (fun q => hh q.2)]
    · by_cases hh : pc m < pc b ∧ blocksL A m = true
      · exact .inr ⟨m, if_pos hh, hh.2, h1, h2, by unfold stepQ; rw [if_pos hh]⟩
      · exact .inr ⟨b, if_neg hh, q1, q2, q3, by unfold stepQ; rw [if_neg hh]⟩
theorem stepP_some {A : List Int} {M : Nat} (hM : blocksL A M = true) : ∀ (F : List Nat) (st : Option Nat), (M ∈ F ∨ st ≠ none) → F.foldl (stepP A) st ≠ none
  | [], st, h => by
    rcases h with h | h
    · simp at h
    · exact h
  | m :: F, st, h => by
    rw [List.foldl_cons]
    refine stepP_some hM F _ ?_
    by_cases hs : st = none
    · subst hs
      rcases h with h | h
      · rcases List.mem_cons.1 h with rfl | h
        · right
          show (if blocksL A M = true then some M else none) ≠ none
          rw [if_pos hM]
          exact fun q => by cases q
        · exact .inl h
      · exact absurd rfl h
    · right
      obtain ⟨b, rfl⟩ := Option.ne_none_iff_exists'.1 hs
      show (if _ then some m else some b) ≠ none
      split <;> exact fun q => by cases q
/-- The parts of a region's mask. -/
def partsL (M : Nat) : List Nat := subL M 36
theorem pc_full {M m : Nat} (hs : ∀ i, m.testBit i = true → M.testBit i = true) (hM : M < 2 ^ 36) (h : pc m = pc M) : m = M := by
  have hmM : m &&& M = m := by
    refine Nat.eq_of_testBit_eq fun i => ?_
    rw [Nat.testBit_and]
    cases hb : m.testBit i with
    | false => rfl
    | true => rw [hs i hb]; rfl
  have h1 := pc_sub hmM
  have h2 : pc (M - m) = 0 := by omega
  have hle : m ≤ M := by rw [← hmM]; exact Nat.and_le_right
  have h3 : M - m = 0 := by
    refine Nat.eq_of_testBit_eq fun i => ?_
    rw [Nat.zero_testBit]
    by_cases hi : i < 36
    · unfold pc at h2
      rw [List.countP_eq_zero] at h2
      have := h2 i (List.mem_range.2 hi)
      simpa using this
    · exact Nat.testBit_lt_two_pow (Nat.lt_of_lt_of_le (Nat.lt_of_le_of_lt (Nat.sub_le _ _) hM) (Nat.pow_le_pow_right (by decide) (by omega)))
  omega
theorem partsL_facts {M : Nat} (hM : M < 2 ^ 36) : ∀ m ∈ partsL M, pc m ≤ pc M ∧ (pc m = pc M → m = M) := fun m hm => by
  have hs := subL_sub M 36 m hm
  have hmM : m &&& M = m := by
    refine Nat.eq_of_testBit_eq fun i => ?_
    rw [Nat.testBit_and]
    cases hb : m.testBit i with
    | false => rfl
    | true => rw [hs i hb]; rfl
  have h1 := pc_sub hmM
  exact ⟨by omega, pc_full hs hM⟩
theorem full_mem (M : Nat) : ∀ K, M % 2 ^ K ∈ subL M K
  | 0 => by rw [Nat.pow_zero, Nat.mod_one]; exact List.mem_singleton.2 rfl
  | K + 1 => by
    have ih := full_mem M K
    have hmod : M % 2 ^ (K + 1) = M % 2 ^ K + 2 ^ K * (M.testBit K).toNat := by rw [Nat.mod_pow_succ, Nat.toNat_testBit]
    rw [hmod, subL]
    cases hb : M.testBit K with
    | false =>
      rw [if_neg (by decide)]
      simpa using ih
    | true =>
      rw [if_pos rfl]
      refine List.mem_append.2 (.inr (List.mem_map.2 ⟨_, ih, ?_⟩))
      rw [or_two_pow (Nat.testBit_lt_two_pow (Nat.mod_lt _ (Nat.two_pow_pos _)))]
      simp
theorem full_parts {M : Nat} (hM : M < 2 ^ 36) : M ∈ partsL M := by
  have := full_mem M 36
  rwa [Nat.mod_eq_of_lt hM] at this
/-- The fewest cells that block. -/
def fewB (A : List Int) (M : Nat) : Nat := ((partsL M).foldl (stepQ A) (M, pc M)).1
theorem few_agree {A : List Int} {M : Nat} (hM : M < 2 ^ 36) (hA : blocksL A M = true) : (partsL M).foldl (stepP A) none = some (fewB A M) := by
  have h := steps_agree (A := A) (partsL M) (partsL_facts hM) none (M, pc M) (.inl ⟨rfl, rfl⟩)
  have h2 := stepP_some hA (partsL M) none (.inl (full_parts hM))
  rcases h with ⟨q, _⟩ | ⟨b, q, _, _, _, e⟩
  · exact absurd q h2
  · rw [q]
    unfold fewB
    rw [e]
end Go.Proofs.YtcoggnoeafpgbaaGreat

/- AppKept: appending one element to a slice of the call's own: where the slice lay before, its elements still lie. -/
namespace Go.Proofs.YtcoggnoeafpgbaaGreat
open Go.RowKit

theorem run_app1_kept {P : Program} (w : World) (t ty : TypeId) (base e : Nat) (i : TypeInfo) (z : Value) (bytes : Nat) (ht : P.underlying t = some (.slice e)) (hi : P.info? e = some i) (hz : i.zero = some z)
    (hsize : i.size = 1) (hby : i.bytes = bytes) (hzs : z.cells.size = 1) (v : Value) (n : Nat) (xs : List Value) (hown : w.ownsRow base e 1 v n xs)
    (ad : Addr) (c : Nat) (news : List Value) (hl : news.length = 1 * 1) (hnews : ∀ j u, news[j]? = some u → w.cell? (ad.add j) = some u) (h1 : ∀ u ∈ news, u.oneCell' = true)
    (h63 : n + 1 ≤ maxLen) (hbytes : (n + 1) * bytes ≤ 140737488355328) (hbase : base ≤ w.heap.size) :
    ∃ g cap w', (Builtin.append_ #[t, t] ty #[v, .slice (some ad) 1 c]).run P w = .ok (.slice (some ⟨g, 0, none⟩) (n + 1) cap) w' ∧
      w'.ownsRow base e 1 (.slice (some ⟨g, 0, none⟩) (n + 1) cap) (n + 1) (xs ++ news) ∧ w.grownBy w' v.ownBlock ∧ (v.ownBlock = some g ∨ g = w.heap.size) ∧ g < w'.heap.size ∧
      ∀ g0 j u, v.ownBlock = some g0 → xs[j]? = some u → w'.cell? ⟨g0, j, none⟩ = some u := by
  obtain ⟨g, cap, w', hr, h2, h3, h4, h5⟩ := run_append_lies (P := P) w t ty base e i z 1 bytes ht hi hz hsize hby hzs (Nat.lt_succ_self 0) v n xs hown ad 1 c news hl hnews h1 (Nat.lt_succ_self 0) h63 hbytes hbase _ rfl
  refine ⟨g, cap, w', hr, h2, h3, h4, h5, fun g0 j u hg0 hu => ?_⟩
  have hj : j < xs.length := by
    rcases Nat.lt_or_ge j xs.length with q | q
    · exact q
    · rw [List.getElem?_eq_none q] at hu; cases hu
  by_cases hgg : g = g0
  · subst hgg
    have q := h2.cellAt j (by have := hown.1; omega)
    rw [List.getElem?_append_left hj] at q
    exact q.trans hu
  · have hlt := hown.lt g0 hg0
    rcases h4 with q | q
    · rw [hg0] at q
      exact absurd (Option.some.inj q).symm hgg
    · obtain ⟨g1, c1, hv, _, _⟩ := hown.form (show 0 < n by have := hown.1; omega)
      subst hv
      have hgg1 : g1 = g0 := by simpa [Value.ownBlock] using hg0
      subst hgg1
      have hcell : w.cell? ⟨g1, j, none⟩ = some u := by
        have q := hown.cellAt j (by have := hown.1; omega)
        exact q.trans hu
      have holds : ∀ j u, xs[j]? = some u → w.cell? ((⟨g1, 0, none⟩ : Addr).add j) = some u := hown.cells (g := g1) rfl
      by_cases hroom : n + 1 ≤ c1
      · exfalso
        have hfree : ∀ j, j < news.length → (w.cell? ⟨g1, 0 + n * i.size + j, none⟩).isSome = true ∧ w.frozen? ⟨g1, 0 + n * i.size + j, none⟩ = false := by
          intro j hj
          rcases hown.2 with ⟨hv, _⟩ | ⟨g2, c2, cur, hv, _, hblk, hnc, _, hcs, _⟩
          · cases hv
          · cases hv
            have hjj : j = 0 := by omega
            subst hjj
            refine ⟨?_, ?_⟩
            · rw [cell_of_row w g1 _ cur _ _ hblk, hsize, Array.getElem?_eq_getElem (by rw [hcs]; omega)]
              rfl
            · simp [World.frozen?, hblk]
        have hr2 := run_append_room_cells (P := P) w t ty e i ht hi g1 0 n c1 ad 1 c news (by rw [hl, hsize]) hnews h1 hroom (fun j hj => (hfree j hj).1) (fun j hj => (hfree j hj).2)
        rw [hr] at hr2
        have e1 := (Result.ok.inj hr2).1
        have : g = g1 := by
          have := congrArg Value.ownBlock e1
          simpa [Value.ownBlock] using this
        exact hgg this
      · obtain ⟨v2, w2, hr2, _, hgb⟩ := run_append_arg_grows (P := P) w t ty e i z 1 bytes ht hi hz hsize hby hzs (Nat.lt_succ_self 0) ⟨g1, 0, none⟩ n c1 xs hown.1 holds ad 1 c news hl hnews (by omega) h63 hbytes
        rw [hr] at hr2
        have e2 := (Result.ok.inj hr2).2
        subst e2
        rw [World.cell?_of_block (hgb.block g1 hlt.2 (by simp))]
        exact hcell

section
variable {P : Program} {ops : Array Oper} {o : Oper} {a : Act} {wr : World} {Q : Exit → Act → World → Prop}
/-- In a plain region: the element lies in the newest block; one cell an element. -/
theorem wpList_app1k {rest : List Oper} (hgd : o.guard = none) (s x : Operand) (t : TypeId) (ho : o.op = .call { callee := .builtin .append, args := #[s, x], argTypes := #[t, t] })
    (base e : Nat) (z : Value) (bytes : Nat) (T : ElemT P t e z 1 bytes) (v : Value) (n : Nat) (xs : List Value) (c0 : Value) (B : Nat) (f : Nat × Nat)
    (hs : a.eval s = v) (hx : a.eval x = .slice (some ⟨B, 0, none⟩) 1 1) (hB : wr.heap.size = B) (hown : wr.ownsRow base e 1 v n xs)
    (h1 : c0.oneCell' = true) (h63 : n + 1 ≤ maxLen) (hbytes : (n + 1) * bytes ≤ 140737488355328) (hbase : base ≤ B)
    (h : ∀ g cap w', w'.ownsRow base e 1 (.slice (some ⟨g, 0, none⟩) (n + 1) cap) (n + 1) (xs ++ [c0]) → Below base wr w' → wr.grownBy w' v.ownBlock → (v.ownBlock = some g ∨ B ≤ g) →
      (∀ g0 j u, v.ownBlock = some g0 → xs[j]? = some u → w'.cell? ⟨g0, j, none⟩ = some u) →
      wpList P ops Q rest (a.put o.dst (.slice (some ⟨g, 0, none⟩) (n + 1) cap)) w') : wpList P ops Q (o :: rest) a (wr.alloc (.cells #[c0] e f)) := by
  refine wpList_plain hgd fun _ hK => ?_
  subst hB
  obtain ⟨i, hi, hz, hsize, hby⟩ := T.inf
  have hg2 : wr.grownBy (wr.alloc (.cells #[c0] e f)) none := World.grownBy_alloc wr _ none
  have hb2 : (wr.alloc (.cells #[c0] e f)).heap[wr.heap.size]? = some (.cells #[c0] e f) := heap_alloc_top wr _
  have hown2 : (wr.alloc (.cells #[c0] e f)).ownsRow base e 1 v n xs := hown.kept hg2 (by cases hv : v.ownBlock <;> simp)
  obtain ⟨g, cap, w', hr, q1, q2, q3, q4, q5⟩ := run_app1_kept (P := P) (wr.alloc (.cells #[c0] e f)) t o.type base e i z bytes T.und hi hz hsize hby T.zs v n xs hown2 ⟨wr.heap.size, 0, none⟩ 1 [c0] (by simp) (World.news_of_block hb2) (by simpa using h1) h63 hbytes (by simp; omega)
  have hall : wr.grownBy w' v.ownBlock := grownBy_trans ⟨hg2.os, hg2.tape, hg2.output, hg2.size, fun k hk _ => hg2.block k hk (by simp)⟩ q2
  unfold Oper.wp execOp
  simp only [ho, resolve, invoke, builtin, Sem.run_bind, Sem.run_pure, Result.andThen_ok, List.map_toArray, List.map_cons, List.map_nil, hs, hx, hr]
  refine hK _ _ (h g cap w' q1 ((Below.refl base wr).grown hall hbase (fun k hk => (hown.lt k hk).1)) hall ?_ q5)
  rcases q3 with q3 | q3
  · exact .inl q3
  · right
    rw [q3]
    simp
end
end Go.Proofs.YtcoggnoeafpgbaaGreat
