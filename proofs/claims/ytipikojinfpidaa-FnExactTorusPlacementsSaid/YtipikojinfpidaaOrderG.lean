/- OrderG: things put in order, each once: by putting one after the other from the right, and by sorting; for any order; plain. -/
import Derived.Test.YtipikojinfpidaaCl0
namespace Go.Proofs.Ytipikojinfpidaa
open Go.RowKit

/-- A strict order that is whole. -/
structure Whole {α : Type} (lt : α → α → Bool) : Prop where
  irr : ∀ a, lt a a = false
  tr : ∀ a b c, lt a b = true → lt b c = true → lt a c = true
  tot : ∀ a b, a ≠ b → lt a b = true ∨ lt b a = true
section
variable {α : Type} {lt : α → α → Bool}
theorem Whole.asym (O : Whole lt) {a b : α} (h : lt a b = true) : lt b a = false := by
  cases hb : lt b a with
  | false => rfl
  | true => have := O.tr _ _ _ h hb; rw [O.irr] at this; cases this
theorem Whole.ne (O : Whole lt) {a b : α} (h : lt a b = true) : a ≠ b := by
  rintro rfl
  rw [O.irr] at h; cases h
theorem Whole.of_not (O : Whole lt) {a b : α} (h : lt a b = false) : a = b ∨ lt b a = true := by
  by_cases e : a = b
  · exact .inl e
  · rcases O.tot a b e with q | q
    · rw [h] at q; cases q
    · exact .inr q
def AscG (lt : α → α → Bool) (l : List α) : Prop := l.Pairwise (fun a b => lt a b = true)
theorem ascG_ext (O : Whole lt) : ∀ {xs ys : List α}, AscG lt xs → AscG lt ys → (∀ n, n ∈ xs ↔ n ∈ ys) → xs = ys := by
  intro xs
  induction xs with
  | nil =>
    intro ys _ _ h
    cases ys with
    | nil => rfl
    | cons y ys => have := (h y).2 (by simp); simp at this
  | cons x xs ih =>
    intro ys hx hy h
    cases ys with
    | nil => have := (h x).1 (by simp); simp at this
    | cons y ys =>
      have hx' := List.pairwise_cons.1 hx
      have hy' := List.pairwise_cons.1 hy
      have e : x = y := by
        rcases List.mem_cons.1 ((h x).1 (by simp)) with q | q
        · exact q
        · rcases List.mem_cons.1 ((h y).2 (by simp)) with r | r
          · exact r.symm
          · have h1 := hy'.1 x q
            have h2 := hx'.1 y r
            rw [O.asym h1] at h2; cases h2
      subst e
      congr 1
      refine ih hx'.2 hy'.2 fun n => ?_
      have hn := h n
      simp only [List.mem_cons] at hn
      constructor
      · intro q
        rcases hn.1 (.inr q) with r | r
        · subst r
          have := hx'.1 n q
          rw [O.irr] at this; cases this
        · exact r
      · intro q
        rcases hn.2 (.inr q) with r | r
        · subst r
          have := hy'.1 n q
          rw [O.irr] at this; cases this
        · exact r

variable [Inhabited α]
/-- How far the thing goes down. -/
def putKG (lt : α → α → Bool) (l : List α) (n : α) : Nat → Nat
  | 0 => 0
  | k + 1 => if lt n (l.getD k default) = true then putKG lt l n k else k + 1
theorem putKG_le (l : List α) (n : α) : ∀ m, putKG lt l n m ≤ m := by
  intro m
  induction m with
  | zero => exact Nat.le_refl _
  | succ m ih =>
    unfold putKG
    split
    · omega
    · exact Nat.le_refl _
theorem putKG_hi (l : List α) (n : α) : ∀ m j, putKG lt l n m ≤ j → j < m → lt n (l.getD j default) = true := by
  intro m
  induction m with
  | zero => intro j _ h; omega
  | succ m ih =>
    intro j h1 h2
    unfold putKG at h1
    split at h1
    · rename_i h
      by_cases e : j = m
      · rw [e]; exact h
      · exact ih j h1 (by omega)
    · omega
theorem putKG_lo (l : List α) (n : α) : ∀ m, 0 < putKG lt l n m → lt n (l.getD (putKG lt l n m - 1) default) = false := by
  intro m
  induction m with
  | zero => intro h; exact absurd h (by simp [putKG])
  | succ m ih =>
    intro h
    unfold putKG at h ⊢
    split
    · rename_i h1
      rw [if_pos h1] at h
      exact ih h
    · rename_i h1
      rw [Nat.add_sub_cancel]
      simpa using h1
theorem getDG {l : List α} {j : Nat} (h : j < l.length) : l.getD j default = l[j] := by simp [List.getD_eq_getElem?_getD, h]
variable [DecidableEq α]
/-- A thing put into an ascending list, once. -/
def putG (lt : α → α → Bool) (l : List α) (n : α) : List α :=
  if 0 < putKG lt l n l.length ∧ l.getD (putKG lt l n l.length - 1) default = n then l else l.take (putKG lt l n l.length) ++ n :: l.drop (putKG lt l n l.length)
theorem mem_putG (l : List α) (n x : α) : x ∈ putG lt l n ↔ x = n ∨ x ∈ l := by
  unfold putG
  have hle := putKG_le (lt := lt) l n l.length
  split
  · rename_i h
    constructor
    · exact .inr
    · rintro (q | q)
      · rw [q, ← h.2, getDG (by omega)]; exact List.getElem_mem _
      · exact q
  · rw [List.mem_append, List.mem_cons]
    constructor
    · rintro (q | q | q)
      · exact .inr (List.mem_of_mem_take q)
      · exact .inl q
      · exact .inr (List.mem_of_mem_drop q)
    · rintro (q | q)
      · exact .inr (.inl q)
      · rw [← List.take_append_drop (putKG lt l n l.length) l, List.mem_append] at q
        rcases q with q | q
        · exact .inl q
        · exact .inr (.inr q)
theorem putG_length (l : List α) (n : α) : (putG lt l n).length ≤ l.length + 1 := by
  unfold putG
  have hle := putKG_le (lt := lt) l n l.length
  split
  · omega
  · simp; omega
theorem putG_ge (l : List α) (n : α) : l.length ≤ (putG lt l n).length := by
  unfold putG
  have hle := putKG_le (lt := lt) l n l.length
  split
  · omega
  · simp; omega
theorem asc_putG (O : Whole lt) {l : List α} (h : AscG lt l) (n : α) : AscG lt (putG lt l n) := by
  unfold putG
  have hle := putKG_le (lt := lt) l n l.length
  have hhi := putKG_hi (lt := lt) l n l.length
  have hlo := putKG_lo (lt := lt) l n l.length
  generalize putKG lt l n l.length = k at hle hhi hlo
  split
  · exact h
  · rename_i hne
    have hd : ∀ b ∈ l.drop k, lt n b = true := by
      intro b hb
      obtain ⟨i, hi, rfl⟩ := List.mem_iff_getElem.1 hb
      rw [List.length_drop] at hi
      have := hhi (k + i) (by omega) (by omega)
      rw [getDG (by omega)] at this
      simpa using this
    have ht : ∀ a ∈ l.take k, lt a n = true := by
      intro a ha
      obtain ⟨i, hi, rfl⟩ := List.mem_iff_getElem.1 ha
      rw [List.length_take] at hi
      have h1 := hlo (by omega)
      have h2 : ¬ l.getD (k - 1) default = n := fun q => hne ⟨by omega, q⟩
      rw [getDG (by omega)] at h1 h2
      have h3 : lt l[k - 1] n = true := by
        rcases O.of_not h1 with q | q
        · exact absurd q.symm h2
        · exact q
      simp only [List.getElem_take]
      by_cases e : i = k - 1
      · subst e; exact h3
      · have := List.pairwise_iff_getElem.1 h i (k - 1) (by omega) (by omega) (by omega)
        exact O.tr _ _ _ this h3
    unfold AscG at h ⊢
    refine List.pairwise_append.2 ⟨List.Pairwise.sublist (List.take_sublist k l) h, List.pairwise_cons.2 ⟨hd, List.Pairwise.sublist (List.drop_sublist k l) h⟩, ?_⟩
    intro a ha b hb
    rcases List.mem_cons.1 hb with q | q
    · rw [q]; exact ht a ha
    · exact O.tr _ _ _ (ht a ha) (hd b q)
def putAllG (lt : α → α → Bool) (l : List α) : List α := l.foldl (putG lt) []
theorem putAllG_snoc (l : List α) (n : α) : putAllG lt (l ++ [n]) = putG lt (putAllG lt l) n := by simp [putAllG]
theorem putAllG_length (l : List α) : (putAllG lt l).length ≤ l.length := by
  have key : ∀ xs ys : List α, (xs.foldl (putG lt) ys).length ≤ ys.length + xs.length := by
    intro xs
    induction xs with
    | nil => intro ys; simp
    | cons a xs ih =>
      intro ys
      have h1 := ih (putG lt ys a)
      have h2 := putG_length (lt := lt) ys a
      rw [List.foldl_cons, List.length_cons]
      omega
  have := key l []
  simpa [putAllG] using this
theorem foldl_putG (O : Whole lt) (xs : List α) : ∀ l, AscG lt l → AscG lt (xs.foldl (putG lt) l) ∧ ∀ x, x ∈ xs.foldl (putG lt) l ↔ x ∈ l ∨ x ∈ xs := by
  induction xs with
  | nil => intro l h; exact ⟨h, by simp⟩
  | cons a xs ih =>
    intro l h
    obtain ⟨h1, h2⟩ := ih (putG lt l a) (asc_putG O h a)
    refine ⟨h1, fun x => ?_⟩
    rw [List.foldl_cons, h2, mem_putG, List.mem_cons]
    constructor
    · rintro ((q | q) | q)
      · exact .inr (.inl q)
      · exact .inl q
      · exact .inr (.inr q)
    · rintro (q | q | q)
      · exact .inl (.inr q)
      · exact .inl (.inl q)
      · exact .inr q
theorem asc_putAllG (O : Whole lt) (xs : List α) : AscG lt (putAllG lt xs) := (foldl_putG O xs [] List.Pairwise.nil).1
theorem mem_putAllG (O : Whole lt) (xs : List α) (x : α) : x ∈ putAllG lt xs ↔ x ∈ xs := by
  have := (foldl_putG O xs [] List.Pairwise.nil).2 x
  simpa [putAllG] using this
/-- An ascending list with the same members is the list of all that were put. -/
theorem putAllG_eq (O : Whole lt) {xs l : List α} (h : AscG lt l) (hm : ∀ x, x ∈ l ↔ x ∈ xs) : putAllG lt xs = l :=
  ascG_ext O (asc_putAllG O xs) h fun x => by rw [mem_putAllG O, hm]
theorem putAllG_self (O : Whole lt) {l : List α} (h : AscG lt l) : putAllG lt l = l := putAllG_eq O h fun _ => Iff.rfl
theorem putAllG_congr (O : Whole lt) {xs ys : List α} (hm : ∀ x, x ∈ xs ↔ x ∈ ys) : putAllG lt xs = putAllG lt ys :=
  putAllG_eq O (asc_putAllG O ys) fun x => by rw [mem_putAllG O, hm]

/-- The first of each run of equal things, of the first ones. -/
def dedToG (l : List α) : Nat → List α
  | 0 => []
  | i + 1 => if i = 0 ∨ l.getD (i - 1) default ≠ l.getD i default then dedToG l i ++ [l.getD i default] else dedToG l i
theorem dedToG_ok (O : Whole lt) {l : List α} (h : l.Pairwise (fun a b => lt b a = false)) : ∀ i, i ≤ l.length → AscG lt (dedToG l i) ∧ ∀ x, x ∈ dedToG l i ↔ x ∈ l.take i := by
  intro i
  induction i with
  | zero => intro _; exact ⟨List.Pairwise.nil, by simp [dedToG]⟩
  | succ i ih =>
    intro hi
    obtain ⟨h1, h2⟩ := ih (by omega)
    have e : l.take (i + 1) = l.take i ++ [l.getD i default] := by rw [List.take_succ_eq_append_getElem (by omega), getDG (by omega)]
    unfold dedToG
    split
    · rename_i hc
      refine ⟨?_, fun x => by rw [e, List.mem_append, List.mem_append, h2]⟩
      unfold AscG at h1 ⊢
      refine List.pairwise_append.2 ⟨h1, List.pairwise_singleton _ _, fun a ha b hb => ?_⟩
      rw [List.mem_singleton.1 hb]
      have ha' := (h2 a).1 ha
      obtain ⟨j, hj, rfl⟩ := List.mem_iff_getElem.1 ha'
      rw [List.length_take] at hj
      rw [List.getElem_take, getDG (by omega)]
      rcases hc with hc | hc
      · omega
      · rw [getDG (by omega), getDG (by omega)] at hc
        have q2 : lt l[i - 1] l[i] = true := by
          rcases O.of_not (List.pairwise_iff_getElem.1 h (i - 1) i (by omega) (by omega) (by omega)) with q | q
          · exact absurd q.symm hc
          · exact q
        by_cases q : j = i - 1
        · subst q; exact q2
        · rcases O.of_not (List.pairwise_iff_getElem.1 h j (i - 1) (by omega) (by omega) (by omega)) with r | r
          · rw [← r]; exact q2
          · exact O.tr _ _ _ r q2
    · rename_i hc
      refine ⟨h1, fun x => ?_⟩
      rw [h2, e, List.mem_append, List.mem_singleton]
      constructor
      · exact .inl
      · rintro (q | q)
        · exact q
        · have hi0 : ¬ i = 0 := fun q' => hc (.inl q')
          have heq : l.getD (i - 1) default = l.getD i default := by
            by_cases q' : l.getD (i - 1) default = l.getD i default
            · exact q'
            · exact absurd (.inr q') hc
          rw [q, ← heq, getDG (by omega)]
          exact List.mem_iff_getElem.2 ⟨i - 1, by rw [List.length_take]; omega, by simp⟩
theorem dedToG_le (l : List α) : ∀ i, (dedToG l i).length ≤ i := by
  intro i
  induction i with
  | zero => exact Nat.le_refl _
  | succ i ih =>
    unfold dedToG
    split
    · simp; omega
    · omega
/-- Sorting and putting come to the same. -/
theorem ded_eq (O : Whole lt) {xs l : List α} (h : l.Pairwise (fun a b => lt b a = false)) (hm : ∀ x, x ∈ l ↔ x ∈ xs) : dedToG l l.length = putAllG lt xs := by
  obtain ⟨h1, h2⟩ := dedToG_ok O h l.length (Nat.le_refl _)
  refine ascG_ext O h1 (asc_putAllG O xs) fun x => ?_
  rw [h2, mem_putAllG O, List.take_length, hm]
end

/-! ### numbers, cells, lists of cells -/
def ltI (a b : Int) : Bool := decide (a < b)
theorem wholeI : Whole ltI where
  irr a := by simp [ltI]
  tr a b c h1 h2 := by simp [ltI] at *; omega
  tot a b h := by simp [ltI]; omega
instance : Inhabited Cl := ⟨⟨0, 0⟩⟩
def ltC (a b : Cl) : Bool := decide (a.y < b.y) || (decide (a.y = b.y) && decide (a.x < b.x))
theorem ltC_iff {a b : Cl} : ltC a b = true ↔ a.y < b.y ∨ (a.y = b.y ∧ a.x < b.x) := by simp [ltC]
theorem wholeC : Whole ltC where
  irr a := by
    cases h : ltC a a with
    | false => rfl
    | true => rw [ltC_iff] at h; omega
  tr a b c h1 h2 := by rw [ltC_iff] at *; omega
  tot a b h := by
    rw [ltC_iff, ltC_iff]
    have : ¬ (a.x = b.x ∧ a.y = b.y) := fun q => h (by obtain ⟨x, y⟩ := a; obtain ⟨x', y'⟩ := b; simp at q; rw [q.1, q.2])
    omega
/-- Of lists of one length the first cell that differs decides. -/
def ltLex : List Cl → List Cl → Bool
  | [], _ => false
  | _ :: _, [] => false
  | a :: l, b :: m => ltC a b || (decide (a = b) && ltLex l m)
def ltS (a b : List Cl) : Bool := decide (a.length < b.length) || (decide (a.length = b.length) && ltLex a b)
theorem ltLex_irr : ∀ a, ltLex a a = false
  | [] => rfl
  | a :: l => by simp [ltLex, wholeC.irr, ltLex_irr l]
theorem ltLex_tr : ∀ a b c, ltLex a b = true → ltLex b c = true → ltLex a c = true
  | [], _, _, h, _ => by simp [ltLex] at h
  | _ :: _, [], _, h, _ => by simp [ltLex] at h
  | _ :: _, _ :: _, [], _, h => by simp [ltLex] at h
  | a :: l, b :: m, c :: n, h1, h2 => by
    simp only [ltLex, Bool.or_eq_true, Bool.and_eq_true, decide_eq_true_eq] at *
    rcases h1 with h1 | ⟨rfl, h1⟩
    · rcases h2 with h2 | ⟨rfl, h2⟩
      · exact .inl (wholeC.tr _ _ _ h1 h2)
      · exact .inl h1
    · rcases h2 with h2 | ⟨rfl, h2⟩
      · exact .inl h2
      · exact .inr ⟨rfl, ltLex_tr l m n h1 h2⟩
theorem ltLex_tot : ∀ a b : List Cl, a.length = b.length → a ≠ b → ltLex a b = true ∨ ltLex b a = true
  | [], [], _, h => absurd rfl h
  | [], _ :: _, h, _ => by simp at h
  | _ :: _, [], h, _ => by simp at h
  | a :: l, b :: m, h, hne => by
    simp only [ltLex, Bool.or_eq_true, Bool.and_eq_true, decide_eq_true_eq]
    by_cases e : a = b
    · subst e
      rcases ltLex_tot l m (by simpa using h) (fun q => hne (by rw [q])) with q | q
      · exact .inl (.inr ⟨rfl, q⟩)
      · exact .inr (.inr ⟨rfl, q⟩)
    · rcases wholeC.tot a b e with q | q
      · exact .inl (.inl q)
      · exact .inr (.inl q)
theorem ltS_iff {a b : List Cl} : ltS a b = true ↔ a.length < b.length ∨ (a.length = b.length ∧ ltLex a b = true) := by simp [ltS]
theorem wholeS : Whole ltS where
  irr a := by simp [ltS, ltLex_irr]
  tr a b c h1 h2 := by
    rw [ltS_iff] at *
    rcases h1 with h1 | ⟨e1, h1⟩
    · rcases h2 with h2 | ⟨e2, h2⟩
      · left; omega
      · left; omega
    · rcases h2 with h2 | ⟨e2, h2⟩
      · left; omega
      · exact .inr ⟨by omega, ltLex_tr _ _ _ h1 h2⟩
  tot a b h := by
    rw [ltS_iff, ltS_iff]
    rcases Nat.lt_trichotomy a.length b.length with q | q | q
    · exact .inl (.inl q)
    · rcases ltLex_tot a b q h with r | r
      · exact .inl (.inr ⟨q, r⟩)
      · exact .inr (.inr ⟨q.symm, r⟩)
    · exact .inr (.inl q)
def sortIL (l : List Int) : List Int := l.mergeSort fun x y => decide (x ≤ y)
theorem sortIL_length (l : List Int) : (sortIL l).length = l.length := List.length_mergeSort l
theorem sortIL_pairwise (l : List Int) : (sortIL l).Pairwise (fun a b => ltI b a = false) := by
  have h := List.pairwise_mergeSort (le := fun x y : Int => decide (x ≤ y)) (fun a b c h1 h2 => by simp at *; omega) (fun a b => by simp; omega) l
  exact h.imp fun h => by simp [ltI] at h ⊢; omega
theorem orderedI_eq (l : List Int) : dedToG (sortIL l) l.length = putAllG ltI l := by
  rw [← sortIL_length l]
  exact ded_eq wholeI (sortIL_pairwise l) fun x => by unfold sortIL; exact List.mem_mergeSort
end Go.Proofs.Ytipikojinfpidaa
