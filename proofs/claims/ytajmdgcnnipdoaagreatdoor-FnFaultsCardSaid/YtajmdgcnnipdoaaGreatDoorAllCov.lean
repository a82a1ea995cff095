/- AllCov: parts laid together: CovP, PlacP. -/
import Derived.Test.YtajmdgcnnipdoaaGreatDoorAllPl

/- CovP: what the search finds covers, and where there is a cover, the search finds one: plain. -/
namespace Go.Proofs.YtajmdgcnnipdoaaGreatDoor
open Go.RowKit

theorem goS_mem {A : List Int} {rec : Nat → List (List Int)} {free : Nat} {l : List Int} : ∀ k, k ≤ A.length → l ∈ goS A rec free k → ∃ v ∈ A, fitsB free v = true ∧ ∃ t ∈ rec (free - v.toNat), l = v :: t
  | 0, _, h => absurd h List.not_mem_nil
  | k + 1, hk, h => by
    by_cases hf : fitsB free A[k] = true
    · rw [goS_yes (by omega) hf] at h
      rcases List.mem_append.1 h with h | h
      · exact goS_mem k (by omega) h
      · obtain ⟨t, ht, rfl⟩ := List.mem_map.1 h
        exact ⟨A[k], List.getElem_mem _, hf, t, ht, rfl⟩
    · rw [goS_no (by omega) (by simpa using hf)] at h
      exact goS_mem k (by omega) h
inductive TileL (A : List Int) : Nat → List Int → Prop
  | nil : TileL A 0 []
  | cons {free : Nat} {v : Int} {t : List Int} : free ≠ 0 → v ∈ A → fitsB free v = true → TileL A (free - v.toNat) t → TileL A free (v :: t)
theorem srchF_tile {A : List Int} : ∀ (f free : Nat), ∀ l ∈ srchF A f free, TileL A free l
  | 0, free, l, h => by
    rw [srchF] at h
    by_cases h0 : free = 0
    · rw [if_pos h0, List.mem_singleton] at h
      subst h0 h
      exact .nil
    · rw [if_neg h0] at h
      exact absurd h List.not_mem_nil
  | f + 1, free, l, h => by
    rw [srchF] at h
    by_cases h0 : free = 0
    · rw [if_pos h0, List.mem_singleton] at h
      subst h0 h
      exact .nil
    · rw [if_neg h0] at h
      obtain ⟨v, hv, hf, t, ht, rfl⟩ := goS_mem A.length (Nat.le_refl _) h
      exact .cons h0 hv hf (srchF_tile f _ t ht)
theorem fits_low {free : Nat} {v : Int} (h0 : free ≠ 0) (h36 : free < 68719476736) (hf : fitsB free v = true) : v.toNat &&& free = v.toNat ∧ 0 < v.toNat ∧ v.toNat < 68719476736 ∧ lowB v.toNat = lowB free := by
  rw [fitsB_def, Bool.and_eq_true] at hf
  obtain ⟨hb, hs⟩ := hf
  have hs := of_decide_eq_true hs
  have hle := fits_sub hs
  have hv0 : 0 < v.toNat := by
    rcases Nat.eq_zero_or_pos v.toNat with h | h
    · rw [h, Nat.zero_testBit] at hb; cases hb
    · exact h
  refine ⟨hs, hv0, by omega, ?_⟩
  have h1 : ¬ lowB free < lowB v.toNat := fun h => by
    rw [low_below hv0 (by omega) h] at hb
    cases hb
  have h2 : ¬ lowB v.toNat < lowB free := fun h => by
    have h3 : (v.toNat &&& free).testBit (lowB v.toNat) = v.toNat.testBit (lowB v.toNat) := by rw [hs]
    rw [Nat.testBit_and, low_below (Nat.pos_of_ne_zero h0) (by omega) h, Bool.and_false, low_bit hv0 (by omega)] at h3
    cases h3
  omega
theorem tile_cov {A : List Int} {M : Nat} {l : List Int} {free : Nat} {suf : List Int} (h : TileL A free suf) : free < 68719476736 → ∀ k, k ≤ l.length → l.drop k = suf → covTo A l k = true → usedTo l k &&& free = 0 → usedTo l k ||| free = M →
    (∀ i, free.testBit i = true → k = 0 ∨ lowB (l.getD (k - 1) 0).toNat < i) → covTo A l l.length = true ∧ usedTo l l.length = M := by
  induction h with
  | nil =>
    intro _ k hk hd hc _ hM _
    have : k = l.length := by have := congrArg List.length hd; rw [List.length_drop, List.length_nil] at this; omega
    subst this
    rw [Nat.or_zero] at hM
    exact ⟨hc, hM⟩
  | @cons free v t h0 hv hf _ ih =>
    intro h36 k hk hd hc hz hM hlo
    obtain ⟨hs, hv0, hv36, hlow⟩ := fits_low h0 h36 hf
    have hkl : k < l.length := by have := congrArg List.length hd; rw [List.length_drop, List.length_cons] at this; omega
    rw [List.drop_eq_getElem_cons hkl] at hd
    injection hd with hd1 hd2
    have hu := usedTo_at l k hkl
    rw [hd1] at hu
    have hbit : ∀ i, v.toNat.testBit i = true → free.testBit i = true := fun i hi => by
      rw [← hs, Nat.testBit_and, Bool.and_eq_true] at hi
      exact hi.2
    have hzi : ∀ i, ((usedTo l k).testBit i && free.testBit i) = false := fun i => by rw [← Nat.testBit_and, hz, Nat.zero_testBit]
    have hzv : usedTo l k &&& v.toNat = 0 := by
      refine Nat.eq_of_testBit_eq fun i => ?_
      rw [Nat.testBit_and, Nat.zero_testBit]
      have h1 := hzi i
      cases hb : v.toNat.testBit i with
      | false => rw [Bool.and_false]
      | true => rw [hbit i hb] at h1; exact h1
    refine ih (by omega) (k + 1) hkl hd2 ?_ ?_ ?_ ?_
    · rw [covTo, hc, Bool.true_and, covStep_at A l k hkl, hd1, decide_eq_true hv, decide_eq_true hzv]
      simp only [Bool.true_and, Bool.or_eq_true, decide_eq_true_eq]
      exact hlo _ (hbit _ (low_bit hv0 (by omega)))
    · rw [← hu]
      refine Nat.eq_of_testBit_eq fun i => ?_
      rw [Nat.testBit_and, Nat.testBit_or, sub_bits hs, Nat.zero_testBit]
      have h1 := hzi i
      cases h2 : (usedTo l k).testBit i <;> cases h3 : v.toNat.testBit i <;> cases h4 : free.testBit i <;> simp_all
    · rw [← hu, ← hM]
      refine Nat.eq_of_testBit_eq fun i => ?_
      rw [Nat.testBit_or, Nat.testBit_or, Nat.testBit_or, sub_bits hs]
      have h1 := hbit i
      cases h2 : (usedTo l k).testBit i <;> cases h3 : v.toNat.testBit i <;> cases h4 : free.testBit i <;> simp_all
    · intro i hi
      right
      rw [Nat.add_sub_cancel, getD_at l k hkl, hd1, hlow]
      rw [sub_bits hs, Bool.and_eq_true] at hi
      rcases Nat.lt_trichotomy i (lowB free) with h | h | h
      · rw [low_below (Nat.pos_of_ne_zero h0) (by omega) h] at hi
        cases hi.1
      · have h5 : v.toNat.testBit i = true := by rw [h, ← hlow]; exact low_bit hv0 (by omega)
        rw [h5] at hi
        cases hi.2
      · exact h
theorem srchF_cov {A : List Int} {M f : Nat} {l : List Int} (hM : M < 68719476736) (h : l ∈ srchF A f M) : covL A M l = true := by
  have h1 := tile_cov (M := M) (srchF_tile f M l h) hM 0 (Nat.zero_le _) rfl rfl (Nat.zero_and _) (Nat.zero_or _) fun i _ => Or.inl rfl
  unfold covL
  rw [h1.1, decide_eq_true h1.2]
  rfl
theorem mem_goS {A : List Int} {rec : Nat → List (List Int)} {free : Nat} {v : Int} {t : List Int} (hf : fitsB free v = true) (ht : t ∈ rec (free - v.toNat)) : ∀ k, k ≤ A.length → v ∈ A.take k → v :: t ∈ goS A rec free k
  | 0, _, h => by simp at h
  | k + 1, hk, h => by
    rw [List.take_succ_eq_append_getElem (by omega)] at h
    rcases List.mem_append.1 h with h | h
    · have h1 := mem_goS hf ht k (by omega) h
      by_cases hf2 : fitsB free A[k] = true
      · rw [goS_yes (by omega) hf2]
        exact List.mem_append.2 (Or.inl h1)
      · rw [goS_no (by omega) (by simpa using hf2)]
        exact h1
    · obtain rfl := List.mem_singleton.1 h
      rw [goS_yes (by omega) hf]
      exact List.mem_append.2 (Or.inr (List.mem_map.2 ⟨t, ht, rfl⟩))
theorem tile_srchF {A : List Int} {free : Nat} {l : List Int} (h : TileL A free l) : free < 68719476736 → ∀ f, free ≤ f → l ∈ srchF A f free := by
  induction h with
  | nil =>
    intro _ f _
    rw [srchF_zero]
    exact List.mem_singleton.2 rfl
  | @cons free v t h0 hv hf _ ih =>
    intro h36 f hff
    obtain ⟨hs, hv0, _, _⟩ := fits_low h0 h36 hf
    obtain ⟨f, rfl⟩ : ∃ g, f = g + 1 := ⟨f - 1, by omega⟩
    rw [srchF_pos A f h0]
    refine mem_goS hf (ih (by omega) f (by omega)) A.length (Nat.le_refl _) ?_
    rw [List.take_length]
    exact hv
/-- Some masks of a list, apart from each other, that together have the places of a mask. -/
def DC (A : List Int) (M : Nat) (l : List Int) : Prop := (∀ v ∈ l, v ∈ A) ∧ l.Pairwise (fun u v => u.toNat &&& v.toNat = 0) ∧ ∀ i, M.testBit i = true ↔ ∃ v ∈ l, v.toNat.testBit i = true
theorem apart_iff {u v : Nat} : u &&& v = 0 ↔ ∀ i, u.testBit i = true → v.testBit i = false := by
  constructor
  · intro h i hi
    have h1 : (u &&& v).testBit i = false := by rw [h, Nat.zero_testBit]
    rw [Nat.testBit_and, hi, Bool.true_and] at h1
    exact h1
  · intro h
    refine Nat.eq_of_testBit_eq fun i => ?_
    rw [Nat.testBit_and, Nat.zero_testBit]
    cases hu : u.testBit i with
    | false => rfl
    | true => rw [h i hu]; rfl
theorem dc_tile {A : List Int} (hA : ∀ v ∈ A, Mk v) : ∀ (n M : Nat) (l : List Int), l.length = n → M < 68719476736 → DC A M l → ∃ l', TileL A M l'
  | n, M, l, hn, hM, ⟨h1, h2, h3⟩ => by
    by_cases h0 : M = 0
    · subst h0; exact ⟨[], .nil⟩
    · have hlb := low_bit (Nat.pos_of_ne_zero h0) (Nat.lt_trans hM (by decide))
      obtain ⟨v, hv, hvb⟩ := (h3 _).1 hlb
      obtain ⟨a, b, rfl⟩ := List.append_of_mem hv
      have hsub : v.toNat &&& M = v.toNat := by
        refine Nat.eq_of_testBit_eq fun i => ?_
        rw [Nat.testBit_and]
        cases hb : v.toNat.testBit i with
        | false => rfl
        | true => rw [(h3 i).2 ⟨v, hv, hb⟩]; rfl
      have hf : fitsB M v = true := by rw [fitsB_def, hvb, decide_eq_true hsub]; rfl
      have h36 : M - v.toNat < 68719476736 := Nat.lt_of_le_of_lt (Nat.sub_le _ _) hM
      rw [List.pairwise_append, List.pairwise_cons] at h2
      obtain ⟨p1, ⟨p2, p3⟩, p4⟩ := h2
      have hlen : (a ++ b).length < n := by rw [← hn, List.length_append, List.length_append, List.length_cons]; omega
      have hd : DC A (M - v.toNat) (a ++ b) := by
        refine ⟨fun u hu => h1 u ?_, ?_, fun i => ?_⟩
        · rcases List.mem_append.1 hu with h | h
          · exact List.mem_append.2 (Or.inl h)
          · exact List.mem_append.2 (Or.inr (List.mem_cons_of_mem _ h))
        · rw [List.pairwise_append]
          exact ⟨p1, p3, fun x hx y hy => p4 x hx y (List.mem_cons_of_mem _ hy)⟩
        · rw [sub_bits hsub, Bool.and_eq_true, h3 i]
          constructor
          · rintro ⟨⟨u, hu, hub⟩, hnv⟩
            refine ⟨u, ?_, hub⟩
            rcases List.mem_append.1 hu with h | h
            · exact List.mem_append.2 (Or.inl h)
            · rcases List.mem_cons.1 h with h | h
              · subst h; rw [hub] at hnv; cases hnv
              · exact List.mem_append.2 (Or.inr h)
          · rintro ⟨u, hu, hub⟩
            refine ⟨⟨u, ?_, hub⟩, ?_⟩
            · rcases List.mem_append.1 hu with h | h
              · exact List.mem_append.2 (Or.inl h)
              · exact List.mem_append.2 (Or.inr (List.mem_cons_of_mem _ h))
            · have hz : u.toNat &&& v.toNat = 0 := by
                rcases List.mem_append.1 hu with h | h
                · exact p4 u h v List.mem_cons_self
                · rw [Nat.and_comm]; exact p2 u h
              rw [apart_iff.1 hz i hub]
              rfl
      obtain ⟨l', hl'⟩ := dc_tile hA (a ++ b).length (M - v.toNat) (a ++ b) rfl h36 hd
      exact ⟨v :: l', .cons h0 (h1 v hv) hf hl'⟩
  termination_by n => n
theorem tile_dc {A : List Int} {M : Nat} {l : List Int} (h : TileL A M l) : M < 68719476736 → DC A M l := by
  induction h with
  | nil => intro _; exact ⟨fun v hv => absurd hv List.not_mem_nil, List.Pairwise.nil, fun i => by simp⟩
  | @cons free v t h0 hv hf _ ih =>
    intro h36
    obtain ⟨hs, hv0, _, _⟩ := fits_low h0 h36 hf
    obtain ⟨h1, h2, h3⟩ := ih (by omega)
    refine ⟨fun u hu => ?_, ?_, fun i => ?_⟩
    · rcases List.mem_cons.1 hu with h | h
      · subst h; exact hv
      · exact h1 u h
    · rw [List.pairwise_cons]
      refine ⟨fun u hu => ?_, h2⟩
      rw [apart_iff]
      intro i hi
      have h4 : (free - v.toNat).testBit i = false := by rw [sub_bits hs, hi]; simp
      cases hb : u.toNat.testBit i with
      | false => rfl
      | true => rw [(h3 i).2 ⟨u, hu, hb⟩] at h4; cases h4
    · have h4 := h3 i
      rw [sub_bits hs] at h4
      constructor
      · intro hi
        cases hb : v.toNat.testBit i with
        | true => exact ⟨v, List.mem_cons_self, hb⟩
        | false =>
          obtain ⟨u, hu, hub⟩ := h4.1 (by rw [hi, hb]; rfl)
          exact ⟨u, List.mem_cons_of_mem _ hu, hub⟩
      · rintro ⟨u, hu, hub⟩
        rcases List.mem_cons.1 hu with h | h
        · subst h
          rw [← hs, Nat.testBit_and, Bool.and_eq_true] at hub
          exact hub.2
        · have h5 := h4.2 ⟨u, h, hub⟩
          rw [Bool.and_eq_true] at h5
          exact h5.1
theorem tile_mono {A B : List Int} (hs : ∀ v ∈ A, v ∈ B) {M : Nat} {l : List Int} (h : TileL A M l) : TileL B M l := by
  induction h with
  | nil => exact .nil
  | cons h0 hv hf _ ih => exact .cons h0 (hs _ hv) hf ih
/-- Masks carried one by one to another list of masks, bit by bit: a cover is carried to a cover. -/
theorem dc_map {A B : List Int} {M M' : Nat} {τ : Nat → Nat} (hτ : ∀ i j, M.testBit i = true → M.testBit j = true → τ i = τ j → i = j) (hM : ∀ i, M'.testBit i = true ↔ ∃ j, M.testBit j = true ∧ i = τ j)
    (hA : ∀ v ∈ A, ∃ u ∈ B, ∀ i, u.toNat.testBit i = true ↔ ∃ j, v.toNat.testBit j = true ∧ i = τ j) {l : List Int} (h : DC A M l) : ∃ l', DC B M' l' := by
  obtain ⟨h1, h2, h3⟩ := h
  have key : ∀ l : List Int, (∀ v ∈ l, v ∈ A) → l.Pairwise (fun u v => u.toNat &&& v.toNat = 0) → (∀ v ∈ l, ∀ i, v.toNat.testBit i = true → M.testBit i = true) →
      ∃ l' : List Int, (∀ v ∈ l', v ∈ B) ∧ l'.Pairwise (fun u v => u.toNat &&& v.toNat = 0) ∧ ∀ i, (∃ v ∈ l', v.toNat.testBit i = true) ↔ ∃ v ∈ l, ∃ j, v.toNat.testBit j = true ∧ i = τ j := by
    intro l
    induction l with
    | nil => exact fun _ _ _ => ⟨[], fun v hv => absurd hv List.not_mem_nil, List.Pairwise.nil, fun i => by simp⟩
    | cons v l ih =>
      intro a1 a2 a3
      rw [List.pairwise_cons] at a2
      obtain ⟨l', b1, b2, b3⟩ := ih (fun u hu => a1 u (List.mem_cons_of_mem _ hu)) a2.2 (fun u hu => a3 u (List.mem_cons_of_mem _ hu))
      obtain ⟨u, hu, hub⟩ := hA v (a1 v List.mem_cons_self)
      refine ⟨u :: l', fun x hx => ?_, ?_, fun i => ?_⟩
      · rcases List.mem_cons.1 hx with h | h
        · subst h; exact hu
        · exact b1 x h
      · rw [List.pairwise_cons]
        refine ⟨fun x hx => ?_, b2⟩
        rw [apart_iff]
        intro i hi
        cases hxb : x.toNat.testBit i with
        | false => rfl
        | true =>
          obtain ⟨j, hj, e⟩ := (hub i).1 hi
          obtain ⟨y, hy, k, hk, e2⟩ := (b3 i).1 ⟨x, hx, hxb⟩
          have e3 : j = k := hτ j k (a3 v List.mem_cons_self j hj) (a3 y (List.mem_cons_of_mem _ hy) k hk) (by rw [← e, ← e2])
          subst e3
          have h5 := apart_iff.1 (a2.1 y hy) j hj
          rw [hk] at h5
          cases h5
      · constructor
        · rintro ⟨x, hx, hxb⟩
          rcases List.mem_cons.1 hx with h | h
          · subst h
            exact ⟨v, List.mem_cons_self, (hub i).1 hxb⟩
          · obtain ⟨y, hy, k, hk⟩ := (b3 i).1 ⟨x, h, hxb⟩
            exact ⟨y, List.mem_cons_of_mem _ hy, k, hk⟩
        · rintro ⟨y, hy, k, hk⟩
          rcases List.mem_cons.1 hy with h | h
          · subst h
            exact ⟨u, List.mem_cons_self, (hub i).2 ⟨k, hk⟩⟩
          · obtain ⟨x, hx, hxb⟩ := (b3 i).2 ⟨y, h, k, hk⟩
            exact ⟨x, List.mem_cons_of_mem _ hx, hxb⟩
  obtain ⟨l', b1, b2, b3⟩ := key l h1 h2 (fun v hv i hi => (h3 i).2 ⟨v, hv, hi⟩)
  refine ⟨l', b1, b2, fun i => ?_⟩
  rw [b3 i, hM i]
  constructor
  · rintro ⟨j, hj, e⟩
    obtain ⟨v, hv, hb⟩ := (h3 j).1 hj
    exact ⟨v, hv, j, hb, e⟩
  · rintro ⟨v, hv, j, hj, e⟩
    exact ⟨j, (h3 j).2 ⟨v, hv, hj⟩, e⟩
/-- The search finds a cover exactly if there is one. -/
theorem some_dc {A : List Int} (hA : ∀ v ∈ A, Mk v) {M f : Nat} (hM : M < 68719476736) (hf : M ≤ f) : someT (srchF A f M) = true ↔ ∃ l, DC A M l := by
  constructor
  · intro h
    cases hF : srchF A f M with
    | nil => rw [hF] at h; cases h
    | cons t Ts => exact ⟨t, tile_dc (srchF_tile f M t (by rw [hF]; simp)) hM⟩
  · rintro ⟨l, hl⟩
    obtain ⟨l', hl'⟩ := dc_tile hA l.length M l rfl hM hl
    have h1 := tile_srchF hl' hM f hf
    cases hF : srchF A f M with
    | nil => rw [hF] at h1; simp at h1
    | cons t Ts => rfl
end Go.Proofs.YtajmdgcnnipdoaaGreatDoor

/- PlacP: which masks a region's pieces have; a rectangle turned over is tiled as it is, and what tiles a rectangle tiles the torus; plain. -/
namespace Go.Proofs.YtajmdgcnnipdoaaGreatDoor
open Go.RowKit

theorem mem_plRow {B : Nat} {xs : List Int} {t : List Cl} {y : Nat} {v : Int} : ∀ {n}, v ∈ plRow B xs t y n ↔ ∃ x, x < n ∧ v ∈ plOne B xs t y x
  | 0 => by simp [plRow]
  | n + 1 => by
    rw [plRow, List.mem_append, mem_plRow]
    constructor
    · rintro (⟨x, h1, h2⟩ | h)
      · exact ⟨x, by omega, h2⟩
      · exact ⟨n, by omega, h⟩
    · rintro ⟨x, h1, h2⟩
      by_cases e : x = n
      · subst e; exact Or.inr h2
      · exact Or.inl ⟨x, by omega, h2⟩
theorem mem_plGrid {B : Nat} {xs : List Int} {t : List Cl} {v : Int} : ∀ {n}, v ∈ plGrid B xs t n ↔ ∃ y, y < n ∧ ∃ x, x < B ∧ v ∈ plOne B xs t y x
  | 0 => by simp [plGrid]
  | n + 1 => by
    rw [plGrid, List.mem_append, mem_plGrid, mem_plRow]
    constructor
    · rintro (⟨y, h1, h2⟩ | h)
      · exact ⟨y, by omega, h2⟩
      · exact ⟨n, by omega, h⟩
    · rintro ⟨y, h1, h2⟩
      by_cases e : y = n
      · subst e; exact Or.inr h2
      · exact Or.inl ⟨y, by omega, h2⟩
theorem mem_plTo {B : Nat} {xs : List Int} {rows : List (List Cl)} {v : Int} : ∀ {n}, n ≤ rows.length → (v ∈ plTo B xs rows n ↔ ∃ t ∈ rows.take n, v ∈ plGrid B xs t xs.length)
  | 0, _ => by simp [plTo]
  | n + 1, h => by
    rw [plTo, List.mem_append, mem_plTo (by omega), getDG (by omega), List.take_succ_eq_append_getElem (by omega)]
    constructor
    · rintro (⟨t, h1, h2⟩ | h)
      · exact ⟨t, List.mem_append.2 (Or.inl h1), h2⟩
      · exact ⟨_, List.mem_append.2 (Or.inr (List.mem_singleton.2 rfl)), h⟩
    · rintro ⟨t, h1, h2⟩
      rcases List.mem_append.1 h1 with h1 | h1
      · exact Or.inl ⟨t, h1, h2⟩
      · rw [List.mem_singleton.1 h1] at h2; exact Or.inr h2
theorem mem_plOne {B : Nat} {xs : List Int} {t : List Cl} {y x : Nat} {v : Int} : v ∈ plOne B xs t y x ↔ ∃ m : Nat, mocS B xs (t.map fun c => ⟨c.x + x, c.y + y⟩) 0 = some m ∧ v = (m : Int) := by
  unfold plOne
  cases mocS B xs (t.map fun c => ⟨c.x + x, c.y + y⟩) 0 with
  | none => simp
  | some m => simp
theorem mem_allTo {B : Nat} {xs : List Int} {ps : List (List Cl)} {v : Int} : ∀ {n}, n ≤ ps.length → (v ∈ allTo B xs ps n ↔ ∃ s ∈ ps.take n, v ∈ placL B xs s)
  | 0, _ => by simp [allTo]
  | n + 1, h => by
    rw [allTo, List.mem_append, mem_allTo (by omega), getDG (by omega), List.take_succ_eq_append_getElem (by omega)]
    constructor
    · rintro (⟨t, h1, h2⟩ | h)
      · exact ⟨t, List.mem_append.2 (Or.inl h1), h2⟩
      · exact ⟨_, List.mem_append.2 (Or.inr (List.mem_singleton.2 rfl)), h⟩
    · rintro ⟨t, h1, h2⟩
      rcases List.mem_append.1 h1 with h1 | h1
      · exact Or.inl ⟨t, h1, h2⟩
      · rw [List.mem_singleton.1 h1] at h2; exact Or.inr h2
theorem mem_allL {B : Nat} {xs : List Int} {ps : List (List Cl)} {v : Int} : v ∈ allL B xs ps ↔ ∃ s ∈ ps, ∃ t ∈ orientL s, ∃ y, y < xs.length ∧ ∃ x, x < B ∧ ∃ m : Nat, mocS B xs (t.map fun c => ⟨c.x + x, c.y + y⟩) 0 = some m ∧ v = (m : Int) := by
  unfold allL
  rw [mem_putAllG wholeI, mem_allTo (Nat.le_refl _), List.take_length]
  unfold placL
  constructor
  · rintro ⟨s, hs, h⟩
    rw [mem_putAllG wholeI, mem_plTo (Nat.le_refl _), List.take_length] at h
    obtain ⟨t, ht, h⟩ := h
    obtain ⟨y, hy, x, hx, h⟩ := mem_plGrid.1 h
    obtain ⟨m, hm, e⟩ := mem_plOne.1 h
    exact ⟨s, hs, t, ht, y, hy, x, hx, m, hm, e⟩
  · rintro ⟨s, hs, t, ht, y, hy, x, hx, m, hm, e⟩
    refine ⟨s, hs, ?_⟩
    rw [mem_putAllG wholeI, mem_plTo (Nat.le_refl _), List.take_length]
    exact ⟨t, ht, mem_plGrid.2 ⟨y, hy, x, hx, mem_plOne.2 ⟨m, hm, e⟩⟩⟩
/-- The rows of a full rectangle. -/
def rect (W H : Nat) : List Int := List.replicate H ((2 ^ W - 1 : Nat) : Int)
theorem rect_length (W H : Nat) : (rect W H).length = H := List.length_replicate
theorem inR_rect {W H X Y : Nat} : inR W (rect W H) X Y = true ↔ X < W ∧ Y < H := by
  unfold inR
  rw [rect_length]
  simp only [Bool.and_eq_true, decide_eq_true_eq]
  constructor
  · rintro ⟨h1, h2, _⟩; exact ⟨h1, h2⟩
  · rintro ⟨h1, h2⟩
    refine ⟨h1, h2, ?_⟩
    have e : (rect W H).getD Y 0 = ((2 ^ W - 1 : Nat) : Int) := by
      unfold rect
      rw [List.getD_eq_getElem?_getD, List.getElem?_replicate, if_pos h2]
      rfl
    rw [e, Int.toNat_natCast, Nat.testBit_two_pow_sub_one, decide_eq_true h1]
theorem reg_rect {W H : Nat} (hW : 1 ≤ W ∧ W ≤ 6) (hH : 1 ≤ H ∧ H ≤ 6) : Reg (W : Int) (rect W H) := by
  refine ⟨⟨by omega, by omega⟩, by rw [rect_length]; exact hH, fun x hx => ?_⟩
  unfold rect at hx
  rw [(List.mem_replicate.1 hx).2, Int.toNat_natCast]
  have h1 : ((2 : Int) ^ W) = ((2 ^ W : Nat) : Int) := by norm_cast
  have h2 := Nat.two_pow_pos W
  rw [h1]
  omega
theorem rect_mask : ∀ W : Nat, W < 7 → ∀ H : Nat, H < 7 → regMask (W : Int) (rect W H) = 2 ^ (W * H) - 1 := by decide +kernel
theorem rect_bit {W H : Nat} (hW : W ≤ 6) (hH : H ≤ 6) (i : Nat) : (regMask (W : Int) (rect W H)).testBit i = true ↔ i < W * H := by
  rw [rect_mask W (by omega) H (by omega), Nat.testBit_two_pow_sub_one, decide_eq_true_iff]
theorem mocS_bits {B : Nat} {xs : List Int} : ∀ (s : List Cl) (m0 m : Nat), mocS B xs s m0 = some m → (∀ c ∈ s, inR B xs c.x.toNat c.y.toNat = true) ∧ ∀ i, m.testBit i = true ↔ m0.testBit i = true ∨ ∃ c ∈ s, i = pbit B c
  | [], m0, m, h => by
    rw [mocS] at h
    cases h
    exact ⟨fun c hc => absurd hc List.not_mem_nil, fun i => by simp⟩
  | c :: r, m0, m, h => by
    rw [mocS] at h
    cases hin : inR B xs c.x.toNat c.y.toNat with
    | false => rw [hin] at h; simp at h
    | true =>
      cases htb : m0.testBit (pbit B c) with
      | true => rw [hin, htb] at h; simp at h
      | false =>
        rw [hin, htb] at h
        simp only [Bool.not_false, Bool.and_true, cond_true] at h
        obtain ⟨h1, h2⟩ := mocS_bits r _ m h
        refine ⟨fun d hd => ?_, fun i => ?_⟩
        · rcases List.mem_cons.1 hd with e | hd
          · rw [e]; exact hin
          · exact h1 d hd
        · rw [h2 i, ← or_two_pow htb, Nat.testBit_or, Nat.testBit_two_pow]
          constructor
          · rintro (h | ⟨d, hd, e⟩)
            · rw [Bool.or_eq_true] at h
              rcases h with h | h
              · exact Or.inl h
              · exact Or.inr ⟨c, List.mem_cons_self, (of_decide_eq_true h).symm⟩
            · exact Or.inr ⟨d, List.mem_cons_of_mem _ hd, e⟩
          · rintro (h | ⟨d, hd, e⟩)
            · left; rw [h]; rfl
            · rcases List.mem_cons.1 hd with e2 | hd
              · left; rw [decide_eq_true (by rw [e, e2]), Bool.or_true]
              · exact Or.inr ⟨d, hd, e⟩
theorem mocS_some {B : Nat} {xs : List Int} : ∀ (s : List Cl) (m0 : Nat), (∀ c ∈ s, inR B xs c.x.toNat c.y.toNat = true) → s.Pairwise (fun c d => pbit B c ≠ pbit B d) → (∀ c ∈ s, m0.testBit (pbit B c) = false) → ∃ m, mocS B xs s m0 = some m
  | [], m0, _, _, _ => ⟨m0, rfl⟩
  | c :: r, m0, h1, h2, h3 => by
    rw [List.pairwise_cons] at h2
    have htb := h3 c List.mem_cons_self
    obtain ⟨m, hm⟩ := mocS_some r (m0 + 2 ^ pbit B c) (fun d hd => h1 d (List.mem_cons_of_mem _ hd)) h2.2 (fun d hd => by
      rw [← or_two_pow htb, Nat.testBit_or, h3 d (List.mem_cons_of_mem _ hd), Nat.testBit_two_pow, decide_eq_false (h2.1 d hd)]
      rfl)
    refine ⟨m, ?_⟩
    rw [mocS, h1 c List.mem_cons_self, htb]
    exact hm
theorem grid_inj {W x1 y1 x2 y2 : Nat} (h1 : x1 < W) (h2 : x2 < W) (h : y1 * W + x1 = y2 * W + x2) : x1 = x2 ∧ y1 = y2 := by
  have e1 : (y1 * W + x1) % W = x1 := by rw [Nat.mul_comm, Nat.mul_add_mod, Nat.mod_eq_of_lt h1]
  have e2 : (y2 * W + x2) % W = x2 := by rw [Nat.mul_comm, Nat.mul_add_mod, Nat.mod_eq_of_lt h2]
  have e3 : x1 = x2 := by rw [← e1, h, e2]
  have hw : 0 < W := by omega
  refine ⟨e3, Nat.eq_of_mul_eq_mul_right hw ?_⟩
  omega
theorem grid_div {W x y : Nat} (h : x < W) : (y * W + x) % W = x ∧ (y * W + x) / W = y := by
  have hw : 0 < W := by omega
  constructor
  · rw [Nat.mul_comm, Nat.mul_add_mod, Nat.mod_eq_of_lt h]
  · rw [Nat.mul_comm, Nat.mul_add_div hw, Nat.div_eq_of_lt h, Nat.add_zero]
theorem grid_lt {W H x y : Nat} (hx : x < W) (hy : y < H) : y * W + x < W * H := by
  have h1 := Nat.mul_le_mul_left W (show y + 1 ≤ H from hy)
  rw [Nat.mul_add, Nat.mul_one, Nat.mul_comm] at h1
  omega
/-- A shape that lies in a rectangle has a mask there. -/
theorem moc_rect {W H x y : Nat} {t : List Cl} (ht : Shape t) (h : ∀ c ∈ t, (c.x + x).toNat < W ∧ (c.y + y).toNat < H) : ∃ m, mocS W (rect W H) (t.map fun c => ⟨c.x + x, c.y + y⟩) 0 = some m := by
  refine mocS_some _ 0 ?_ ?_ (fun c _ => Nat.zero_testBit _)
  · intro c hc
    rw [List.mem_map] at hc
    obtain ⟨d, hd, rfl⟩ := hc
    exact inR_rect.2 (h d hd)
  · rw [List.pairwise_map]
    refine List.Pairwise.imp_of_mem ?_ (asc_nodup wholeC ht.1.1)
    intro c d hc hd hne e
    obtain ⟨e1, e2⟩ := grid_inj (h c hc).1 (h d hd).1 e
    have b1 := ht.1.2 c hc
    have b2 := ht.1.2 d hd
    unfold OnB at b1 b2
    simp only at e1 e2
    refine hne ?_
    cases c
    cases d
    simp only [Cl.mk.injEq]
    simp only at e1 e2 b1 b2
    omega
def swapC (c : Cl) : Cl := ⟨c.y, c.x⟩
theorem swap_carry (m : Nat) (hm : m < 8) (c : Cl) : carryC (7 - m) c = swapC (carryC m c) := by
  have hc : m = 0 ∨ m = 1 ∨ m = 2 ∨ m = 3 ∨ m = 4 ∨ m = 5 ∨ m = 6 ∨ m = 7 := by omega
  rcases hc with rfl | rfl | rfl | rfl | rfl | rfl | rfl | rfl <;> simp [carryC, rotN, flipC, rotC, negX, swapC]
theorem minTo_map (f : Cl → Int) (g : Cl → Cl) (hg : g default = default) (l : List Cl) : ∀ k, minTo f (l.map g) k = minTo (fun c => f (g c)) l k
  | 0 => rfl
  | k + 1 => by
    have h : ∀ j, (l.map g).getD j default = g (l.getD j default) := fun j => by
      rw [List.getD_eq_getElem?_getD, List.getD_eq_getElem?_getD, List.getElem?_map]
      cases l[j]? with
      | none => exact hg.symm
      | some a => rfl
    rw [minTo, minTo, minTo_map f g hg l k, h, h]
theorem mem_tcorn {l : List Cl} {m : Nat} (hl : 0 < l.length) (c : Cl) : c ∈ tcorn l m ↔ ∃ d ∈ l, c = ⟨(carryC m d).x - minTo Cl.x (turnL l m) (turnL l m).length, (carryC m d).y - minTo Cl.y (turnL l m) (turnL l m).length⟩ := by
  have hpos : 0 < (turnL l m).length := by rw [turnL_length]; exact hl
  unfold tcorn cornL shift
  rw [minTo_same (f := Cl.x) (putAllG_pos hpos) hpos (fun c => mem_putAllG wholeC _ c), minTo_same (f := Cl.y) (putAllG_pos hpos) hpos (fun c => mem_putAllG wholeC _ c)]
  simp only [List.mem_map, mem_putAllG wholeC]
  constructor
  · rintro ⟨d, hd, rfl⟩
    unfold turnL at hd
    rw [List.mem_map] at hd
    obtain ⟨e, he, rfl⟩ := hd
    exact ⟨e, he, rfl⟩
  · rintro ⟨e, he, rfl⟩
    refine ⟨carryC m e, ?_, rfl⟩
    unfold turnL
    exact List.mem_map.2 ⟨e, he, rfl⟩
theorem swap_tcorn {l : List Cl} (hl : 0 < l.length) {m : Nat} (hm : m < 8) (c : Cl) : c ∈ tcorn l (7 - m) ↔ swapC c ∈ tcorn l m := by
  have ht : turnL l (7 - m) = (turnL l m).map swapC := by
    unfold turnL
    rw [List.map_map]
    exact List.map_congr_left fun d _ => swap_carry m hm d
  have e1 : minTo Cl.x (turnL l (7 - m)) (turnL l (7 - m)).length = minTo Cl.y (turnL l m) (turnL l m).length := by
    rw [ht, minTo_map Cl.x swapC rfl, List.length_map]
    rfl
  have e2 : minTo Cl.y (turnL l (7 - m)) (turnL l (7 - m)).length = minTo Cl.x (turnL l m) (turnL l m).length := by
    rw [ht, minTo_map Cl.y swapC rfl, List.length_map]
    rfl
  rw [mem_tcorn hl, mem_tcorn hl, e1, e2]
  constructor
  · rintro ⟨d, hd, rfl⟩
    exact ⟨d, hd, by rw [swap_carry m hm]; rfl⟩
  · rintro ⟨d, hd, e⟩
    refine ⟨d, hd, ?_⟩
    rw [swap_carry m hm]
    cases c
    unfold swapC at *
    simp only [Cl.mk.injEq] at e ⊢
    exact ⟨e.2, e.1⟩
theorem orientTo_mem {l : List Cl} {m : Nat} : ∀ {k}, m < k → tcorn l m ∈ orientTo l k
  | k + 1, h => by
    unfold orientTo
    rw [mem_putG]
    by_cases e : m = k
    · subst e; exact Or.inl rfl
    · exact Or.inr (orientTo_mem (by omega))
theorem swap_orient {s t : List Cl} (h : t ∈ orientL s) : ∃ u ∈ orientL s, ∀ c, c ∈ u ↔ swapC c ∈ t := by
  have hs : Shape s := by
    unfold orientL at h
    split at h
    · assumption
    · simp at h
  unfold orientL at h ⊢
  rw [if_pos hs] at h ⊢
  obtain ⟨m, hm, rfl⟩ := mem_orientTo h
  exact ⟨tcorn s (7 - m), orientTo_mem (by omega), fun c => swap_tcorn hs.2.1 hm c⟩
theorem swap_plac {W H : Nat} {ps : List (List Cl)} {v : Int} (h : v ∈ allL W (rect W H) ps) : ∃ u ∈ allL H (rect H W) ps, ∀ i, u.toNat.testBit i = true ↔ ∃ j, v.toNat.testBit j = true ∧ i = j % W * H + j / W := by
  obtain ⟨s, hs, t, ht, y, hy, x, hx, m, hm, rfl⟩ := mem_allL.1 h
  rw [rect_length] at hy
  obtain ⟨h1, h2⟩ := mocS_bits _ _ _ hm
  obtain ⟨u, hu, hus⟩ := swap_orient ht
  have hin : ∀ c ∈ t, (c.x + x).toNat < W ∧ (c.y + y).toNat < H := fun c hc => inR_rect.1 (h1 _ (List.mem_map.2 ⟨c, hc, rfl⟩))
  obtain ⟨m', hm'⟩ := moc_rect (W := H) (H := W) (x := y) (y := x) (orientL_shape hu) (fun c hc => ⟨(hin _ ((hus c).1 hc)).2, (hin _ ((hus c).1 hc)).1⟩)
  obtain ⟨_, h3⟩ := mocS_bits _ _ _ hm'
  refine ⟨(m' : Int), mem_allL.2 ⟨s, hs, u, hu, x, by rw [rect_length]; exact hx, y, hy, m', hm', rfl⟩, fun i => ?_⟩
  rw [Int.toNat_natCast, Int.toNat_natCast, h3 i, Nat.zero_testBit]
  constructor
  · rintro (h | ⟨c, hc, e⟩)
    · cases h
    · rw [List.mem_map] at hc
      obtain ⟨d, hd, rfl⟩ := hc
      have hd2 := (hus d).1 hd
      refine ⟨pbit W ⟨d.y + x, d.x + y⟩, (h2 _).2 (Or.inr ⟨_, List.mem_map.2 ⟨swapC d, hd2, rfl⟩, rfl⟩), ?_⟩
      have hb := hin _ hd2
      have := grid_div (y := (d.x + y).toNat) hb.1
      unfold pbit at e ⊢
      unfold swapC at this
      simp only at e this ⊢
      rw [this.1, this.2]
      exact e
  · rintro ⟨j, hj, e⟩
    rcases (h2 j).1 hj with hj | ⟨c, hc, ej⟩
    · rw [Nat.zero_testBit] at hj; cases hj
    · rw [List.mem_map] at hc
      obtain ⟨d, hd, rfl⟩ := hc
      refine Or.inr ⟨_, List.mem_map.2 ⟨swapC d, (hus _).2 (by cases d; exact hd), rfl⟩, ?_⟩
      have := grid_div (y := (d.y + y).toNat) (hin _ hd).1
      unfold pbit at ej ⊢
      unfold swapC
      simp only at ej ⊢
      rw [e, ej, this.1, this.2]
theorem swap_dc {W H : Nat} (hW : 1 ≤ W ∧ W ≤ 6) (hH : 1 ≤ H ∧ H ≤ 6) {ps : List (List Cl)} {l : List Int} (h : DC (allL W (rect W H) ps) (regMask (W : Int) (rect W H)) l) : ∃ l', DC (allL H (rect H W) ps) (regMask (H : Int) (rect H W)) l' := by
  refine dc_map (τ := fun j => j % W * H + j / W) ?_ ?_ (fun v hv => swap_plac hv) h
  · intro i j hi hj e
    rw [rect_bit hW.2 hH.2] at hi hj
    have h1 := Nat.div_lt_of_lt_mul hi
    have h2 := Nat.div_lt_of_lt_mul hj
    obtain ⟨e1, e2⟩ := grid_inj h1 h2 e
    rw [← Nat.div_add_mod i W, ← Nat.div_add_mod j W, e1, e2]
  · intro i
    rw [rect_bit hH.2 hW.2]
    constructor
    · intro hi
      have h1 := Nat.div_lt_of_lt_mul hi
      have h2 := Nat.mod_lt i (show 0 < H by omega)
      refine ⟨i % H * W + i / H, ?_, ?_⟩
      · rw [rect_bit hW.2 hH.2]
        exact grid_lt h1 h2
      · have := grid_div (y := i % H) h1
        simp only [this.1, this.2]
        rw [Nat.mul_comm]
        exact (Nat.div_add_mod i H).symm
    · rintro ⟨j, hj, e⟩
      rw [rect_bit hW.2 hH.2] at hj
      rw [e]
      exact grid_lt (Nat.div_lt_of_lt_mul hj) (Nat.mod_lt _ (by omega))
theorem mk_all {W H : Nat} (hW : 1 ≤ W ∧ W ≤ 6) (hH : 1 ≤ H ∧ H ≤ 6) {ps : List (List Cl)} (hp : Pcs ps) : ∀ v ∈ allL W (rect W H) ps, Mk v := allL_mk (reg_rect hW hH) hp
theorem rect_lt {W H : Nat} (hW : 1 ≤ W ∧ W ≤ 6) (hH : 1 ≤ H ∧ H ≤ 6) : regMask (W : Int) (rect W H) < 68719476736 := by have := regMask_lt (reg_rect hW hH); omega
theorem regF_dc {W H : Nat} (hW : 1 ≤ W ∧ W ≤ 6) (hH : 1 ≤ H ∧ H ≤ 6) {ps : List (List Cl)} (hp : Pcs ps) : someT (regF (W : Int) (rect W H) ps) = true ↔ ∃ l, DC (allL W (rect W H) ps) (regMask (W : Int) (rect W H)) l := by
  rw [regF_yes (reg_rect hW hH) hp]
  exact some_dc (mk_all hW hH hp) (rect_lt hW hH) (Nat.le_refl _)
/-- A rectangle turned over is tiled exactly if it is. -/
theorem regF_swap {W H : Nat} (hW : 1 ≤ W ∧ W ≤ 6) (hH : 1 ≤ H ∧ H ≤ 6) (ps : List (List Cl)) : someT (regF (W : Int) (rect W H) ps) = someT (regF (H : Int) (rect H W) ps) := by
  by_cases hp : Pcs ps
  · rw [Bool.eq_iff_iff, regF_dc hW hH hp, regF_dc hH hW hp]
    exact ⟨fun ⟨_, h⟩ => swap_dc hW hH h, fun ⟨_, h⟩ => swap_dc hH hW h⟩
  · rw [regF_no (fun q => hp q.2), regF_no (fun q => hp q.2)]
theorem tor_moc {W H : Nat} {x y : Nat} (hx : x < W) : ∀ (t : List Cl) (m0 m : Nat), mocS W (rect W H) (t.map fun c => ⟨c.x + x, c.y + y⟩) m0 = some m → (∀ c ∈ t, 0 ≤ c.x ∧ 0 ≤ c.y) → t.foldl (torStep W H (y * W + x)) (m0, true) = (m, true)
  | [], m0, m, h, _ => by
    rw [List.map_nil, mocS] at h
    cases h
    rfl
  | c :: r, m0, m, h, hb => by
    rw [List.map_cons, mocS] at h
    have hc := hb c List.mem_cons_self
    cases hin : inR W (rect W H) (c.x + x).toNat (c.y + y).toNat with
    | false => simp only [hin] at h; simp at h
    | true =>
      have hin2 := inR_rect.1 hin
      have e : tbit W H (y * W + x) c = pbit W ⟨c.x + x, c.y + y⟩ := by
        have h1 := grid_div (y := y) hx
        unfold tbit pbit
        rw [h1.1, h1.2]
        have e1 : c.x.toNat + x = (c.x + x).toNat := by omega
        have e2 : c.y.toNat + y = (c.y + y).toNat := by omega
        rw [e1, e2, Nat.mod_eq_of_lt hin2.1, Nat.mod_eq_of_lt hin2.2]
      cases htb : m0.testBit (pbit W ⟨c.x + x, c.y + y⟩) with
      | true => simp only [hin, htb] at h; simp at h
      | false =>
        simp only [hin, htb] at h
        simp only [Bool.not_false, Bool.and_true, cond_true] at h
        have ih := tor_moc hx r _ m h (fun d hd => hb d (List.mem_cons_of_mem _ hd))
        rw [List.foldl_cons]
        have e3 : torStep W H (y * W + x) (m0, true) c = (m0 + 2 ^ pbit W ⟨c.x + x, c.y + y⟩, true) := by
          unfold torStep
          simp only [e, htb, or_two_pow htb, Bool.not_false, Bool.and_true]
        rw [e3]
        exact ih
theorem mem_torRow {W H : Nat} {t : List Cl} {v : Int} : ∀ {n}, v ∈ torRow W H t n ↔ ∃ a, a < n ∧ v ∈ torOne W H t a
  | 0 => by simp [torRow]
  | n + 1 => by
    rw [torRow, List.mem_append, mem_torRow]
    constructor
    · rintro (⟨x, h1, h2⟩ | h)
      · exact ⟨x, by omega, h2⟩
      · exact ⟨n, by omega, h⟩
    · rintro ⟨x, h1, h2⟩
      by_cases e : x = n
      · subst e; exact Or.inr h2
      · exact Or.inl ⟨x, by omega, h2⟩
theorem mem_torTo {W H : Nat} {rows : List (List Cl)} {v : Int} : ∀ {n}, n ≤ rows.length → (v ∈ torTo W H rows n ↔ ∃ t ∈ rows.take n, v ∈ torRow W H t (W * H))
  | 0, _ => by simp [torTo]
  | n + 1, h => by
    rw [torTo, List.mem_append, mem_torTo (by omega), getDG (by omega), List.take_succ_eq_append_getElem (by omega)]
    constructor
    · rintro (⟨t, h1, h2⟩ | h)
      · exact ⟨t, List.mem_append.2 (Or.inl h1), h2⟩
      · exact ⟨_, List.mem_append.2 (Or.inr (List.mem_singleton.2 rfl)), h⟩
    · rintro ⟨t, h1, h2⟩
      rcases List.mem_append.1 h1 with h1 | h1
      · exact Or.inl ⟨t, h1, h2⟩
      · rw [List.mem_singleton.1 h1] at h2; exact Or.inr h2
theorem mem_torAllTo {W H : Nat} {ps : List (List Cl)} {v : Int} : ∀ {n}, n ≤ ps.length → (v ∈ torAllTo W H ps n ↔ ∃ s ∈ ps.take n, v ∈ torP W H s)
  | 0, _ => by simp [torAllTo]
  | n + 1, h => by
    rw [torAllTo, List.mem_append, mem_torAllTo (by omega), getDG (by omega), List.take_succ_eq_append_getElem (by omega)]
    constructor
    · rintro (⟨t, h1, h2⟩ | h)
      · exact ⟨t, List.mem_append.2 (Or.inl h1), h2⟩
      · exact ⟨_, List.mem_append.2 (Or.inr (List.mem_singleton.2 rfl)), h⟩
    · rintro ⟨t, h1, h2⟩
      rcases List.mem_append.1 h1 with h1 | h1
      · exact Or.inl ⟨t, h1, h2⟩
      · rw [List.mem_singleton.1 h1] at h2; exact Or.inr h2
theorem mem_torAll {W H : Nat} {ps : List (List Cl)} {v : Int} : v ∈ torAll W H ps ↔ ∃ s ∈ ps, ∃ t ∈ orientL s, ∃ a, a < W * H ∧ v ∈ torOne W H t a := by
  unfold torAll
  rw [mem_putAllG wholeI, mem_torAllTo (Nat.le_refl _), List.take_length]
  unfold torP
  constructor
  · rintro ⟨s, hs, h⟩
    rw [mem_putAllG wholeI, mem_torTo (Nat.le_refl _), List.take_length] at h
    obtain ⟨t, ht, h⟩ := h
    obtain ⟨a, ha, h⟩ := mem_torRow.1 h
    exact ⟨s, hs, t, ht, a, ha, h⟩
  · rintro ⟨s, hs, t, ht, a, ha, h⟩
    refine ⟨s, hs, ?_⟩
    rw [mem_putAllG wholeI, mem_torTo (Nat.le_refl _), List.take_length]
    exact ⟨t, ht, mem_torRow.2 ⟨a, ha, h⟩⟩
theorem all_tor {W H : Nat} {ps : List (List Cl)} {v : Int} (h : v ∈ allL W (rect W H) ps) : v ∈ torAll W H ps := by
  obtain ⟨s, hs, t, ht, y, hy, x, hx, m, hm, rfl⟩ := mem_allL.1 h
  rw [rect_length] at hy
  have hsh := orientL_shape ht
  have e := tor_moc hx t 0 m hm (fun c hc => ⟨(hsh.1.2 c hc).1.1, (hsh.1.2 c hc).2.1⟩)
  refine mem_torAll.2 ⟨s, hs, t, ht, y * W + x, grid_lt hx hy, ?_⟩
  unfold torOne torS
  rw [e]
  simp
/-- What tiles a rectangle tiles the torus of its sides. -/
theorem rect_torus {W H : Nat} (hW : 1 ≤ W ∧ W ≤ 5) (hH : 1 ≤ H ∧ H ≤ 5) {ps : List (List Cl)} (h : someT (regF (W : Int) (rect W H) ps) = true) : someT (torF (W : Int) (H : Int) ps) = true := by
  by_cases hp : Pcs ps
  · obtain ⟨l, h1, h2, h3⟩ := (regF_dc ⟨hW.1, by omega⟩ ⟨hH.1, by omega⟩ hp).1 h
    rw [rect_mask W (by omega) H (by omega)] at h3
    have h25 : W * H ≤ 5 * 5 := Nat.mul_le_mul hW.2 hH.2
    have hpw : 2 ^ (W * H) ≤ 2 ^ 25 := Nat.pow_le_pow_right (by decide) h25
    rw [torF_yes hW hH hp]
    exact (some_dc (fun v hv => (torAll_mk (by omega) (by omega) ps v hv).mk h25) (by omega) (Nat.le_refl _)).2 ⟨l, fun v hv => all_tor (h1 v hv), h2, h3⟩
  · rw [regF_no (fun q => hp q.2)] at h
    cases h
end Go.Proofs.YtajmdgcnnipdoaaGreatDoor
