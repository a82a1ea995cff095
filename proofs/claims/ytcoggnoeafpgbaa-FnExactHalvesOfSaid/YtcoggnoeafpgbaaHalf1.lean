/- Half1: the first half that is congruent to the rest; what the program's loop does at a part; plain. -/
import Derived.Test.YtcoggnoeafpgbaaHalf0
namespace Go.Proofs.Ytcoggnoeafpgbaa
open Go.RowKit

noncomputable def hangsB (s : List Cl) : Bool := @decide (Hangs s) (Classical.propDecidable _)
theorem hangsB_iff {s : List Cl} : hangsB s = true ↔ Hangs s := by
  unfold hangsB
  exact @decide_eq_true_iff _ (Classical.propDecidable _)
noncomputable def goodC (n : Nat) (s t : List Cl) : Bool := decide (s.length = n / 2) && (hangsB s && decide (Cong s t))
noncomputable def goodP (B : Nat) (P : List Nat) (code : Nat) : Bool := goodC P.length (placesOf B (selTo P code P.length)) (placesOf B (unsTo P code P.length))
noncomputable def halfC (B : Nat) (P : List Nat) : Option Nat := (List.range (2 ^ (P.length - 1))).find? fun j => goodP B P (2 * j + 1)
def Halv (b : Int) (xs : List Int) : Prop := Reg b xs ∧ 2 ≤ areaTo xs xs.length ∧ areaTo xs xs.length ≤ 16 ∧ areaTo xs xs.length % 2 = 0
noncomputable def halvesO (b : Int) (xs : List Int) : Option Nat :=
  @ite _ (Halv b xs) (Classical.propDecidable _) ((halfC b.toNat (smBits 36 (regMask b xs))).map fun j => depTo (smBits 36 (regMask b xs)) (2 * j + 1) (smBits 36 (regMask b xs)).length) none
noncomputable def halvesL (b : Int) (xs : List Int) : List Int := match halvesO b xs with
  | some m => [(m : Int), ((regMask b xs - m : Nat) : Int)]
  | none => []
theorem halves_no {b : Int} {xs : List Int} (h : ¬ Halv b xs) : halvesO b xs = none ∧ halvesL b xs = [] := by
  have e : halvesO b xs = none := by unfold halvesO; exact @if_neg _ (Classical.propDecidable _) h _ _ _
  refine ⟨e, ?_⟩
  unfold halvesL
  rw [e]
theorem halves_yes {B : Nat} {xs : List Int} (h : Halv B xs) : halvesO B xs = (halfC B (smBits 36 (regMask B xs))).map fun j => depTo (smBits 36 (regMask B xs)) (2 * j + 1) (smBits 36 (regMask B xs)).length := by
  unfold halvesO
  rw [Int.toNat_natCast]
  exact @if_pos _ (Classical.propDecidable _) h _ _ _
theorem find_none {p : Nat → Bool} {n : Nat} (h : ∀ j, j < n → p j = false) : (List.range n).find? p = none := by
  rw [List.find?_eq_none]
  intro j hj
  rw [h j (List.mem_range.1 hj)]
  decide
theorem find_some {p : Nat → Bool} {n k : Nat} (hk : k < n) (h : ∀ j, j < k → p j = false) (h1 : p k = true) : (List.range n).find? p = some k := by
  rw [List.find?_range_eq_some]
  exact ⟨h1, List.mem_range.2 hk, fun j hj => by rw [h j hj]; rfl⟩
/-- The area is the number of places. -/
theorem area_places {B : Nat} {xs : List Int} (hr : Reg (B : Int) xs) : areaTo xs xs.length = (smBits 36 (regMask B xs)).length := by
  have hnat : ∀ x ∈ regN xs, x < 2 ^ B := by have := reg_nat hr; rwa [Int.toNat_natCast] at this
  have h1 := cellsTo_length hnat (by have := hr.1.2; omega : B ≤ 36) xs.length (Nat.le_refl _)
  rw [(cells_places hr).1, placesOf_length] at h1
  exact h1.symm
theorem place_lt {B : Nat} {xs : List Int} (hr : Reg (B : Int) xs) : ∀ p ∈ smBits 36 (regMask B xs), p < 6 * B := fun p hp => by
  have h1 := regMask_lt2 hr
  rw [Int.toNat_natCast] at h1
  unfold smBits at hp
  have h2 := (List.mem_filter.1 hp).2
  have h3 : B * xs.length ≤ B * 6 := Nat.mul_le_mul_left _ hr.2.1.2
  rcases Nat.lt_or_ge p (B * xs.length) with q | q
  · omega
  · rw [Nat.testBit_lt_two_pow (Nat.lt_of_lt_of_le h1 (Nat.pow_le_pow_right (by decide) q))] at h2
    cases h2
theorem fit_small {s : List Cl} (h : ∀ c ∈ s, (0 ≤ c.x ∧ c.x ≤ 5) ∧ 0 ≤ c.y ∧ c.y ≤ 5) : ∀ c ∈ s, Fit c := fun c hc => by
  have := h c hc
  unfold Fit
  omega
theorem sel_sub {P : List Nat} {code : Nat} {Q : Nat → Prop} (h : ∀ p ∈ P, Q p) : ∀ p ∈ selTo P code P.length, Q p := fun p hp => by
  obtain ⟨i, h1, _, rfl⟩ := selTo_mem _ (Nat.le_refl _) hp
  exact h _ (List.getElem_mem h1)
/-- What the program's loop does at a part. -/
theorem half_step {B M p k : Nat} {T : List Nat} (hP : smBits 36 M = p :: T) (hM : M < 2 ^ 36) (hB : 1 ≤ B ∧ B ≤ 6) (hpl : ∀ q ∈ smBits 36 M, q < 6 * B) (hk : k < (subL (M - 2 ^ p) 36).length) :
    ∃ (u m : Nat) (s t : List Cl), (subL (M - 2 ^ p) 36)[k] = u ∧ u < 2 ^ 36 ∧ (u ||| 2 ^ p) = m ∧ m < 2 ^ 36 ∧ m = depTo (smBits 36 M) (2 * k + 1) (smBits 36 M).length ∧ M - (M &&& m) = M - m ∧ M - m < 2 ^ 36 ∧ pc m = s.length ∧
      placesOf B (smBits 36 m) = s ∧ placesOf B (smBits 36 (M - m)) = t ∧ goodP B (smBits 36 M) (2 * k + 1) = goodC (T.length + 1) s t ∧ (∀ c ∈ s, Fit c) ∧ s.length ≤ 36 ∧ t.length ≤ 36 := by
  obtain ⟨h1, _, h2, h3, h4⟩ := first_cell hP
  have hd := subL_dep (M - 2 ^ p) 36 k hk
  have hn : (smBits 36 M).length = T.length + 1 := by rw [hP]; rfl
  have hkl : 2 * k + 1 < 2 ^ (smBits 36 M).length := by
    rw [hd.2, h3] at hk
    rw [hn, Nat.pow_succ]
    omega
  have hu : (subL (M - 2 ^ p) 36)[k] = depTo T k T.length := by
    have q := hd.1
    rw [List.getD_eq_getElem?_getD, List.getElem?_eq_getElem hk, h3] at q
    exact q
  have hub : (depTo T k T.length).testBit p = false := by
    cases hb : (depTo T k T.length).testBit p with
    | false => rfl
    | true =>
      have q := dep_in (M := M - 2 ^ p) (code := k) p (by rw [h3]; exact hb)
      rw [h4] at q
      cases q
  have hm : (depTo T k T.length ||| 2 ^ p) = depTo (smBits 36 M) (2 * k + 1) (smBits 36 M).length := by
    rw [or_two_pow hub, hP]
    exact (depTo_cons p T k T.length).symm
  have hlt := dep_lt36 (M := M) (2 * k + 1) (Nat.le_refl _)
  have hsel := dep_sel (smBits_asc 36 M) (fun q hq => smBits_36 hq) (2 * k + 1) _ (Nat.le_refl _)
  have hrest := dep_rest hM hkl
  have hselr := dep_sel (smBits_asc 36 M) (fun q hq => smBits_36 hq) (coC (smBits 36 M).length (2 * k + 1)) _ (Nat.le_refl _)
  have hul : depTo T k T.length < 2 ^ 36 := by
    have q := dep_lt36 (M := M - 2 ^ p) k (Nat.le_refl _)
    rwa [h3] at q
  have hpc := smBits_all (n := 36) hlt (Nat.le_refl _)
  refine ⟨_, _, _, _, hu, hul, hm, hlt, rfl, by rw [dep_and], Nat.lt_of_le_of_lt (Nat.sub_le _ _) hM, ?_, rfl, rfl, ?_, ?_, ?_, ?_⟩
  · rw [placesOf_length, hpc]
  · unfold goodP
    rw [hrest.1, hsel, hselr, unsTo_co hkl _ (Nat.le_refl _), hn]
  · refine fit_small (places_small hB ?_)
    rw [hsel]
    exact sel_sub hpl
  · rw [placesOf_length]; exact smBits_length_le 36 _
  · rw [placesOf_length]; exact smBits_length_le 36 _
end Go.Proofs.Ytcoggnoeafpgbaa
