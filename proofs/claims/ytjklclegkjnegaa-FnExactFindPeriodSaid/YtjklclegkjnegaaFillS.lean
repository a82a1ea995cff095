/- FillS: the walks of IsWangFill and IsPeriodicFill, the reference's and the program's. -/
import Derived.Test.YtjklclegkjnegaaFits
namespace Go.Proofs.Ytjklclegkjnegaa
open Go.RowKit

def Xa (xs : List Int) (i : Nat) : Int := xs.getD i 0
def FillTo (ts : List Tile) (b : Nat) (xs : List Int) (k : Nat) : Prop := ∀ i, i < k → (0 ≤ Xa xs i ∧ Xa xs i < ts.length) ∧ fitsB ts b ((xs.take i).map Int.toNat) (Xa xs i).toNat = true
def Sides (a b : Int) : Prop := (1 ≤ a ∧ a ≤ 4) ∧ 1 ≤ b ∧ b ≤ 4
def IsFill (ts : List Tile) (a b : Int) (xs : List Int) : Prop := Wangs ts ∧ Sides a b ∧ (xs.length : Int) = a * b ∧ FillTo ts a.toNat xs xs.length
instance (ts : List Tile) (b : Nat) (xs : List Int) (k : Nat) : Decidable (FillTo ts b xs k) := by unfold FillTo; infer_instance
instance (a b : Int) : Decidable (Sides a b) := by unfold Sides; infer_instance
instance (ts : List Tile) (a b : Int) (xs : List Int) : Decidable (IsFill ts a b xs) := by unfold IsFill; infer_instance

theorem Xa_at {xs : List Int} {k : Nat} (h : k < xs.length) : (ints xs)[k]? = some (.int .i64 (Xa xs k)) := by
  rw [ints_at xs k h]; simp [Xa, h]
/-- A prefix whose numbers are all in range is a list of indices. -/
theorem nats_take {ts : List Tile} {b : Nat} {xs : List Int} {k : Nat} (h : FillTo ts b xs k) (hk : k ≤ xs.length) : nats ((xs.take k).map Int.toNat) = xs.take k := by
  unfold nats
  rw [List.map_map]
  refine List.ext_getElem (by simp) ?_
  intro i h1 h2
  have hi : i < k := by simp at h1; omega
  have := (h i hi).1.1
  simp only [List.getElem_map, Function.comp_apply, List.getElem_take]
  have hx : Xa xs i = xs[i]'(by omega) := by simp [Xa, show i < xs.length by omega]
  rw [hx] at this
  omega
theorem At_take {ts : List Tile} {b : Nat} {xs : List Int} {k : Nat} (h : FillTo ts b xs k) (hk : k ≤ xs.length) : ∀ i, i < ((xs.take k).map Int.toNat).length → At ((xs.take k).map Int.toNat) i < ts.length := by
  intro i hi
  have hik : i < k := by simp at hi; omega
  have h1 := (h i hik).1
  have hx : Xa xs i = xs[i]'(by omega) := by simp [Xa, show i < xs.length by omega]
  have : At ((xs.take k).map Int.toNat) i = (Xa xs i).toNat := by
    rw [hx]; simp [At, hik, show i < xs.length by omega]
  rw [this]
  omega
theorem FillTo.zero (ts : List Tile) (b : Nat) (xs : List Int) : FillTo ts b xs 0 := fun i hi => by omega
theorem FillTo.succ {ts : List Tile} {b : Nat} {xs : List Int} {k : Nat} (h : FillTo ts b xs k) (hx : 0 ≤ Xa xs k ∧ Xa xs k < ts.length) (hf : fitsB ts b ((xs.take k).map Int.toNat) (Xa xs k).toNat = true) : FillTo ts b xs (k + 1) := by
  intro i hi
  by_cases e : i = k
  · subst e; exact ⟨hx, hf⟩
  · exact h i (by omega)

theorem l18Sides_any (a b : Int) (w : World) : Calls Try.prog 29 #[.int .i64 a, .int .i64 b] w fun e w' => e = .returned (.bool (decide (Sides a b))) ∧ w = w' := by
  by_cases h1 : 1 ≤ a ∧ a ≤ 4
  · by_cases h2 : 1 ≤ b ∧ b ≤ 4
    · rw [decide_eq_true (show Sides a b from ⟨h1, h2⟩)]
      go_enter Try.func29, Try.ntmps29
      go_wp2_with (go_at_call 36; refine (l1In_yes _ _ _ _ (by omega) (by omega)).mono ?_; rintro e w' ⟨rfl, rfl⟩)
      go_ret
      exact ⟨rfl, rfl⟩
    · rw [decide_eq_false (show ¬ Sides a b from fun h => h2 h.2)]
      go_enter Try.func29, Try.ntmps29
      go_wp2_with fail
      refine (l1In_yes _ _ _ _ (by omega) (by omega)).mono ?_
      rintro e w' ⟨rfl, rfl⟩
      go_wp2_with fail
      refine (l1In_no _ _ _ _ (by omega)).mono ?_
      rintro e w' ⟨rfl, rfl⟩
      go_wp2
      go_ret
      exact ⟨rfl, rfl⟩
  · rw [decide_eq_false (show ¬ Sides a b from fun h => h1 h.1)]
    go_enter Try.func29, Try.ntmps29
    go_wp2_with fail
    refine (l1In_no _ _ _ _ (by omega)).mono ?_
    rintro e w' ⟨rfl, rfl⟩
    go_wp2
    go_ret
    exact ⟨rfl, rfl⟩
set_option maxRecDepth 100000 in
set_option maxHeartbeats 1600000 in
theorem specFill (ad af : Option Addr) (c cf : Nat) (ts : List Tile) (a b : Int) (xs : List Int) (w : World) (hn : ts.length ≤ 1048576) (hf : xs.length ≤ 1048576) (hcap : xs.length ≤ cf)
    (hc : CellsAt w ad (wangs ts)) (hcf : CellsAt w af (ints xs)) :
    Calls Try.prog 33 #[.slice ad ts.length c, .int .i64 a, .int .i64 b, .slice af xs.length cf] w fun e w' => e = .returned (.bool (decide (IsFill ts a b xs))) ∧ Below w.heap.size w w' := by
  have hare := specAre ad c ts w hn hc
  have hsid := l18Sides_any a b w
  by_cases hW : Wangs ts
  · rw [decide_eq_true hW] at hare
    by_cases hS : Sides a b
    · rw [decide_eq_true hS] at hsid
      obtain ⟨⟨ha1, ha2⟩, hb1, hb2⟩ := hS
      obtain ⟨A, rfl⟩ := Int.eq_ofNat_of_zero_le (show 0 ≤ a by omega)
      obtain ⟨B, rfl⟩ := Int.eq_ofNat_of_zero_le (show 0 ≤ b by omega)
      have q0 : A * B ≤ 16 := Nat.mul_le_mul (show A ≤ 4 by omega) (show B ≤ 4 by omega)
      have q1 : 0 ≤ (A : Int) * (B : Int) := by exact Int.mul_nonneg (by omega) (by omega)
      have q2 : (A : Int) * (B : Int) ≤ 16 := by exact_mod_cast q0
      by_cases hl : (xs.length : Int) = (A : Int) * (B : Int)
      · have hle : xs.length ≤ 16 := by omega
        have hld : ((xs.length : Int) != (A : Int) * (B : Int)) = false := by simp [hl]
        have hiff : IsFill ts A B xs ↔ FillTo ts A xs xs.length := ⟨fun h => h.2.2.2, fun h => ⟨hW, ⟨⟨ha1, ha2⟩, hb1, hb2⟩, hl, h⟩⟩
        have HIFF := Lib.hid hiff
        have HARE := Lib.hid hare
        have HSID := Lib.hid hsid
        have HC := Lib.hid hc
        have HCF := Lib.hid hcf
        have h6 := hW.2.2
        have h16 := hW.2.1
        have hlx := ints_length xs
        clear hiff hare hsid hc hcf hW hl
        go_enter Try.func33, Try.ntmps33
        go_wp2_with fail
        refine HARE.out.mono ?_
        rintro e w' ⟨rfl, rfl⟩
        go_wp2_with fail
        refine HSID.out.mono ?_
        rintro e w' ⟨rfl, rfl⟩
        go_wp2
        go_loopw [9] (fun i wr => ∃ k : Nat, k ≤ xs.length ∧ i = .int .i64 k ∧ FillTo ts A xs k ∧ ∃ n, wr = w.drewN n) (fun i _ => xs.length - (intOf i).toNat)
        case atStart => exact ⟨0, by omega, rfl, FillTo.zero _ _ _, 0, rfl⟩
        case round =>
          obtain ⟨k, hk, rfl, ht, hwr⟩ := hrel
          have HT := Lib.hid ht
          have hcr : CellsAt wr ad (wangs ts) := by obtain ⟨n, rfl⟩ := hwr; exact HC.out
          have hfr : CellsAt wr af (ints xs) := by obtain ⟨n, rfl⟩ := hwr; exact HCF.out
          have HCR := Lib.hid hcr
          have HFR := Lib.hid hfr
          have HWR := Lib.hid hwr
          have hbr : Below w.heap.size w wr := by obtain ⟨n, rfl⟩ := hwr; exact below_drewN (Below.refl _ _) _
          clear ht hwr hcr hfr
          by_cases hlt : k < xs.length
          · obtain ⟨g, off, rfl, hg, hcc⟩ := HFR.out.open (by omega)
            have hx := hcc k _ (Xa_at hlt)
            clear hcc
            obtain ⟨x, hxx⟩ : ∃ x, x = Xa xs k := ⟨_, rfl⟩
            rw [← hxx] at hx
            have HX := Lib.hid hxx
            clear hxx
            by_cases hr : 0 ≤ x ∧ x < ts.length
            · obtain ⟨hr1, hr2⟩ := hr
              obtain ⟨t, rfl⟩ := Int.eq_ofNat_of_zero_le hr1
              have hpl : ((xs.take k).map Int.toNat).length = k := by simp; omega
              have hcut : ∀ m, CellsAt (wr.drewN m) (some ⟨g, off, none⟩) (ints (nats ((xs.take k).map Int.toNat))) := by
                intro m
                rw [nats_take HT.out hk, ints, List.map_take]
                exact HFR.out.take k
              have hfit := fun m => l18Fits_any ad (some ⟨g, off, none⟩) c cf ts ((xs.take k).map Int.toNat) A t (wr.drewN m) hn (by omega) ⟨by omega, by omega⟩ (by omega) (At_take HT.out hk) (HCR.out.drewN m) (hcut m)
              rw [hpl] at hfit
              have hXt : (Xa xs k).toNat = t := by rw [← HX.out]; rfl
              have HXT := Lib.hid hXt
              clear hcut hpl hXt
              by_cases hfb : fitsB ts A ((xs.take k).map Int.toNat) t = true
              · rw [hfb] at hfit
                have HFB := Lib.hid hfb
                have HFIT := Lib.hid hfit
                clear hfb hfit
                go_wp2_with fail
                go_big_quiet ((first | (go_at_call 36; exact quiet_same (l1In_yes _ _ _ _ (by omega) (by omega))) | (go_at_call 37; exact Calls.quiet_of (HFIT.out _))))
                go_wp2
                go_roundw
                case rel => exact ⟨k + 1, by omega, by go_num, HT.out.succ (by rw [← HX.out]; omega) (by rw [HXT.out]; exact HFB.out), by obtain ⟨n, rfl⟩ := HWR.out; exact ⟨_, World.drewN_drewN ..⟩⟩
                case measure => simp [intOf]; omega
              · have hfb' : fitsB ts A ((xs.take k).map Int.toNat) t = false := by simpa using hfb
                rw [hfb'] at hfit
                have HFB := Lib.hid hfb'
                have HFIT := Lib.hid hfit
                clear hfb hfb' hfit
                go_wp2_with fail
                go_big_quiet ((first | (go_at_call 36; exact quiet_same (l1In_yes _ _ _ _ (by omega) (by omega))) | (go_at_call 37; exact Calls.quiet_of (HFIT.out _))))
                go_wp2
                go_ret
                have hno : ¬ IsFill ts A B xs := by
                  rw [HIFF.out]
                  intro h
                  have h2 := (h k hlt).2
                  rw [HXT.out, HFB.out] at h2
                  cases h2
                rw [decide_eq_false hno]
                exact ⟨rfl, below_drewN hbr _⟩
            · have hr' : x < 0 ∨ (ts.length : Int) - 1 < x := by omega
              have hno : ¬ IsFill ts A B xs := by
                rw [HIFF.out]
                intro h
                have h2 := (h k hlt).1
                rw [← HX.out] at h2
                exact hr h2
              have HNO := Lib.hid hno
              clear hno hr
              go_wp2_with fail
              go_big_quiet ((go_at_call 36; exact quiet_same (l1In_no _ _ _ _ (by omega))))
              go_wp2
              go_ret
              rw [decide_eq_false HNO.out]
              exact ⟨rfl, below_drewN hbr _⟩
          · obtain rfl : k = xs.length := by omega
            go_wp2
            go_ret
            rw [decide_eq_true (HIFF.out.2 HT.out)]
            exact ⟨rfl, hbr⟩
      · have hld : ((xs.length : Int) != (A : Int) * (B : Int)) = true := by simp [hl]
        have hno : ¬ IsFill ts A B xs := fun h => hl h.2.2.1
        rw [decide_eq_false hno]
        have HARE := Lib.hid hare
        have HSID := Lib.hid hsid
        clear hare hsid hc hcf hW hl hno
        go_enter Try.func33, Try.ntmps33
        go_wp2_with fail
        refine HARE.out.mono ?_
        rintro e w' ⟨rfl, rfl⟩
        go_wp2_with fail
        refine HSID.out.mono ?_
        rintro e w' ⟨rfl, rfl⟩
        go_wp2
        go_ret
        exact ⟨rfl, Below.refl _ _⟩
    · have hno : ¬ IsFill ts a b xs := fun h => hS h.2.1
      rw [decide_eq_false hS] at hsid
      rw [decide_eq_false hno]
      have HARE := Lib.hid hare
      have HSID := Lib.hid hsid
      clear hare hsid hc hcf hW hS hno
      go_enter Try.func33, Try.ntmps33
      go_wp2_with fail
      refine HARE.out.mono ?_
      rintro e w' ⟨rfl, rfl⟩
      go_wp2_with fail
      refine HSID.out.mono ?_
      rintro e w' ⟨rfl, rfl⟩
      go_wp2
      go_ret
      exact ⟨rfl, Below.refl _ _⟩
  · have hno : ¬ IsFill ts a b xs := fun h => hW h.1
    rw [decide_eq_false hW] at hare
    rw [decide_eq_false hno]
    have HARE := Lib.hid hare
    clear hare hsid hc hcf hW hno
    go_enter Try.func33, Try.ntmps33
    go_wp2_with fail
    refine HARE.out.mono ?_
    rintro e w' ⟨rfl, rfl⟩
    go_wp2
    go_ret
    exact ⟨rfl, Below.refl _ _⟩
end Go.Proofs.Ytjklclegkjnegaa
