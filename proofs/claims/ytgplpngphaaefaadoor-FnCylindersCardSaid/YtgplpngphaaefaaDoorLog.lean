/- Log: the walks of IsLogSteady, the reference's and the program's. -/
import Derived.Test.YtgplpngphaaefaaDoorAllBase
namespace Go.Proofs.YtgplpngphaaefaaDoor
open Go.RowKit

def Lg (xs : List Int) (i : Nat) : Int := xs.getD i 0
def LogTo (xs : List Int) (k : Nat) : Prop := (∀ i, i < k → 0 ≤ Lg xs i ∧ Lg xs i ≤ 1000000) ∧ ∀ i, i + 2 < k → Lg xs (i + 1) * Lg xs (i + 1) ≤ Lg xs i * Lg xs (i + 2)
def LogSays (xs : List Int) (e : Ending) : Prop := ∃ b : Bool, e = .returned (.bool b) ∧ (b = true ↔ LogTo xs xs.length)

theorem Lg_at {xs : List Int} {k : Nat} (h : k < xs.length) : (ints xs)[k]? = some (.int .i64 (Lg xs k)) := by
  rw [ints_at xs k h]; simp [Lg, h]
theorem mul_small {a b : Int} (ha : 0 ≤ a) (ha2 : a ≤ 1000000) (hb : 0 ≤ b) (hb2 : b ≤ 1000000) : 0 ≤ a * b ∧ a * b ≤ 1000000000000 := by
  refine ⟨Int.mul_nonneg ha hb, ?_⟩
  have := Int.mul_le_mul ha2 hb2 hb (by omega)
  omega

set_option maxHeartbeats 400000 in
theorem implLog (ad : Option Addr) (c : Nat) (xs : List Int) (w : World) (hn : xs.length ≤ 1048576) (hc : CellsAt w ad (ints xs)) :
    Calls Tryd.prog 18 #[.slice ad xs.length c] w fun e w' => LogSays xs e ∧ ∃ n, w' = w.drewN n := by
  have hl := ints_length xs
  have HC := Lib.hid hc
  clear hc
  go_enter Tryd.func18, Tryd.ntmps18
  go_wp2
  go_loopw [7] (fun i wr => ∃ k : Nat, k ≤ xs.length ∧ i = .int .i64 k ∧ LogTo xs k ∧ ∃ n, wr = w.drewN n) (fun i _ => xs.length - (intOf i).toNat)
  case atStart => exact ⟨0, by omega, rfl, ⟨fun i hi => by omega, fun i hi => by omega⟩, 0, rfl⟩
  case round =>
    obtain ⟨k, hk, rfl, ht, n, rfl⟩ := hrel
    have HT := Lib.hid ht
    clear ht
    by_cases hlt : k < xs.length
    · obtain ⟨g, off, rfl, hg, hcc⟩ := HC.out.open (by omega)
      have hx := hcc k _ (Lg_at hlt)
      by_cases hr : 0 ≤ Lg xs k ∧ Lg xs k ≤ 1000000
      · obtain ⟨hr1, hr2⟩ := hr
        have HR1 := hr1
        by_cases h2 : 2 ≤ k
        · have hx1 := hcc (k - 1) _ (Lg_at (by omega))
          have hx2 := hcc (k - 2) _ (Lg_at (by omega))
          have h2i : (2 : Int) ≤ (k : Int) := by omega
          obtain ⟨y, hy⟩ : ∃ y, y = Lg xs (k - 1) := ⟨_, rfl⟩
          obtain ⟨z, hz⟩ : ∃ z, z = Lg xs (k - 2) := ⟨_, rfl⟩
          obtain ⟨x, hxx⟩ : ∃ x, x = Lg xs k := ⟨_, rfl⟩
          have hyr := HT.out.1 (k - 1) (by omega)
          have hzr := HT.out.1 (k - 2) (by omega)
          rw [← hy] at hx1 hyr
          rw [← hz] at hx2 hzr
          rw [← hxx] at hx hr1 hr2
          obtain ⟨m1, m2⟩ := mul_small hyr.1 hyr.2 hyr.1 hyr.2
          obtain ⟨m3, m4⟩ := mul_small hzr.1 hzr.2 hr1 hr2
          have HY := Lib.hid hy
          have HZ := Lib.hid hz
          have HX := Lib.hid hxx
          clear hy hz hxx hcc hyr hzr
          by_cases hm : z * x < y * y
          · have hmd : decide (z * x < y * y) = true := decide_eq_true hm
            go_wp2_with (go_at_call 23; refine (between_yes _ _ _ _ (by omega) (by omega)).mono ?_; rintro e w' ⟨rfl, rfl⟩)
            go_big_quiet (fail)
            go_wp2
            go_ret
            refine ⟨⟨false, rfl, ?_⟩, n + nq, by simp⟩
            refine ⟨fun h => (Bool.noConfusion h), fun h => absurd (h.2 (k - 2) (by omega)) ?_⟩
            rw [show k - 2 + 1 = k - 1 from by omega, show k - 2 + 2 = k from by omega, ← HY.out, ← HZ.out, ← HX.out]
            omega
          · have hmd : decide (z * x < y * y) = false := decide_eq_false hm
            have hm' : y * y ≤ z * x := by omega
            go_wp2_with (go_at_call 23; refine (between_yes _ _ _ _ (by omega) (by omega)).mono ?_; rintro e w' ⟨rfl, rfl⟩)
            go_big_quiet (fail)
            go_wp2
            go_roundw
            case rel =>
              refine ⟨k + 1, by omega, by go_num, ⟨fun i hi => ?_, fun i hi => ?_⟩, n + nq, by simp⟩
              · by_cases e : i = k
                · rw [e, ← HX.out]; exact ⟨hr1, hr2⟩
                · exact HT.out.1 i (by omega)
              · by_cases e : i + 2 = k
                · rw [e, show i + 1 = k - 1 from by omega, show i = k - 2 from by omega, ← HY.out, ← HZ.out, ← HX.out]; exact hm'
                · exact HT.out.2 i (by omega)
            case measure => simp [intOf]; omega
        · have h2i : decide ((2 : Int) ≤ (k : Int)) = false := by simp; omega
          clear hcc
          go_wp2_with (go_at_call 23; refine (between_yes _ _ _ _ (by omega) (by omega)).mono ?_; rintro e w' ⟨rfl, rfl⟩)
          go_big_quiet (fail)
          go_wp2
          go_roundw
          case rel =>
            refine ⟨k + 1, by omega, by go_num, ⟨fun i hi => ?_, fun i hi => by omega⟩, n + nq, by simp⟩
            by_cases e : i = k
            · rw [e]; exact ⟨hr1, hr2⟩
            · exact HT.out.1 i (by omega)
          case measure => simp [intOf]; omega
      · have hr' : Lg xs k < 0 ∨ 1000000 < Lg xs k := by omega
        clear hcc
        go_wp2_with (go_at_call 23; refine (between_no _ _ _ _ (by omega)).mono ?_; rintro e w' ⟨rfl, rfl⟩)
        go_ret
        exact ⟨⟨false, rfl, fun h => (Bool.noConfusion h), fun h => absurd (h.1 k hlt) hr⟩, n, rfl⟩
    · obtain rfl : k = xs.length := by omega
      go_wp2
      go_ret
      exact ⟨⟨true, rfl, fun _ => HT.out, fun _ => rfl⟩, n, rfl⟩

set_option maxHeartbeats 400000 in
theorem specLog (ad : Option Addr) (c : Nat) (xs : List Int) (w : World) (hn : xs.length ≤ 1048576) (hc : CellsAt w ad (ints xs)) :
    Calls Tryd.prog 19 #[.slice ad xs.length c] w fun e w' => LogSays xs e ∧ ∃ n, w' = w.drewN n := by
  have hl := ints_length xs
  have HC := Lib.hid hc
  clear hc
  go_enter Tryd.func19, Tryd.ntmps19
  go_wp2
  go_loopw [3] (fun i wr => ∃ k : Nat, k ≤ xs.length ∧ i = .int .i64 k ∧ (∀ i, i < k → 0 ≤ Lg xs i ∧ Lg xs i ≤ 1000000) ∧ ∃ n, wr = w.drewN n) (fun i _ => xs.length - (intOf i).toNat)
  case atStart => exact ⟨0, by omega, rfl, fun i hi => by omega, 0, rfl⟩
  case round =>
    obtain ⟨k, hk, rfl, ht, n0, rfl⟩ := hrel
    have HT := Lib.hid ht
    clear ht
    by_cases hlt : k < xs.length
    · obtain ⟨g, off, rfl, hg, hcc⟩ := HC.out.open (by omega)
      have hx := hcc k _ (Lg_at hlt)
      clear hcc
      by_cases hr : 0 ≤ Lg xs k ∧ Lg xs k ≤ 1000000
      · obtain ⟨hr1, hr2⟩ := hr
        go_wp2_with (go_at_call 25; refine (l1In_yes _ _ _ _ (by omega) (by omega)).mono ?_; rintro e w' ⟨rfl, rfl⟩)
        go_roundw
        case rel =>
          refine ⟨k + 1, by omega, by go_num, fun i hi => ?_, n0, rfl⟩
          by_cases e : i = k
          · rw [e]; exact ⟨hr1, hr2⟩
          · exact HT.out i (by omega)
        case measure => simp [intOf]; omega
      · have hr' : Lg xs k < 0 ∨ 1000000 < Lg xs k := by omega
        go_wp2_with (go_at_call 25; refine (l1In_no _ _ _ _ (by omega)).mono ?_; rintro e w' ⟨rfl, rfl⟩)
        go_ret
        exact ⟨⟨false, rfl, fun h => (Bool.noConfusion h), fun h => absurd (h.1 k hlt) hr⟩, n0, rfl⟩
    · obtain rfl : k = xs.length := by omega
      go_wp2
      go_loopw [4] (fun i wr => ∃ k : Nat, (k ≤ xs.length ∨ k = 1) ∧ 1 ≤ k ∧ i = .int .i64 k ∧ (∀ i, i + 1 < k → i + 2 < xs.length → Lg xs (i + 1) * Lg xs (i + 1) ≤ Lg xs i * Lg xs (i + 2)) ∧ ∃ n, wr = w.drewN n) (fun i _ => xs.length - (intOf i).toNat)
      case atStart => exact ⟨1, by omega, by omega, rfl, fun i hi => by omega, n0, rfl⟩
      case round =>
        obtain ⟨k, hk, hk1, rfl, hu, n, rfl⟩ := hrel
        have HU := Lib.hid hu
        clear hu
        by_cases hlt2 : k + 1 < xs.length
        · obtain ⟨g, off, rfl, hg, hcc⟩ := HC.out.open (by omega)
          have hx := hcc k _ (Lg_at (by omega))
          have hx1 := hcc (k - 1) _ (Lg_at (by omega))
          have hx2 := hcc (k + 1) _ (Lg_at (by omega))
          obtain ⟨y, hy⟩ : ∃ y, y = Lg xs k := ⟨_, rfl⟩
          obtain ⟨z, hz⟩ : ∃ z, z = Lg xs (k - 1) := ⟨_, rfl⟩
          obtain ⟨x, hxx⟩ : ∃ x, x = Lg xs (k + 1) := ⟨_, rfl⟩
          have hyr := HT.out k (by omega)
          have hzr := HT.out (k - 1) (by omega)
          have hxr := HT.out (k + 1) (by omega)
          rw [← hy] at hx hyr
          rw [← hz] at hx1 hzr
          rw [← hxx] at hx2 hxr
          obtain ⟨m1, m2⟩ := mul_small hyr.1 hyr.2 hyr.1 hyr.2
          obtain ⟨m3, m4⟩ := mul_small hzr.1 hzr.2 hxr.1 hxr.2
          have HY := Lib.hid hy
          have HZ := Lib.hid hz
          have HX := Lib.hid hxx
          clear hy hz hxx hcc hyr hzr hxr
          by_cases hm : z * x < y * y
          · have hmd : decide (z * x < y * y) = true := decide_eq_true hm
            go_wp2
            go_big_quiet (fail)
            go_wp2
            go_ret
            refine ⟨⟨false, rfl, ?_⟩, n + nq, by simp⟩
            refine ⟨fun h => (Bool.noConfusion h), fun h => absurd (h.2 (k - 1) (by omega)) ?_⟩
            rw [show k - 1 + 1 = k from by omega, show k - 1 + 2 = k + 1 from by omega, ← HY.out, ← HZ.out, ← HX.out]
            omega
          · have hmd : decide (z * x < y * y) = false := decide_eq_false hm
            have hm' : y * y ≤ z * x := by omega
            go_wp2
            go_big_quiet (fail)
            go_wp2
            go_roundw
            case rel =>
              refine ⟨k + 1, by omega, by omega, by go_num, fun i hi hi2 => ?_, n + nq, by simp⟩
              by_cases e : i + 1 = k
              · rw [show i + 2 = k + 1 from by omega, e, show i = k - 1 from by omega, ← HY.out, ← HZ.out, ← HX.out]; exact hm'
              · exact HU.out i (by omega) hi2
            case measure => simp [intOf]; omega
        · go_wp2
          go_ret
          exact ⟨⟨true, rfl, fun _ => ⟨HT.out, fun i hi => HU.out i (by omega) hi⟩, fun _ => rfl⟩, n, rfl⟩

end Go.Proofs.YtgplpngphaaefaaDoor
