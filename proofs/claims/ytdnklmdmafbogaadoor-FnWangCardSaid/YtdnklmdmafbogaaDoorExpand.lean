/- Expand: the walks of ExpandFill, the reference's and the program's (printed by gen_expand.py). -/
import Derived.Test.YtdnklmdmafbogaaDoorPeriod
import Derived.Test.YtdnklmdmafbogaaDoorAllBase
import Derived.Deep.RegionHeld3
namespace Go.Proofs.YtdnklmdmafbogaaDoor
open Go.RowKit

/-- The first n numbers of the repeated fill, W to a row. -/
def exI (xs : List Int) (A B W n : Nat) : List Int := (List.range n).map fun i => Xa xs ((i / W) % B * A + (i % W) % A)
theorem exI_length (xs : List Int) (A B W n : Nat) : (exI xs A B W n).length = n := by simp [exI]
theorem exI_snoc {xs : List Int} {A B W y x : Nat} (hx : x < W) : exI xs A B W (y * W + (x + 1)) = exI xs A B W (y * W + x) ++ [Xa xs (y % B * A + x % A)] := by
  have e : y * W + (x + 1) = (y * W + x) + 1 := by omega
  have e1 : (y * W + x) / W = y := by rw [Nat.mul_comm, Nat.mul_add_div (by omega), Nat.div_eq_of_lt hx, Nat.add_zero]
  have e2 : (y * W + x) % W = x := by rw [Nat.mul_comm, Nat.mul_add_mod, Nat.mod_eq_of_lt hx]
  unfold exI
  rw [e, List.range_succ, List.map_append, List.map_singleton, e1, e2]
def ExOk (ts : List Tile) (a b : Int) (xs : List Int) (k : Int) : Prop := IsPer ts a b xs ∧ (1 ≤ k ∧ k ≤ 4) ∧ a * k ≤ 4 ∧ b * k ≤ 4
instance (ts : List Tile) (a b : Int) (xs : List Int) (k : Int) : Decidable (ExOk ts a b xs k) := by unfold ExOk; infer_instance
def expand (ts : List Tile) (a b : Int) (xs : List Int) (k : Int) : List Int := if ExOk ts a b xs k then exI xs a.toNat b.toNat (a.toNat * k.toNat) (b.toNat * k.toNat * (a.toNat * k.toNat)) else []

set_option maxHeartbeats 1600000 in
theorem specExpand (ad af : Option Addr) (c cf : Nat) (ts : List Tile) (a b : Int) (xs : List Int) (k : Int) (w : World) (hn : ts.length ≤ 1048576) (hf : xs.length ≤ 1048576) (hcap : xs.length ≤ cf) (wk : -9223372036854775808 ≤ k ∧ k ≤ 9223372036854775807)
    (hc : CellsAt w ad (wangs ts)) (hcf : CellsAt w af (ints xs)) :
    Calls Tryd.prog 44 #[.slice ad ts.length c, .int .i64 a, .int .i64 b, .slice af xs.length cf, .int .i64 k] w fun e w' => ∃ ad' cap', e = .returned (.tuple #[.slice ad' (expand ts a b xs k).length cap', .bool (decide (ExOk ts a b xs k))]) ∧
      w'.ownsRow w.heap.size 3 1 (.slice ad' (expand ts a b xs k).length cap') (expand ts a b xs k).length (ints (expand ts a b xs k)) ∧ Below w.heap.size w w' := by
  have hb0 : Below w.heap.size w (w.alloc (.cells #[] 3)) := (Below.refl _ _).alloc (Nat.le_refl _) _
  have ho0 := ownsRow_empty w 3 1
  have hper := specPeriodic ad af c cf ts a b xs (w.alloc (.cells #[] 3)) hn hf hcap (hc.below hb0) (hcf.below hb0)
  have HC := Lib.hid hc
  have HCF := Lib.hid hcf
  have HB0 := Lib.hid hb0
  have HO0 := Lib.hid ho0
  clear hc hcf hb0 ho0
  by_cases hP : IsPer ts a b xs
  · rw [decide_eq_true hP] at hper
    by_cases hk : 1 ≤ k ∧ k ≤ 4
    · obtain ⟨K, rfl⟩ := Int.eq_ofNat_of_zero_le (show 0 ≤ k by omega)
      obtain ⟨A, rfl⟩ := Int.eq_ofNat_of_zero_le (show 0 ≤ a by have := hP.1.2.1.1.1; omega)
      obtain ⟨B, rfl⟩ := Int.eq_ofNat_of_zero_le (show 0 ≤ b by have := hP.1.2.1.2.1; omega)
      obtain ⟨ha1, ha2⟩ : 1 ≤ A ∧ A ≤ 4 := by have := hP.1.2.1.1; omega
      obtain ⟨hb1, hb2⟩ : 1 ≤ B ∧ B ≤ 4 := by have := hP.1.2.1.2; omega
      obtain ⟨hk1, hk2⟩ : 1 ≤ K ∧ K ≤ 4 := by omega
      obtain ⟨W, hW⟩ : ∃ W : Nat, W = A * K := ⟨_, rfl⟩
      obtain ⟨H, hH⟩ : ∃ H : Nat, H = B * K := ⟨_, rfl⟩
      have eW : (A : Int) * (K : Int) = (W : Int) := by rw [hW]; norm_cast
      have eH : (B : Int) * (K : Int) = (H : Int) := by rw [hH]; norm_cast
      have w16 : W ≤ 16 := by rw [hW]; exact Nat.mul_le_mul ha2 hk2
      have h16 : H ≤ 16 := by rw [hH]; exact Nat.mul_le_mul hb2 hk2
      have w1_ : 1 ≤ W := by rw [hW]; exact Nat.mul_pos ha1 hk1
      have m1 : 0 ≤ (A : Int) * (K : Int) := by rw [eW]; omega
      have m2 : (A : Int) * (K : Int) ≤ 16 := by rw [eW]; omega
      have m3 : 0 ≤ (B : Int) * (K : Int) := by rw [eH]; omega
      have m4 : (B : Int) * (K : Int) ≤ 16 := by rw [eH]; omega
      by_cases hw4 : W ≤ 4
      · have hwd : decide (4 < (W : Int)) = false := by simp; omega
        by_cases hh4 : H ≤ 4
        · have hhd : decide (4 < (H : Int)) = false := by simp; omega
          have hok : ExOk ts A B xs K := ⟨hP, hk, by rw [eW]; omega, by rw [eH]; omega⟩
          have hex : expand ts A B xs K = exI xs A B W (H * W) := by rw [hW, hH]; exact if_pos hok
          have hlen : xs.length = A * B := by have := hP.1.2.2.1; exact_mod_cast this
          have hl16 : xs.length ≤ 16 := by rw [hlen]; exact Nat.mul_le_mul ha2 hb2
          rw [hex, decide_eq_true hok, exI_length]
          have HLEN := Lib.hid hlen
          have HWW : H * W ≤ 4 * 4 := Nat.mul_le_mul hh4 hw4
          have HPER := Lib.hid hper
          clear hper hok hex hlen hP hk hW hH m1 m2 m3 m4
          go_enter Tryd.func44, Tryd.ntmps44
          go_wp2_with fail
          refine HPER.out.mono ?_
          rintro e w1 ⟨rfl, hb1⟩
          have hb1w := HB0.out.trans (hb1.mono HB0.out.size)
          have HO1 := Lib.hid (ownsRow_rebase (ownsRow_far_below (ownsRow_rebase HO0.out (Nat.le_refl _)) hb1 (Nat.le_refl _)) (Nat.le_refl w.heap.size))
          go_wp2_with fail
          refine (l1In_yes _ _ _ _ (by omega) (by omega)).mono ?_
          rintro e w' ⟨rfl, rfl⟩
          go_wp2_with fail
          have hb1z := hb1w.size
          have HB1 := Lib.hid hb1w
          clear hb1 hb1w
          go_loopw [12, 13] (fun v i wr => ∃ y : Nat, y ≤ H ∧ i = .int .i64 y ∧ wr.ownsRow w.heap.size 3 1 v (y * W) (ints (exI xs A B W (y * W))) ∧ Below w.heap.size w wr) (fun _ i _ => H - (intOf i).toNat)
          case atStart => exact ⟨0, by omega, rfl, by rw [Nat.zero_mul]; exact HO1.out, HB1.out⟩
          case round =>
            obtain ⟨y, hy, rfl, hown, hb⟩ := hrel
            have HOWN := Lib.hid hown
            have HB := Lib.hid hb
            clear hown hb
            by_cases hlt : y < H
            · have hltd : decide ((y : Int) < (H : Int)) = true := by simp; omega
              go_wp2
              go_loopw [12, 14] (fun v i wr => ∃ x : Nat, x ≤ W ∧ i = .int .i64 x ∧ wr.ownsRow w.heap.size 3 1 v (y * W + x) (ints (exI xs A B W (y * W + x))) ∧ Below w.heap.size w wr) (fun _ i _ => W - (intOf i).toNat)
              case atStart => exact ⟨0, by omega, rfl, HOWN.out, HB.out⟩
              case round =>
                obtain ⟨x, hx, rfl, hown2, hb2⟩ := hrel
                have hyW : y * W + W ≤ H * W := by have := Nat.mul_le_mul_right W (show y + 1 ≤ H by omega); rw [Nat.succ_mul] at this; exact this
                by_cases hlt2 : x < W
                · obtain ⟨p, hp⟩ : ∃ p : Nat, p = y % B := ⟨_, rfl⟩
                  obtain ⟨q, hq⟩ : ∃ q : Nat, q = x % A := ⟨_, rfl⟩
                  obtain ⟨r, hr⟩ : ∃ r : Nat, r = p * A := ⟨_, rfl⟩
                  have ep : (y : Int) % (B : Int) = (p : Int) := by rw [hp]; norm_cast
                  have eq : (x : Int) % (A : Int) = (q : Int) := by rw [hq]; norm_cast
                  have er : (p : Int) * (A : Int) = (r : Int) := by rw [hr]; norm_cast
                  have hpB : p < B := by rw [hp]; exact Nat.mod_lt _ (by omega)
                  have hqA : q < A := by rw [hq]; exact Nat.mod_lt _ (by omega)
                  have hrq : r + q < xs.length := by
                    have := Nat.mul_le_mul_right A (show p + 1 ≤ B by omega)
                    rw [Nat.succ_mul, ← hr] at this
                    rw [HLEN.out, Nat.mul_comm A B]
                    omega
                  obtain ⟨s, hs⟩ : ∃ s : Nat, s = r + q := ⟨_, rfl⟩
                  rw [← hs] at hrq
                  have hsn := exI_snoc (xs := xs) (A := A) (B := B) (y := y) hlt2
                  rw [← hp, ← hq, ← hr, ← hs] at hsn
                  obtain ⟨g, off, rfl, hg, hff⟩ := HCF.out.open (by rw [ints_length]; omega)
                  have hz := hff s _ (Xa_at hrq)
                  obtain ⟨z, hzz⟩ : ∃ z, z = Xa xs s := ⟨_, rfl⟩
                  rw [← hzz] at hz hsn
                  have x0 := (hb2.cell (p := ⟨g, off + s, none⟩) hg).trans hz
                  have HSN := Lib.hid hsn
                  have HB2 := Lib.hid hb2
                  have hsz := hb2.size
                  have n1 : ¬ (B : Int) = 0 := by omega
                  have n2 : ¬ (A : Int) = 0 := by omega
                  have n3 : (r : Int) ≤ 16 := by omega
                  have n6 : 0 ≤ (y : Int) % (B : Int) := by rw [ep]; omega
                  have n7 : (y : Int) % (B : Int) ≤ 16 := by rw [ep]; omega
                  have n8 : 0 ≤ (x : Int) % (A : Int) := by rw [eq]; omega
                  have n9 : (x : Int) % (A : Int) ≤ 16 := by rw [eq]; omega
                  have n4 : 0 ≤ (p : Int) * (A : Int) := by rw [er]; omega
                  have n5 : (p : Int) * (A : Int) ≤ 16 := by rw [er]; omega
                  have hlt2d : decide ((x : Int) < (W : Int)) = true := by simp; omega
                  clear hff hsn hz hzz hb2 hp hq hr
                  go_wp2
                  have a0 : ¬ A = 0 := by omega
                  have b0 : ¬ B = 0 := by omega
                  have c1 : y * W + x + 1 ≤ maxLen := by unfold maxLen; omega
                  have c2 : (s : Int) < (xs.length : Int) := by omega
                  have c3 : (0 : Int) ≤ (s : Int) := by omega
                  have t3 : IntKind.i64.wrap ((p : Int) * (A : Int)) = (r : Int) := by rw [er]; exact IntWalk.i64_in _ (by omega)
                  have t4 : IntKind.i64.wrap ((r : Int) + (q : Int)) = (s : Int) := by rw [show (r : Int) + (q : Int) = (s : Int) by omega]; exact IntWalk.i64_in _ (by omega)
                  have t1 : (y : Int).tmod (B : Int) = (p : Int) := by rw [← ep]; exact Int.tmod_eq_emod_of_nonneg (by omega)
                  have t2 : (x : Int).tmod (A : Int) = (q : Int) := by rw [← eq]; exact Int.tmod_eq_emod_of_nonneg (by omega)
                  have t5 : IntKind.i64.wrap (r : Int) = (r : Int) := IntWalk.i64_in _ (by omega)
                  clear hs ep eq er n3 n4 n5 n6 n7 n8 n9
                  go_wp2
                  go_region_held3 (fun w' => w'.cell? ⟨g, off + s, none⟩ = some (.int .i64 z))
                    (first | go_keep | exact (q2.cell (p := ⟨g, off + s, none⟩) hg).trans x0)
                    ((refine step_app1 (by rfl) (.tmp 54) (.tmp 67) 37 (by rfl) w.heap.size 3 _ 1 8 Tryd.elemInt _ (y * W + x) _ _ _ _ (by rfl) (by rfl) rfl hown2 (by rfl) (by simp [Value.oneCell']) (by exact c1) (by omega) (by omega) ?_; intro g' cap w2 q1 q2 q3 q4 q5 q6))
                  go_wp2
                  go_roundw
                  case rel =>
                    refine ⟨x + 1, by omega, by go_num, ?_, HB2.out.trans q2⟩
                    rw [HSN.out, ints_append]
                    exact q1
                  case measure => simp [intOf]; omega
                · obtain rfl : x = W := by omega
                  go_wp2
                  go_roundw
                  case rel => exact ⟨y + 1, by omega, by go_num, by rw [Nat.succ_mul]; exact hown2, hb2⟩
                  case measure => simp [intOf]; omega
            · obtain rfl : y = H := by omega
              obtain ⟨ad', cap', rfl, _⟩ := ownsRow_cells HOWN.out
              go_wp2
              go_ret2
              exact ⟨ad', cap', rfl, HOWN.out, HB.out⟩
        · have hhd : decide (4 < (H : Int)) = true := by simp; omega
          have hno : ¬ ExOk ts A B xs K := fun h => hh4 (by have := h.2.2.2; rw [eH] at this; omega)
          rw [show expand ts A B xs K = [] from if_neg hno, decide_eq_false hno]
          clear hno
          have HPER := Lib.hid hper
          clear hper hP hk hW hH m1 m2 m3 m4
          go_enter Tryd.func44, Tryd.ntmps44
          go_wp2_with fail
          refine HPER.out.mono ?_
          rintro e w1 ⟨rfl, hb1⟩
          have hb1w := HB0.out.trans (hb1.mono HB0.out.size)
          have HO1 := Lib.hid (ownsRow_rebase (ownsRow_far_below (ownsRow_rebase HO0.out (Nat.le_refl _)) hb1 (Nat.le_refl _)) (Nat.le_refl w.heap.size))
          go_wp2_with fail
          refine (l1In_yes _ _ _ _ (by omega) (by omega)).mono ?_
          rintro e w' ⟨rfl, rfl⟩
          go_wp2_with fail
          go_ret2
          exact ⟨_, _, rfl, HO1.out, hb1w⟩
      · have hwd : decide (4 < (W : Int)) = true := by simp; omega
        have hno : ¬ ExOk ts A B xs K := fun h => hw4 (by have := h.2.2.1; rw [eW] at this; omega)
        rw [show expand ts A B xs K = [] from if_neg hno, decide_eq_false hno]
        clear hno
        have HPER := Lib.hid hper
        clear hper hP hk hW hH m1 m2 m3 m4
        go_enter Tryd.func44, Tryd.ntmps44
        go_wp2_with fail
        refine HPER.out.mono ?_
        rintro e w1 ⟨rfl, hb1⟩
        have hb1w := HB0.out.trans (hb1.mono HB0.out.size)
        have HO1 := Lib.hid (ownsRow_rebase (ownsRow_far_below (ownsRow_rebase HO0.out (Nat.le_refl _)) hb1 (Nat.le_refl _)) (Nat.le_refl w.heap.size))
        go_wp2_with fail
        refine (l1In_yes _ _ _ _ (by omega) (by omega)).mono ?_
        rintro e w' ⟨rfl, rfl⟩
        go_wp2_with fail
        go_ret2
        exact ⟨_, _, rfl, HO1.out, hb1w⟩
    · skip
      have hno : ¬ ExOk ts a b xs k := fun h => hk h.2.1
      rw [show expand ts a b xs k = [] from if_neg hno, decide_eq_false hno]
      clear hno
      have HPER := Lib.hid hper
      clear hper hP
      go_enter Tryd.func44, Tryd.ntmps44
      go_wp2_with fail
      refine HPER.out.mono ?_
      rintro e w1 ⟨rfl, hb1⟩
      have hb1w := HB0.out.trans (hb1.mono HB0.out.size)
      have HO1 := Lib.hid (ownsRow_rebase (ownsRow_far_below (ownsRow_rebase HO0.out (Nat.le_refl _)) hb1 (Nat.le_refl _)) (Nat.le_refl w.heap.size))
      go_wp2_with fail
      refine (l1In_no _ _ _ _ (by omega)).mono ?_
      rintro e w' ⟨rfl, rfl⟩
      go_wp2_with fail
      go_ret2
      exact ⟨_, _, rfl, HO1.out, hb1w⟩
  · rw [decide_eq_false hP] at hper
    have hno : ¬ ExOk ts a b xs k := fun h => hP h.1
    rw [show expand ts a b xs k = [] from if_neg hno, decide_eq_false hno]
    clear hno
    have HPER := Lib.hid hper
    clear hper hP
    go_enter Tryd.func44, Tryd.ntmps44
    go_wp2_with fail
    refine HPER.out.mono ?_
    rintro e w1 ⟨rfl, hb1⟩
    have hb1w := HB0.out.trans (hb1.mono HB0.out.size)
    have HO1 := Lib.hid (ownsRow_rebase (ownsRow_far_below (ownsRow_rebase HO0.out (Nat.le_refl _)) hb1 (Nat.le_refl _)) (Nat.le_refl w.heap.size))
    go_wp2_with fail
    go_ret2
    exact ⟨_, _, rfl, HO1.out, hb1w⟩

set_option maxHeartbeats 1600000 in
theorem implExpand (ad af : Option Addr) (c cf : Nat) (ts : List Tile) (a b : Int) (xs : List Int) (k : Int) (w : World) (hn : ts.length ≤ 1048576) (hf : xs.length ≤ 1048576) (hcap : xs.length ≤ cf) (wk : -9223372036854775808 ≤ k ∧ k ≤ 9223372036854775807)
    (hc : CellsAt w ad (wangs ts)) (hcf : CellsAt w af (ints xs)) :
    Calls Tryd.prog 43 #[.slice ad ts.length c, .int .i64 a, .int .i64 b, .slice af xs.length cf, .int .i64 k] w fun e w' => ∃ ad' cap', e = .returned (.tuple #[.slice ad' (expand ts a b xs k).length cap', .bool (decide (ExOk ts a b xs k))]) ∧
      w'.ownsRow w.heap.size 3 1 (.slice ad' (expand ts a b xs k).length cap') (expand ts a b xs k).length (ints (expand ts a b xs k)) ∧ Below w.heap.size w w' := by
  have hb0 : Below w.heap.size w w := Below.refl _ _
  have hper := implPeriodic ad af c cf ts a b xs w hn hf hcap (hc.below hb0) (hcf.below hb0)
  have HC := Lib.hid hc
  have HCF := Lib.hid hcf
  have HB0 := Lib.hid hb0
  clear hc hcf hb0
  by_cases hP : IsPer ts a b xs
  · rw [decide_eq_true hP] at hper
    by_cases hk : 1 ≤ k ∧ k ≤ 4
    · obtain ⟨K, rfl⟩ := Int.eq_ofNat_of_zero_le (show 0 ≤ k by omega)
      obtain ⟨A, rfl⟩ := Int.eq_ofNat_of_zero_le (show 0 ≤ a by have := hP.1.2.1.1.1; omega)
      obtain ⟨B, rfl⟩ := Int.eq_ofNat_of_zero_le (show 0 ≤ b by have := hP.1.2.1.2.1; omega)
      obtain ⟨ha1, ha2⟩ : 1 ≤ A ∧ A ≤ 4 := by have := hP.1.2.1.1; omega
      obtain ⟨hb1, hb2⟩ : 1 ≤ B ∧ B ≤ 4 := by have := hP.1.2.1.2; omega
      obtain ⟨hk1, hk2⟩ : 1 ≤ K ∧ K ≤ 4 := by omega
      obtain ⟨W, hW⟩ : ∃ W : Nat, W = A * K := ⟨_, rfl⟩
      obtain ⟨H, hH⟩ : ∃ H : Nat, H = B * K := ⟨_, rfl⟩
      have eW : (A : Int) * (K : Int) = (W : Int) := by rw [hW]; norm_cast
      have eH : (B : Int) * (K : Int) = (H : Int) := by rw [hH]; norm_cast
      have w16 : W ≤ 16 := by rw [hW]; exact Nat.mul_le_mul ha2 hk2
      have h16 : H ≤ 16 := by rw [hH]; exact Nat.mul_le_mul hb2 hk2
      have w1_ : 1 ≤ W := by rw [hW]; exact Nat.mul_pos ha1 hk1
      have m1 : 0 ≤ (A : Int) * (K : Int) := by rw [eW]; omega
      have m2 : (A : Int) * (K : Int) ≤ 16 := by rw [eW]; omega
      have m3 : 0 ≤ (B : Int) * (K : Int) := by rw [eH]; omega
      have m4 : (B : Int) * (K : Int) ≤ 16 := by rw [eH]; omega
      by_cases hw4 : W ≤ 4
      · have hwd : decide (4 < (W : Int)) = false := by simp; omega
        by_cases hh4 : H ≤ 4
        · have hhd : decide (4 < (H : Int)) = false := by simp; omega
          have hok : ExOk ts A B xs K := ⟨hP, hk, by rw [eW]; omega, by rw [eH]; omega⟩
          have hex : expand ts A B xs K = exI xs A B W (H * W) := by rw [hW, hH]; exact if_pos hok
          have hlen : xs.length = A * B := by have := hP.1.2.2.1; exact_mod_cast this
          have hl16 : xs.length ≤ 16 := by rw [hlen]; exact Nat.mul_le_mul ha2 hb2
          rw [hex, decide_eq_true hok, exI_length]
          have HLEN := Lib.hid hlen
          have HWW : H * W ≤ 4 * 4 := Nat.mul_le_mul hh4 hw4
          have HPER := Lib.hid hper
          clear hper hok hex hlen hP hk hW hH m1 m2 m3 m4
          go_enter Tryd.func43, Tryd.ntmps43
          go_wp2_with fail
          refine HPER.out.mono ?_
          rintro e w1 ⟨rfl, hb1⟩
          have hb1w := HB0.out.trans (hb1.mono HB0.out.size)
          go_wp2_with fail
          refine (between_yes _ _ _ _ (by omega) (by omega)).mono ?_
          rintro e w' ⟨rfl, rfl⟩
          go_wp2_with fail
          have hb1z := hb1w.size
          have HB1 := Lib.hid hb1w
          clear hb1 hb1w
          go_loopw [12, 41] (fun v i wr => ∃ y : Nat, y ≤ H ∧ i = .int .i64 y ∧ wr.ownsRow w.heap.size 3 1 v (y * W) (ints (exI xs A B W (y * W))) ∧ Below w.heap.size w wr) (fun _ i _ => H - (intOf i).toNat)
          case atStart => exact ⟨0, by omega, rfl, by rw [Nat.zero_mul]; exact World.ownsRow_nil _ _ _ _, HB1.out⟩
          case round =>
            obtain ⟨y, hy, rfl, hown, hb⟩ := hrel
            have HOWN := Lib.hid hown
            have HB := Lib.hid hb
            clear hown hb
            by_cases hlt : y < H
            · have hltd : decide ((y : Int) < (H : Int)) = true := by simp; omega
              go_wp2
              go_loopw [12, 47] (fun v i wr => ∃ x : Nat, x ≤ W ∧ i = .int .i64 x ∧ wr.ownsRow w.heap.size 3 1 v (y * W + x) (ints (exI xs A B W (y * W + x))) ∧ Below w.heap.size w wr) (fun _ i _ => W - (intOf i).toNat)
              case atStart => exact ⟨0, by omega, rfl, HOWN.out, HB.out⟩
              case round =>
                obtain ⟨x, hx, rfl, hown2, hb2⟩ := hrel
                have hyW : y * W + W ≤ H * W := by have := Nat.mul_le_mul_right W (show y + 1 ≤ H by omega); rw [Nat.succ_mul] at this; exact this
                by_cases hlt2 : x < W
                · obtain ⟨p, hp⟩ : ∃ p : Nat, p = y % B := ⟨_, rfl⟩
                  obtain ⟨q, hq⟩ : ∃ q : Nat, q = x % A := ⟨_, rfl⟩
                  obtain ⟨r, hr⟩ : ∃ r : Nat, r = p * A := ⟨_, rfl⟩
                  have ep : (y : Int) % (B : Int) = (p : Int) := by rw [hp]; norm_cast
                  have eq : (x : Int) % (A : Int) = (q : Int) := by rw [hq]; norm_cast
                  have er : (p : Int) * (A : Int) = (r : Int) := by rw [hr]; norm_cast
                  have hpB : p < B := by rw [hp]; exact Nat.mod_lt _ (by omega)
                  have hqA : q < A := by rw [hq]; exact Nat.mod_lt _ (by omega)
                  have hrq : r + q < xs.length := by
                    have := Nat.mul_le_mul_right A (show p + 1 ≤ B by omega)
                    rw [Nat.succ_mul, ← hr] at this
                    rw [HLEN.out, Nat.mul_comm A B]
                    omega
                  obtain ⟨s, hs⟩ : ∃ s : Nat, s = r + q := ⟨_, rfl⟩
                  rw [← hs] at hrq
                  have hsn := exI_snoc (xs := xs) (A := A) (B := B) (y := y) hlt2
                  rw [← hp, ← hq, ← hr, ← hs] at hsn
                  obtain ⟨g, off, rfl, hg, hff⟩ := HCF.out.open (by rw [ints_length]; omega)
                  have hz := hff s _ (Xa_at hrq)
                  obtain ⟨z, hzz⟩ : ∃ z, z = Xa xs s := ⟨_, rfl⟩
                  rw [← hzz] at hz hsn
                  have x0 := (hb2.cell (p := ⟨g, off + s, none⟩) hg).trans hz
                  have HSN := Lib.hid hsn
                  have HB2 := Lib.hid hb2
                  have hsz := hb2.size
                  have n1 : ¬ (B : Int) = 0 := by omega
                  have n2 : ¬ (A : Int) = 0 := by omega
                  have n3 : (r : Int) ≤ 16 := by omega
                  have n6 : 0 ≤ (y : Int) % (B : Int) := by rw [ep]; omega
                  have n7 : (y : Int) % (B : Int) ≤ 16 := by rw [ep]; omega
                  have n8 : 0 ≤ (x : Int) % (A : Int) := by rw [eq]; omega
                  have n9 : (x : Int) % (A : Int) ≤ 16 := by rw [eq]; omega
                  have n4 : 0 ≤ (p : Int) * (A : Int) := by rw [er]; omega
                  have n5 : (p : Int) * (A : Int) ≤ 16 := by rw [er]; omega
                  have hlt2d : decide ((x : Int) < (W : Int)) = true := by simp; omega
                  clear hff hsn hz hzz hb2 hp hq hr
                  go_wp2
                  have a0 : ¬ A = 0 := by omega
                  have b0 : ¬ B = 0 := by omega
                  have c1 : y * W + x + 1 ≤ maxLen := by unfold maxLen; omega
                  have c2 : (s : Int) < (xs.length : Int) := by omega
                  have c3 : (0 : Int) ≤ (s : Int) := by omega
                  have t3 : IntKind.i64.wrap ((p : Int) * (A : Int)) = (r : Int) := by rw [er]; exact IntWalk.i64_in _ (by omega)
                  have t4 : IntKind.i64.wrap ((r : Int) + (q : Int)) = (s : Int) := by rw [show (r : Int) + (q : Int) = (s : Int) by omega]; exact IntWalk.i64_in _ (by omega)
                  have t1 : (y : Int).tmod (B : Int) = (p : Int) := by rw [← ep]; exact Int.tmod_eq_emod_of_nonneg (by omega)
                  have t2 : (x : Int).tmod (A : Int) = (q : Int) := by rw [← eq]; exact Int.tmod_eq_emod_of_nonneg (by omega)
                  have t5 : IntKind.i64.wrap (r : Int) = (r : Int) := IntWalk.i64_in _ (by omega)
                  clear hs ep eq er n3 n4 n5 n6 n7 n8 n9
                  go_wp2
                  go_region_held3 (fun w' => w'.cell? ⟨g, off + s, none⟩ = some (.int .i64 z))
                    (first | go_keep | exact (q2.cell (p := ⟨g, off + s, none⟩) hg).trans x0)
                    ((refine step_app1 (by rfl) (.tmp 50) (.tmp 63) 37 (by rfl) w.heap.size 3 _ 1 8 Tryd.elemInt _ (y * W + x) _ _ _ _ (by rfl) (by rfl) rfl hown2 (by rfl) (by simp [Value.oneCell']) (by exact c1) (by omega) (by omega) ?_; intro g' cap w2 q1 q2 q3 q4 q5 q6))
                  go_wp2
                  go_roundw
                  case rel =>
                    refine ⟨x + 1, by omega, by go_num, ?_, HB2.out.trans q2⟩
                    rw [HSN.out, ints_append]
                    exact q1
                  case measure => simp [intOf]; omega
                · obtain rfl : x = W := by omega
                  go_wp2
                  go_roundw
                  case rel => exact ⟨y + 1, by omega, by go_num, by rw [Nat.succ_mul]; exact hown2, hb2⟩
                  case measure => simp [intOf]; omega
            · obtain rfl : y = H := by omega
              obtain ⟨ad', cap', rfl, _⟩ := ownsRow_cells HOWN.out
              go_wp2
              go_ret2
              exact ⟨ad', cap', rfl, HOWN.out, HB.out⟩
        · have hhd : decide (4 < (H : Int)) = true := by simp; omega
          have hno : ¬ ExOk ts A B xs K := fun h => hh4 (by have := h.2.2.2; rw [eH] at this; omega)
          rw [show expand ts A B xs K = [] from if_neg hno, decide_eq_false hno]
          clear hno
          have HPER := Lib.hid hper
          clear hper hP hk hW hH m1 m2 m3 m4
          go_enter Tryd.func43, Tryd.ntmps43
          go_wp2_with fail
          refine HPER.out.mono ?_
          rintro e w1 ⟨rfl, hb1⟩
          have hb1w := HB0.out.trans (hb1.mono HB0.out.size)
          go_wp2_with fail
          refine (between_yes _ _ _ _ (by omega) (by omega)).mono ?_
          rintro e w' ⟨rfl, rfl⟩
          go_wp2_with fail
          go_ret2
          exact ⟨none, 0, rfl, World.ownsRow_nil _ _ _ _, hb1w⟩
      · have hwd : decide (4 < (W : Int)) = true := by simp; omega
        have hno : ¬ ExOk ts A B xs K := fun h => hw4 (by have := h.2.2.1; rw [eW] at this; omega)
        rw [show expand ts A B xs K = [] from if_neg hno, decide_eq_false hno]
        clear hno
        have HPER := Lib.hid hper
        clear hper hP hk hW hH m1 m2 m3 m4
        go_enter Tryd.func43, Tryd.ntmps43
        go_wp2_with fail
        refine HPER.out.mono ?_
        rintro e w1 ⟨rfl, hb1⟩
        have hb1w := HB0.out.trans (hb1.mono HB0.out.size)
        go_wp2_with fail
        refine (between_yes _ _ _ _ (by omega) (by omega)).mono ?_
        rintro e w' ⟨rfl, rfl⟩
        go_wp2_with fail
        go_ret2
        exact ⟨none, 0, rfl, World.ownsRow_nil _ _ _ _, hb1w⟩
    · skip
      have hno : ¬ ExOk ts a b xs k := fun h => hk h.2.1
      rw [show expand ts a b xs k = [] from if_neg hno, decide_eq_false hno]
      clear hno
      have HPER := Lib.hid hper
      clear hper hP
      go_enter Tryd.func43, Tryd.ntmps43
      go_wp2_with fail
      refine HPER.out.mono ?_
      rintro e w1 ⟨rfl, hb1⟩
      have hb1w := HB0.out.trans (hb1.mono HB0.out.size)
      go_wp2_with fail
      refine (between_no _ _ _ _ (by omega)).mono ?_
      rintro e w' ⟨rfl, rfl⟩
      go_wp2_with fail
      go_ret2
      exact ⟨none, 0, rfl, World.ownsRow_nil _ _ _ _, hb1w⟩
  · rw [decide_eq_false hP] at hper
    have hno : ¬ ExOk ts a b xs k := fun h => hP h.1
    rw [show expand ts a b xs k = [] from if_neg hno, decide_eq_false hno]
    clear hno
    have HPER := Lib.hid hper
    clear hper hP
    go_enter Tryd.func43, Tryd.ntmps43
    go_wp2_with fail
    refine HPER.out.mono ?_
    rintro e w1 ⟨rfl, hb1⟩
    have hb1w := HB0.out.trans (hb1.mono HB0.out.size)
    go_wp2_with fail
    go_ret2
    exact ⟨none, 0, rfl, World.ownsRow_nil _ _ _ _, hb1w⟩
end Go.Proofs.YtdnklmdmafbogaaDoor
