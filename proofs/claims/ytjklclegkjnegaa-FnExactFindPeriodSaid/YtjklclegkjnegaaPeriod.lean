/- Period: the walks of IsPeriodicFill, the reference's and the program's. -/
import Derived.Test.YtjklclegkjnegaaCloses
namespace Go.Proofs.Ytjklclegkjnegaa
open Go.RowKit

def IsPer (ts : List Tile) (a b : Int) (xs : List Int) : Prop := IsFill ts a b xs ∧ Closes ts a.toNat b.toNat (xs.map Int.toNat)
instance (ts : List Tile) (a b : Int) (xs : List Int) : Decidable (IsPer ts a b xs) := by unfold IsPer; infer_instance

/-- A fill is a list of indices. -/
theorem IsFill.nats {ts : List Tile} {a b : Int} {xs : List Int} (h : IsFill ts a b xs) : xs = nats (xs.map Int.toNat) ∧ InR ts (xs.map Int.toNat) := by
  have h4 := h.2.2.2
  have e1 := nats_take h4 (Nat.le_refl _)
  have e2 := At_take h4 (Nat.le_refl _)
  rw [List.take_length] at e1 e2
  exact ⟨e1.symm, e2⟩

set_option maxHeartbeats 1600000 in
theorem specPeriodic (ad af : Option Addr) (c cf : Nat) (ts : List Tile) (a b : Int) (xs : List Int) (w : World) (hn : ts.length ≤ 1048576) (hf : xs.length ≤ 1048576) (hcap : xs.length ≤ cf)
    (hc : CellsAt w ad (wangs ts)) (hcf : CellsAt w af (ints xs)) :
    Calls Try.prog 17 #[.slice ad ts.length c, .int .i64 a, .int .i64 b, .slice af xs.length cf] w fun e w' => e = .returned (.bool (decide (IsPer ts a b xs))) ∧ Below w.heap.size w w' := by
  have hfill := specFill ad af c cf ts a b xs w hn hf hcap hc hcf
  by_cases hI : IsFill ts a b xs
  · rw [decide_eq_true hI] at hfill
    obtain ⟨A, rfl⟩ := Int.eq_ofNat_of_zero_le (show 0 ≤ a by have := hI.2.1.1.1; omega)
    obtain ⟨B, rfl⟩ := Int.eq_ofNat_of_zero_le (show 0 ≤ b by have := hI.2.1.2.1; omega)
    obtain ⟨ha1, ha2⟩ : 1 ≤ A ∧ A ≤ 4 := by have := hI.2.1.1; omega
    obtain ⟨hb1, hb2⟩ : 1 ≤ B ∧ B ≤ 4 := by have := hI.2.1.2; omega
    obtain ⟨f, hfe⟩ : ∃ f, f = xs.map Int.toNat := ⟨_, rfl⟩
    obtain ⟨hfn, hfi⟩ := hI.nats
    have hl0 := hI.2.2.1
    have hlx : xs.length = f.length := by rw [hfe]; simp
    have hlen : f.length = A * B := by rw [← hlx]; exact_mod_cast hl0
    rw [← hfe] at hfn hfi
    have hper : IsPer ts A B xs ↔ IsFill ts A B xs ∧ RowsTo ts A f B ∧ ColsTo ts A B f A := by unfold IsPer Closes; rw [← hfe]; exact Iff.rfl
    have HPER := Lib.hid hper
    have q0 : A * B ≤ 16 := Nat.mul_le_mul ha2 hb2
    have hpos : 0 < A * B := Nat.mul_pos (by omega) (by omega)
    have hts : 0 < ts.length := by have := hfi 0 (by omega); omega
    obtain ⟨g, off, rfl, hg, hcc0⟩ := tl_cells hc hts
    obtain ⟨g', off', rfl, hg', hff0⟩ := hcf.open (by rw [ints_length]; omega)
    have HCA := Lib.hid hc
    have HCB := Lib.hid hcf
    have HI := Lib.hid hI
    have HFN := Lib.hid hfn
    have HFI := Lib.hid hfi
    have HLEN := Lib.hid hlen
    have HFILL := Lib.hid hfill
    have hl16 : f.length ≤ 16 := by omega
    have HLX := Lib.hid hlx
    clear hlx hc hcf hI hfn hfi hlen hfill hl0 hper hfe hcc0 hff0
    go_enter Try.func17, Try.ntmps17
    go_wp2_with fail
    refine HFILL.out.mono ?_
    rintro e w1 ⟨rfl, hb1w⟩
    obtain ⟨g2, off2, e2, hg2, hcc⟩ := tl_cells (HCA.out.below hb1w) hts
    cases e2
    obtain ⟨g3, off3, e3, hg3, hff⟩ := (HCB.out.below hb1w).open (by have := HLX.out; have := HLEN.out; rw [ints_length]; omega)
    cases e3
    have hff' : ∀ i, i < f.length → w1.cell? ⟨g', off' + i, none⟩ = some (.int .i64 (At f i)) := by
      rw [HFN.out] at hff
      exact fun i hi => hff i _ (nats_at hi)
    have HCC := Lib.hid hcc
    have HFF := Lib.hid hff'
    clear hcc hff hff'
    have hlx1 : xs.length ≤ f.length := Nat.le_of_eq HLX.out
    have hlx2 : f.length ≤ xs.length := Nat.le_of_eq HLX.out.symm
    go_wp2
    go_loopw [9] (fun i wr => ∃ k : Nat, k ≤ B ∧ i = .int .i64 k ∧ RowsTo ts A f k ∧ ∃ n, wr = w1.drewN n) (fun i _ => B - (intOf i).toNat)
    case atStart => exact ⟨0, by omega, rfl, fun y hy => by omega, 0, rfl⟩
    case round =>
      obtain ⟨k, hk, rfl, ht, n, rfl⟩ := hrel
      have HT := Lib.hid ht
      clear ht
      by_cases hlt : k < B
      · have e0 : k * A + A ≤ f.length := by
          have := Nat.mul_le_mul_right A (show k + 1 ≤ B by omega)
          rw [Nat.succ_mul] at this
          rw [HLEN.out, Nat.mul_comm A B]
          exact this
        have e1 : (k : Int) * (A : Int) + (A : Int) ≤ (f.length : Int) := by exact_mod_cast e0
        have e2 : 0 ≤ (k : Int) * (A : Int) := Int.mul_nonneg (by omega) (by omega)
        have x := HFF.out (k * A + A - 1) (by omega)
        have y := HFF.out (k * A) (by omega)
        obtain ⟨_, x1, _, _⟩ := HCC.out _ (HFI.out (k * A + A - 1) (by omega))
        obtain ⟨_, _, _, y3⟩ := HCC.out _ (HFI.out (k * A) (by omega))
        have xl := HFI.out (k * A + A - 1) (by omega)
        have yl := HFI.out (k * A) (by omega)
        obtain ⟨u, hu⟩ : ∃ u, u = At f (k * A + A - 1) := ⟨_, rfl⟩
        obtain ⟨v, hv⟩ : ∃ v, v = At f (k * A) := ⟨_, rfl⟩
        rw [← hu] at x x1 xl
        rw [← hv] at y y3 yl
        have HU := Lib.hid hu
        have HV := Lib.hid hv
        clear hu hv
        by_cases he : (Tl ts u).r = (Tl ts v).l
        · have hed : ((Tl ts u).r != (Tl ts v).l) = false := by simp [he]
          have HE := Lib.hid he
          clear he
          go_wp2
          go_big_quiet (fail)
          go_wp2
          go_roundw
          case rel =>
            refine ⟨k + 1, by omega, by go_num, fun y hy => ?_, _, rfl⟩
            by_cases ey : y = k
            · rw [ey, ← HU.out, ← HV.out]; exact HE.out
            · exact HT.out y (by omega)
          case measure => simp [intOf]; omega
        · have hed : ((Tl ts u).r != (Tl ts v).l) = true := by simp [he]
          have hno : ¬ IsPer ts A B xs := fun h => he (by rw [HU.out, HV.out]; exact (HPER.out.1 h).2.1 k hlt)
          have HNO := Lib.hid hno
          clear he hno
          go_wp2
          go_big_quiet (fail)
          go_wp2
          go_ret
          rw [decide_eq_false HNO.out]
          exact ⟨rfl, by rw [World.drewN_drewN]; exact below_drewN hb1w _⟩
      · obtain rfl : k = B := by omega
        go_wp2
        go_loopw [10] (fun i wr => ∃ j : Nat, j ≤ A ∧ i = .int .i64 j ∧ ColsTo ts A k f j ∧ ∃ n, wr = w1.drewN n) (fun i _ => A - (intOf i).toNat)
        case atStart => exact ⟨0, by omega, rfl, fun y hy => by omega, n, rfl⟩
        case round =>
          obtain ⟨j, hj, rfl, hu0, n', rfl⟩ := hrel
          have HUU := Lib.hid hu0
          clear hu0
          by_cases hlt2 : j < A
          · have e0 : (k - 1) * A + A ≤ f.length := by
              have e9 : (k - 1) * A + A = k * A := by
                obtain ⟨m, rfl⟩ : ∃ m, k = m + 1 := ⟨k - 1, by omega⟩
                rw [Nat.succ_mul]; rfl
              rw [HLEN.out, Nat.mul_comm A k, e9]
              exact Nat.le_refl _
            have e3 : ((k : Int) - 1) * (A : Int) = (((k - 1) * A : Nat) : Int) := by
              have : ((k : Int) - 1) = ((k - 1 : Nat) : Int) := by omega
              rw [this]; norm_cast
            have e4 : 0 ≤ ((k : Int) - 1) * (A : Int) := by rw [e3]; omega
            have e5 : ((k : Int) - 1) * (A : Int) + (A : Int) ≤ (f.length : Int) := by rw [e3]; exact_mod_cast e0
            have E3 := Lib.hid e3
            have hkA : 1 ≤ k := hb1
            clear e3
            have x := HFF.out ((k - 1) * A + j) (by omega)
            have y := HFF.out j (by omega)
            obtain ⟨_, _, x2, _⟩ := HCC.out _ (HFI.out ((k - 1) * A + j) (by omega))
            obtain ⟨y0, _, _, _⟩ := HCC.out _ (HFI.out j (by omega))
            have xl := HFI.out ((k - 1) * A + j) (by omega)
            have yl := HFI.out j (by omega)
            obtain ⟨u, hu⟩ : ∃ u, u = At f ((k - 1) * A + j) := ⟨_, rfl⟩
            obtain ⟨v, hv⟩ : ∃ v, v = At f j := ⟨_, rfl⟩
            rw [← hu] at x x2 xl
            rw [← hv] at y y0 yl
            have HU := Lib.hid hu
            have HV := Lib.hid hv
            clear hu hv
            by_cases he : (Tl ts u).b = (Tl ts v).t
            · have hed : ((Tl ts u).b != (Tl ts v).t) = false := by simp [he]
              have HE := Lib.hid he
              clear he
              go_wp2
              go_big_quiet (fail)
              go_wp2
              go_roundw
              case rel =>
                refine ⟨j + 1, by omega, by go_num, fun y hy => ?_, _, rfl⟩
                by_cases ey : y = j
                · rw [ey, ← HU.out, ← HV.out]; exact HE.out
                · exact HUU.out y (by omega)
              case measure => simp [intOf]; omega
            · have hed : ((Tl ts u).b != (Tl ts v).t) = true := by simp [he]
              have hno : ¬ IsPer ts A k xs := fun h => he (by rw [HU.out, HV.out]; exact (HPER.out.1 h).2.2 j hlt2)
              have HNO := Lib.hid hno
              clear he hno
              go_wp2
              go_big_quiet (fail)
              go_wp2
              go_ret
              rw [decide_eq_false HNO.out]
              exact ⟨rfl, by rw [World.drewN_drewN]; exact below_drewN hb1w _⟩
          · obtain rfl : j = A := by omega
            go_wp2
            go_ret
            rw [decide_eq_true (HPER.out.2 ⟨HI.out, HT.out, HUU.out⟩)]
            exact ⟨rfl, below_drewN hb1w _⟩

  · have hno : ¬ IsPer ts a b xs := fun h => hI h.1
    rw [decide_eq_false hI] at hfill
    rw [decide_eq_false hno]
    have HFILL := Lib.hid hfill
    clear hfill hc hcf hI hno
    go_enter Try.func17, Try.ntmps17
    go_wp2_with fail
    refine HFILL.out.mono ?_
    rintro e w1 ⟨rfl, hb1w⟩
    go_wp2
    go_ret
    exact ⟨rfl, hb1w⟩

theorem implPeriodic (ad af : Option Addr) (c cf : Nat) (ts : List Tile) (a b : Int) (xs : List Int) (w : World) (hn : ts.length ≤ 1048576) (hf : xs.length ≤ 1048576) (hcap : xs.length ≤ cf)
    (hc : CellsAt w ad (wangs ts)) (hcf : CellsAt w af (ints xs)) :
    Calls Try.prog 19 #[.slice ad ts.length c, .int .i64 a, .int .i64 b, .slice af xs.length cf] w fun e w' => e = .returned (.bool (decide (IsPer ts a b xs))) ∧ Below w.heap.size w w' := by
  have hfill := implFill ad af c cf ts a b xs w hn hf hcap hc hcf
  by_cases hI : IsFill ts a b xs
  · rw [decide_eq_true hI] at hfill
    obtain ⟨A, rfl⟩ := Int.eq_ofNat_of_zero_le (show 0 ≤ a by have := hI.2.1.1.1; omega)
    obtain ⟨B, rfl⟩ := Int.eq_ofNat_of_zero_le (show 0 ≤ b by have := hI.2.1.2.1; omega)
    obtain ⟨ha1, ha2⟩ : 1 ≤ A ∧ A ≤ 4 := by have := hI.2.1.1; omega
    obtain ⟨hb1, hb2⟩ : 1 ≤ B ∧ B ≤ 4 := by have := hI.2.1.2; omega
    obtain ⟨f, hfe⟩ : ∃ f, f = xs.map Int.toNat := ⟨_, rfl⟩
    obtain ⟨hfn, hfi⟩ := hI.nats
    have hl0 := hI.2.2.1
    have hlx : xs.length = f.length := by rw [hfe]; simp
    have hlen : f.length = A * B := by rw [← hlx]; exact_mod_cast hl0
    rw [← hfe] at hfn hfi
    have hper : decide (IsPer ts A B xs) = decide (Closes ts A B f) := by
      rw [hfe]; exact decide_eq_decide.2 ⟨fun h => h.2, fun h => ⟨hI, h⟩⟩
    rw [hper]
    have hcl : ∀ w', Below w.heap.size w w' → Calls Try.prog 27 #[.slice ad ts.length c, .int .i64 A, .int .i64 B, .slice af xs.length cf] w' fun e w'' => e = .returned (.bool (decide (Closes ts A B f))) ∧ ∃ m, w'' = w'.drewN m := by
      intro w' hb
      rw [hlx]
      exact closes_any ad af c cf ts f A B w' hn ⟨ha1, ha2⟩ ⟨hb1, hb2⟩ hlen hfi (hc.below hb) (by rw [← hfn]; exact hcf.below hb)
    have HCL := Lib.hid hcl
    have HFILL := Lib.hid hfill
    clear hcl hfill hc hcf hI hfn hfi hlen hl0 hper hfe hlx
    go_enter Try.func19, Try.ntmps19
    go_wp2_with fail
    refine HFILL.out.mono ?_
    rintro e w1 ⟨rfl, hb1w⟩
    go_wp2_with fail
    refine (HCL.out w1 hb1w).mono ?_
    rintro e w2 ⟨rfl, m, rfl⟩
    go_wp2
    go_ret
    exact ⟨rfl, below_drewN hb1w _⟩
  · have hno : ¬ IsPer ts a b xs := fun h => hI h.1
    rw [decide_eq_false hI] at hfill
    rw [decide_eq_false hno]
    have HFILL := Lib.hid hfill
    clear hfill hc hcf hI hno
    go_enter Try.func19, Try.ntmps19
    go_wp2_with fail
    refine HFILL.out.mono ?_
    rintro e w1 ⟨rfl, hb1w⟩
    go_wp2
    go_ret
    exact ⟨rfl, hb1w⟩
end Go.Proofs.Ytjklclegkjnegaa
