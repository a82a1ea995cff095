/- HalfI: the walk of the program's HalvesOf. -/
import Derived.Test.YtcoggnoeafpgbaaAreaX
import Derived.Test.YtcoggnoeafpgbaaSubsW
import Derived.Test.YtcoggnoeafpgbaaHalf1
import Derived.Test.YtcoggnoeafpgbaaConnI
import Derived.Test.YtcoggnoeafpgbaaAllShift
import Derived.Test.YtcoggnoeafpgbaaAllReg
import Derived.Deep.RegionHeld3
namespace Go.Proofs.Ytcoggnoeafpgbaa
open Go.RowKit

theorem cls_pl (a : Nat) (l : List Nat) : cls (placesOf a l) = placeCells a l := by
  unfold cls placesOf placeCells
  rw [List.flatMap_map]
  rfl
theorem pair_made {w W : World} {e : Nat} {x y : Value} (h : W.heap = w.heap.push (.cells #[x, y] e (0, 0))) : W.ownsRow w.heap.size e 1 (.slice (some ⟨w.heap.size, 0, none⟩) 2 2) 2 [x, y] := by
  refine ⟨by simp, .inr ⟨w.heap.size, 2, #[x, y], rfl, Nat.le_refl _, ?_, Nat.le_refl _, by decide, by simp, by simp⟩⟩
  rw [h]; simp
theorem halves_none {B : Nat} {xs : List Int} (h : Halv B xs) (hn : ∀ j, j < 2 ^ ((smBits 36 (regMask B xs)).length - 1) → goodP B (smBits 36 (regMask B xs)) (2 * j + 1) = false) : halvesO B xs = none ∧ halvesL B xs = [] := by
  have e : halvesO B xs = none := by
    rw [halves_yes h]
    unfold halfC
    rw [find_none hn]
    rfl
  refine ⟨e, ?_⟩
  unfold halvesL
  rw [e]
theorem halves_some {B : Nat} {xs : List Int} (h : Halv B xs) {k m : Nat} (hk : k < 2 ^ ((smBits 36 (regMask B xs)).length - 1)) (hn : ∀ j, j < k → goodP B (smBits 36 (regMask B xs)) (2 * j + 1) = false) (hy : goodP B (smBits 36 (regMask B xs)) (2 * k + 1) = true)
    (hm : m = depTo (smBits 36 (regMask B xs)) (2 * k + 1) (smBits 36 (regMask B xs)).length) : halvesO B xs = some m ∧ halvesL B xs = [(m : Int), ((regMask B xs - m : Nat) : Int)] := by
  have e : halvesO B xs = some m := by
    rw [halves_yes h]
    unfold halfC
    rw [find_some hk hn hy, hm]
    rfl
  refine ⟨e, ?_⟩
  unfold halvesL
  rw [e]
def HalvAt (w : World) (o : Option Nat) (l : List Int) (e : Ending) (w' : World) : Prop :=
  ∃ ad' c', e = .returned (.tuple #[.slice ad' l.length c', .bool o.isSome]) ∧ w'.ownsRow w.heap.size 3 1 (.slice ad' l.length c') l.length (ints l) ∧ Below w.heap.size w w'

set_option maxRecDepth 100000 in
set_option maxHeartbeats 6400000 in
theorem implHalves_yes (B : Nat) (ad : Option Addr) (c : Nat) (xs : List Int) (w : World) (h : Halv (B : Int) xs) (hc : CellsAt w ad (ints xs)) :
    Calls Try.prog 7 #[.agg #[.int .i64 B, .slice ad xs.length c]] w (HalvAt w (halvesO B xs) (halvesL B xs)) := by
  have hr := h.1
  have hb1 : 1 ≤ B := by have := hr.1.1; omega
  have hb6 : B ≤ 6 := by have := hr.1.2; omega
  have hl6 : xs.length ≤ 6 := hr.2.1.2
  have har := fun w h => implArea (B : Int) ad c xs w (by omega) h
  have hmk := fun w h => implMask B ad c xs w hr h
  have hnone := halves_none h
  have hsome := fun k m h1 h2 h3 h4 => halves_some h (k := k) (m := m) h1 h2 h3 h4
  have hM := regMask_lt hr
  have hpl := place_lt hr
  have hn := area_places hr
  have ha : areaR (B : Int) xs = (areaTo xs xs.length : Nat) := if_pos hr
  rw [ha, hn] at har
  have h2 := h.2
  rw [hn] at h2
  clear ha hn hr h
  generalize regMask (B : Int) xs = M at hmk hnone hsome hM hpl har h2
  generalize halvesO (B : Int) xs = O at hnone hsome ⊢
  generalize halvesL (B : Int) xs = R at hnone hsome ⊢
  obtain ⟨h2, h16, hev⟩ := h2
  obtain ⟨p, T, hP⟩ : ∃ p T, smBits 36 M = p :: T := by
    cases hq : smBits 36 M with
    | nil => rw [hq] at h2; simp at h2
    | cons p T => exact ⟨p, T, rfl⟩
  obtain ⟨hp36, ⟨q0, hq0⟩, hand, hT, _⟩ := first_cell hP
  have hlow := i64_low hM hq0
  have hdp : ∀ k, k < (subL (M - 2 ^ p) 36).length → (subL (M - 2 ^ p) 36).length = 2 ^ ((smBits 36 M).length - 1) := fun k hk => by
    have q := (subL_dep (M - 2 ^ p) 36 k hk).2
    rw [hT] at q
    rw [q, hP]
    rfl
  have hlen : (subL (M - 2 ^ p) 36).length = 2 ^ ((smBits 36 M).length - 1) := hdp 0 (by rw [subL_length]; exact Nat.two_pow_pos _)
  rw [← hlen] at hnone hsome
  have hstep := fun k hk => half_step (k := k) hP hM ⟨hb1, hb6⟩ hpl hk
  have hM1 : M - 2 ^ p < 2 ^ 36 := Nat.lt_of_le_of_lt (Nat.sub_le _ _) hM
  have hTl : (smBits 36 M).length = T.length + 1 := by rw [hP]; rfl
  have hpc1 : pc (M - 2 ^ p) ≤ 16 := by
    have q := smBits_all (n := 36) hM1 (Nat.le_refl _)
    rw [hT] at q
    omega
  have hfl := (subL_small (m := M - 2 ^ p) hpc1 (Nat.le_refl 36)).2
  have hfp : 2 ^ p < 2 ^ 36 := Nat.pow_lt_pow_right (by decide) hp36
  have hsub := fun w => implSubs (M - 2 ^ p) 36 w hM1 (Nat.le_refl _) hpc1
  have h64M : M < 68719476736 := hM
  have hM64 : M < 9223372036854775808 := Nat.lt_trans hM (by decide)
  have hf64 : 2 ^ p < 9223372036854775808 := Nat.lt_trans hfp (by decide)
  have han1 : bits .andNot .i64 (M : Int) ((2 ^ p : Nat) : Int) = ((M - 2 ^ p : Nat) : Int) := by rw [i64_andNot_nat M (2 ^ p) hM64 hf64, hand]
  have hneg : wrap64 (-(M : Int)) = -(M : Int) := IntWalk.wrap64_in _ (by omega)
  rw [hTl] at har
  have hN2 : 2 ≤ T.length + 1 := by omega
  have hN16 : T.length + 1 ≤ 16 := by omega
  have hNev : (T.length + 1) % 2 = 0 := by omega
  clear hdp hlen hpl hq0 hand hT hTl hpc1 hM1 hp36 h2 h16 hev hP q0
  generalize T.length + 1 = N at har hN2 hN16 hNev hstep
  generalize subL (M - 2 ^ p) 36 = F at hnone hsome hstep hfl hsub
  generalize M - 2 ^ p = M1 at hsub han1
  generalize 2 ^ p = f at hstep hlow hfp hf64 han1
  have HAR := Lib.hid har
  have HMK := Lib.hid hmk
  have HNONE := Lib.hid hnone
  have HSOME := Lib.hid hsome
  have HSTEP := Lib.hid hstep
  have HSUB := Lib.hid hsub
  have HPL := Lib.hid (fun m w (h : m < 2 ^ 36) => places_any B m 36 w ⟨hb1, by omega⟩ h (by omega))
  have HC := Lib.hid hc
  have hNm : ((N : Int) % 2) = 0 := by omega
  have hmod : (((N : Int) % 2 != 0)) = false := by rw [hNm]; rfl
  have hf36 : f < 68719476736 := hfp
  clear har hmk hnone hsome hstep hsub hc hfp hM hNev
  obtain ⟨wA, hwA⟩ : ∃ wA, wA = w.alloc (.cells #[.int .i64 B, .slice ad xs.length c] 28) := ⟨_, rfl⟩
  have hbA : Below w.heap.size w wA := by rw [hwA]; exact (Below.refl _ _).alloc (Nat.le_refl _) _
  have hzA : wA.heap.size = w.heap.size + 1 := by rw [hwA]; simp
  have hblkA : wA.heap[w.heap.size]? = some (.cells #[.int .i64 B, .slice ad xs.length c] 28 (0, 0)) := by rw [hwA]; exact heap_alloc_new w _
  have HBA := Lib.hid hbA
  have HBLKA := Lib.hid hblkA
  have HWA := Lib.hid hwA
  have hszA := hbA.size
  unfold HalvAt
  have x00 : wA.cell? ⟨w.heap.size, 0, none⟩ = some (.int .i64 B) := by rw [cell_of_row wA _ 0 _ _ _ hblkA]; rfl
  have x01 : wA.cell? ⟨w.heap.size, 1, none⟩ = some (.slice ad xs.length c) := by rw [cell_of_row wA _ 1 _ _ _ hblkA]; rfl
  clear hbA hblkA hwA
  go_enter Try.func7, Try.ntmps7
  go_wp2_with fail
  rw [← HWA.out]
  go_wp2_with fail
  refine (HAR.out wA (HC.out.below HBA.out)).mono ?_
  rintro e w1 ⟨rfl, hb1'⟩
  have HB1 := Lib.hid (HBA.out.trans (hb1'.mono hszA))
  have HX1 := Lib.hid hb1'
  have hsz1 := HB1.out.size
  have hs1 := hb1'.size
  have hblk1 := (hb1'.block w.heap.size (by omega)).trans HBLKA.out
  have x10 : w1.cell? ⟨w.heap.size, 0, none⟩ = some (.int .i64 B) := by rw [cell_of_row w1 _ 0 _ _ _ hblk1]; rfl
  have x11 : w1.cell? ⟨w.heap.size, 1, none⟩ = some (.slice ad xs.length c) := by rw [cell_of_row w1 _ 1 _ _ _ hblk1]; rfl
  clear hblk1 hb1' x00 x01
  go_wp2_with fail
  refine (HMK.out w1 (HC.out.below HB1.out)).mono ?_
  rintro e w2 ⟨rfl, hb2⟩
  have HB2 := Lib.hid (HB1.out.trans (hb2.mono hsz1))
  have HX2 := Lib.hid (HX1.out.trans (hb2.mono hs1))
  have hsz2 := HB2.out.size
  have hs2 := HX2.out.size
  clear hb2 x10 x11
  go_wp2_with fail
  refine (HSUB.out w2).mono ?_
  rintro e w4 ⟨a4, c4, rfl, ho4, hb4⟩
  have HB4 := Lib.hid (HB2.out.trans (hb4.mono hsz2))
  have HX4 := Lib.hid (HX2.out.trans (hb4.mono hs2))
  have hsz4 := HB4.out.size
  have hs4 := HX4.out.size
  have HF4 := Lib.hid (ownsRow_cellsAt ho4)
  clear hb4 ho4
  go_wp2
  go_loopw [34] (fun i wr => ∃ k : Nat, k ≤ F.length ∧ i = .int .i64 k ∧ (∀ j, j < k → goodP B (smBits 36 M) (2 * j + 1) = false) ∧ Below w4.heap.size w4 wr) (fun i _ => F.length - (intOf i).toNat)
  case atStart => exact ⟨0, Nat.zero_le _, rfl, (fun j hj => by omega), Below.refl _ _⟩
  case round =>
    obtain ⟨k, hk, rfl, hno, hb⟩ := hrel
    have HNO := Lib.hid hno
    have HB := Lib.hid hb
    have hszr := hb.size
    have HXR := Lib.hid (HX4.out.trans (hb.mono hs4))
    clear hno hb
    by_cases hlt : k < F.length
    · obtain ⟨g, off, hga, hg, hcc⟩ := HF4.out.open (by rw [ints_length, zs_length]; omega)
      have x0 := (HB.out.cell (p := ⟨g, off + k, none⟩) hg).trans (hcc k _ (zs_at F k hlt))
      obtain ⟨u, m, s, t, e1, hu, e2, hm, e3, e4, hrm, e5, e6, e7, e8, hfit, hs36, ht36⟩ := HSTEP.out k hlt
      rw [e1] at x0
      have i1 : (k : Int) < (F.length : Int) := by omega
      have hblkr := (HXR.out.block w.heap.size (by omega)).trans HBLKA.out
      have y0 : wr.cell? ⟨w.heap.size, 0, none⟩ = some (.int .i64 B) := by rw [cell_of_row wr _ 0 _ _ _ hblkr]; rfl
      have hor : bits .or .i64 (u : Int) (f : Int) = (m : Int) := by rw [i64_or_nat u f (Nat.lt_trans hu (by decide)) hf64, e2]
      have hm36 : m < 68719476736 := hm
      have hwm : IntKind.u64.wrap (m : Int) = (m : Int) := IntWalk.u64_in _ (by omega)
      have han2 : bits .andNot .i64 (M : Int) (m : Int) = ((M - m : Nat) : Int) := by rw [i64_andNot_nat M m hM64 (Nat.lt_trans hm (by decide)), e4]
      have hone := onesPc m hm36 wr
      rw [e5] at hone
      have HONE := Lib.hid hone
      have HPM := Lib.hid (fun w => HPL.out m w hm)
      have HPR := Lib.hid (fun w => HPL.out (M - m) w hrm)
      have l6 : (smBits 36 m).length = s.length := by rw [← e6, placesOf_length]
      have l7 : (smBits 36 (M - m)).length = t.length := by rw [← e7, placesOf_length]
      have c6 : placeCells B (smBits 36 m) = cls s := by rw [← cls_pl, e6]
      have c7 : placeCells B (smBits 36 (M - m)) = cls t := by rw [← cls_pl, e7]
      rw [l6, c6] at HPM
      rw [l7, c7] at HPR
      have HGOOD := Lib.hid e8
      have HFIT := Lib.hid hfit
      have HEM := Lib.hid e3
      have hrm36 : M - m < 68719476736 := hrm
      subst hga
      clear hcc e1 hu e2 hm e3 e4 hrm e5 e6 e7 e8 hfit hone l6 l7 c6 c7 hblkr
      generalize hrr : M - m = r at han2 HPR hrm36
      have HRR := Lib.hid hrr
      clear hrr
      by_cases hq : s.length = N / 2
      · have d0 : (((s.length : Nat) : Int) != (N : Int) / 2) = false := by rw [hq]; simp
        have hs1 : 1 ≤ s.length := by omega
        have HHG := Lib.hid (fun ad c b w hb hc => implHangs ad c s b w (by omega) (by omega) HFIT.out hb hc)
        cases hh : hangsB s with
        | false =>
          have HNB := Lib.hid (show goodP B (smBits 36 M) (2 * k + 1) = false by rw [HGOOD.out]; unfold goodC; rw [hh]; simp)
          have HIF := Lib.hid (show ¬ Hangs s by rw [← hangsB_iff, hh]; exact Bool.noConfusion)
          clear hh hq
          go_wp2_with fail
          refine HONE.out.mono ?_
          rintro e w5 ⟨rfl, rfl⟩
          go_wp2_with fail
          refine (HPM.out w5).mono ?_
          rintro e w6 ⟨v6, rfl, ho6, hb6⟩
          obtain ⟨a6, c6, rfl, hc6⟩ := ownsRow_cells ho6
          have HB6 := Lib.hid (HB.out.trans (hb6.mono hszr))
          have HC6 := Lib.hid hc6
          have hsz6 := HB6.out.size
          clear ho6 hb6 hc6 x0 y0
          go_wp2_with fail
          refine (HHG.out _ _ false w6 ⟨fun h => Bool.noConfusion h, fun h => absurd h HIF.out⟩ HC6.out).mono ?_
          rintro e w7 ⟨rfl, hb7⟩
          have HB7 := Lib.hid (HB6.out.trans (hb7.mono hsz6))
          clear hb7
          go_wp2
          go_roundw
          case rel =>
            refine ⟨k + 1, hlt, by go_num, fun j hj => ?_, HB7.out⟩
            by_cases ej : j = k
            · rw [ej]; exact HNB.out
            · exact HNO.out j (by omega)
          case measure => simp [intOf]; omega
        | true =>
          have HIF := Lib.hid (show Hangs s from hangsB_iff.1 hh)
          have HCG := Lib.hid (fun a1 c1 a2 c2 w h1 h2 => implCong a1 a2 c1 c2 s t w (by omega) (by omega) h1 h2)
          cases hcg : decide (Cong s t) with
          | false =>
            have HNB := Lib.hid (show goodP B (smBits 36 M) (2 * k + 1) = false by rw [HGOOD.out]; unfold goodC; rw [hcg]; simp)
            rw [hcg] at HCG
            clear hh hq hcg
            go_wp2_with fail
            refine HONE.out.mono ?_
            rintro e w5 ⟨rfl, rfl⟩
            go_wp2_with fail
            refine (HPM.out w5).mono ?_
            rintro e w6 ⟨v6, rfl, ho6, hb6⟩
            obtain ⟨a6, c6, rfl, hc6⟩ := ownsRow_cells ho6
            have HB6 := Lib.hid (HB.out.trans (hb6.mono hszr))
            have HC6 := Lib.hid hc6
            have hsz6 := HB6.out.size
            clear ho6 hb6 hc6 x0 y0
            go_wp2_with fail
            refine (HHG.out _ _ true w6 ⟨fun _ => HIF.out, fun _ => rfl⟩ HC6.out).mono ?_
            rintro e w7 ⟨rfl, hb7⟩
            have HB7 := Lib.hid (HB6.out.trans (hb7.mono hsz6))
            have hsz7 := HB7.out.size
            have HC7 := Lib.hid (HC6.out.below hb7)
            have hblk7 := ((HX4.out.trans (HB7.out.mono hs4)).block w.heap.size (by omega)).trans HBLKA.out
            have y7 : w7.cell? ⟨w.heap.size, 0, none⟩ = some (.int .i64 B) := by rw [cell_of_row w7 _ 0 _ _ _ hblk7]; rfl
            clear hb7 hblk7
            go_wp2_with fail
            refine (HPR.out w7).mono ?_
            rintro e w8 ⟨v8, rfl, ho8, hb8⟩
            obtain ⟨a8, c8, rfl, hc8⟩ := ownsRow_cells ho8
            have HB8 := Lib.hid (HB7.out.trans (hb8.mono hsz7))
            have HC8 := Lib.hid hc8
            have HC78 := Lib.hid (HC7.out.below hb8)
            have hsz8 := HB8.out.size
            clear ho8 hb8 hc8 y7
            go_wp2_with fail
            refine (HCG.out _ _ _ _ w8 HC78.out HC8.out).mono ?_
            rintro e w9 ⟨rfl, hb9⟩
            have HB9 := Lib.hid (HB8.out.trans (hb9.mono hsz8))
            clear hb9
            go_wp2
            go_roundw
            case rel =>
              refine ⟨k + 1, hlt, by go_num, fun j hj => ?_, HB9.out⟩
              by_cases ej : j = k
              · rw [ej]; exact HNB.out
              · exact HNO.out j (by omega)
            case measure => simp [intOf]; omega
          | true =>
            have HYES := Lib.hid (show goodP B (smBits 36 M) (2 * k + 1) = true by rw [HGOOD.out]; unfold goodC; rw [hcg, hh, decide_eq_true hq]; rfl)
            rw [hcg] at HCG
            clear hh hq hcg
            go_wp2_with fail
            refine HONE.out.mono ?_
            rintro e w5 ⟨rfl, rfl⟩
            go_wp2_with fail
            refine (HPM.out w5).mono ?_
            rintro e w6 ⟨v6, rfl, ho6, hb6⟩
            obtain ⟨a6, c6, rfl, hc6⟩ := ownsRow_cells ho6
            have HB6 := Lib.hid (HB.out.trans (hb6.mono hszr))
            have HC6 := Lib.hid hc6
            have hsz6 := HB6.out.size
            clear ho6 hb6 hc6 x0 y0
            go_wp2_with fail
            refine (HHG.out _ _ true w6 ⟨fun _ => HIF.out, fun _ => rfl⟩ HC6.out).mono ?_
            rintro e w7 ⟨rfl, hb7⟩
            have HB7 := Lib.hid (HB6.out.trans (hb7.mono hsz6))
            have hsz7 := HB7.out.size
            have HC7 := Lib.hid (HC6.out.below hb7)
            have hblk7 := ((HX4.out.trans (HB7.out.mono hs4)).block w.heap.size (by omega)).trans HBLKA.out
            have y7 : w7.cell? ⟨w.heap.size, 0, none⟩ = some (.int .i64 B) := by rw [cell_of_row w7 _ 0 _ _ _ hblk7]; rfl
            clear hb7 hblk7
            go_wp2_with fail
            refine (HPR.out w7).mono ?_
            rintro e w8 ⟨v8, rfl, ho8, hb8⟩
            obtain ⟨a8, c8, rfl, hc8⟩ := ownsRow_cells ho8
            have HB8 := Lib.hid (HB7.out.trans (hb8.mono hsz7))
            have HC8 := Lib.hid hc8
            have HC78 := Lib.hid (HC7.out.below hb8)
            have hsz8 := HB8.out.size
            clear ho8 hb8 hc8 y7
            go_wp2_with fail
            refine (HCG.out _ _ _ _ w8 HC78.out HC8.out).mono ?_
            rintro e w9 ⟨rfl, hb9⟩
            have HB9 := Lib.hid (HB4.out.trans ((HB8.out.trans (hb9.mono hsz8)).mono hsz4))
            have hsz9 := HB9.out.size
            clear hb9
            obtain ⟨hO, hR⟩ := HSOME.out k m hlt HNO.out HYES.out HEM.out
            subst hO
            rw [HRR.out] at hR
            subst hR
            go_wp2
            go_ret2
            exact ⟨_, _, rfl, ownsRow_rebase (pair_made rfl) hsz9, HB9.out.alloc hsz9 _⟩
      · have d0 : (((s.length : Nat) : Int) != (N : Int) / 2) = true := by simp; omega
        have HNB := Lib.hid (show goodP B (smBits 36 M) (2 * k + 1) = false by rw [HGOOD.out]; unfold goodC; rw [decide_eq_false hq]; rfl)
        clear hq
        go_wp2_with fail
        refine HONE.out.mono ?_
        rintro e w5 ⟨rfl, rfl⟩
        go_wp2
        go_roundw
        case rel =>
          refine ⟨k + 1, hlt, by go_num, fun j hj => ?_, HB.out⟩
          by_cases ej : j = k
          · rw [ej]; exact HNB.out
          · exact HNO.out j (by omega)
        case measure => simp [intOf]; omega
    · obtain rfl : k = F.length := by omega
      obtain ⟨hO, hR⟩ := HNONE.out HNO.out
      subst hO
      subst hR
      go_wp2
      go_ret2
      exact ⟨none, 0, rfl, World.ownsRow_nil _ _ _ _, HB4.out.trans (HB.out.mono hsz4)⟩
end Go.Proofs.Ytcoggnoeafpgbaa
