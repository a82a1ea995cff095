/- PackSW: the walk of the reference's l20Pack, LargestPacking and CountPacked. -/
import Derived.Test.YtcoggnoeafpgbaaGreatPacks0
import Derived.Test.YtcoggnoeafpgbaaGreatAreaW
import Derived.Test.YtcoggnoeafpgbaaGreatBlocks
import Derived.Test.YtcoggnoeafpgbaaGreatAllFrame
import Derived.Test.YtcoggnoeafpgbaaGreatPut0
import Derived.Deep.RegionHeld3
import Derived.BigRegion
import Derived.IntWalk
namespace Go.Proofs.YtcoggnoeafpgbaaGreat
open Go.RowKit

theorem packS_drop {A : List Int} {i : Nat} (h : i < A.length) (used : Nat) (best : List Int) : packS (A.drop i) used best = if A[i].toNat &&& used = 0 then packS (A.drop (i + 1)) used (if best.length < (A[i] :: packL (A.drop (i + 1)) (used ||| A[i].toNat)).length then A[i] :: packL (A.drop (i + 1)) (used ||| A[i].toNat) else best) else packS (A.drop (i + 1)) used best := by
  rw [List.drop_eq_getElem_cons h, packS, packS_nil]
theorem one_made {w W : World} {e : Nat} {x : Value} (h : W.heap = w.heap.push (.cells #[x] e (0, 0))) : W.ownsRow w.heap.size e 1 (.slice (some ⟨w.heap.size, 0, none⟩) 1 1) 1 [x] := by
  refine ⟨by simp, .inr ⟨w.heap.size, 1, #[x], rfl, Nat.le_refl _, ?_, Nat.le_refl _, by decide, by simp, by simp⟩⟩
  rw [h]; simp

set_option maxRecDepth 100000 in
set_option maxHeartbeats 3200000 in
theorem l20Pack_any (A : List Int) (aa : Option Addr) (ca : Nat) (hlA : A.length ≤ 1048575) (hs : ∀ v ∈ A, Small v) :
    ∀ (n at0 used : Nat) (w : World), A.length < at0 + n → at0 ≤ A.length → used < 68719476736 → CellsAt w aa (ints A) →
      Calls Tryz.prog 42 #[.slice aa A.length ca, .int .i64 at0, .int .i64 used] w fun e w' => ∃ ad' cap', e = .returned (.slice ad' (packL (A.drop at0) used).length cap') ∧
        w'.ownsRow w.heap.size 3 1 (.slice ad' (packL (A.drop at0) used).length cap') (packL (A.drop at0) used).length (ints (packL (A.drop at0) used)) ∧ Below w.heap.size w w' := by
  have HS := Lib.hid hs
  clear hs
  intro n
  induction n with
  | zero =>
    intro at0 used w hn hi hu hc
    omega
  | succ n ih =>
    intro at0 used w hn hi hu hc
    have HIH := Lib.hid ih
    have HC := Lib.hid hc
    clear ih hc
    rw [← packS_nil (A.drop at0) used]
    have hbb : Below w.heap.size w (w.alloc (.cells #[] 3)) := (Below.refl _ _).alloc (Nat.le_refl _) _
    have HBB := Lib.hid hbb
    have HOB := Lib.hid (ownsRow_empty w 3 1)
    clear hbb
    go_enter Tryz.func42, Tryz.ntmps42
    go_wp2
    go_loopw [7, 8] (fun bv iv wr => ∃ (k : Nat) (l : List Int) (av : Option Addr) (cv : Nat), at0 ≤ k ∧ k ≤ A.length ∧ iv = .int .i64 k ∧ bv = .slice av l.length cv ∧ l.length ≤ 1048576 ∧
      wr.ownsRow w.heap.size 3 1 (.slice av l.length cv) l.length (ints l) ∧ Below w.heap.size w wr ∧ packS (A.drop k) used l = packS (A.drop at0) used []) (fun _ iv _ => A.length - (intOf iv).toNat)
    case atStart => exact ⟨at0, [], _, _, Nat.le_refl _, hi, rfl, rfl, Nat.zero_le _, HOB.out, HBB.out, rfl⟩
    case round =>
      obtain ⟨k, l, av, cv, hk0, hk, rfl, rfl, hll, hown, hb, hpk⟩ := hrel
      obtain ⟨wo, rfl⟩ : ∃ wo : World, wo = wr := ⟨_, rfl⟩
      have HOWN := Lib.hid hown
      have HB := Lib.hid hb
      have HPK := Lib.hid hpk
      have hsz := hb.size
      by_cases hlt : k < A.length
      · have i1 : (k : Int) < (A.length : Int) := by omega
        have HCW := Lib.hid (HC.out.below hb)
        obtain ⟨g, off, hga, hg, hcc⟩ := HCW.out.open (by rw [ints_length]; omega)
        have va := hcc k _ (ints_at A k hlt)
        have hsm := HS.out _ (List.getElem_mem hlt)
        have hpd := packS_drop hlt used l
        have HRCC := Lib.hid (fun x => Nat.le_trans (packL_le (A.drop (k + 1)) x) (show (A.drop (k + 1)).length ≤ 1048574 by rw [List.length_drop]; omega))
        have e1 : IntKind.i64.wrap ((k : Int) + 1) = (k : Int) + 1 := by rw [IntWalk.i64_left]; exact IntWalk.wrap64_in _ (by omega)
        clear hown hb hpk hcc
        subst hga
        generalize A[k] = v at va hsm hpd
        obtain ⟨m, rfl⟩ : ∃ m : Nat, v = (m : Int) := ⟨v.toNat, by have := hsm.1; omega⟩
        rw [Int.toNat_natCast] at hpd
        have hm2 : m < 68719476736 := by have := hsm.2; omega
        have hand := i64_and_nat m used (by omega) (by omega)
        clear hsm
        by_cases hq : m &&& used = 0
        · rw [hq] at hand
          rw [if_pos hq] at hpd
          have hor : used ||| m < 68719476736 := Nat.or_lt_two_pow (n := 36) hu hm2
          have horr := i64_or_nat used m (by omega) (by omega)
          have hrec := fun w' h => HIH.out (k + 1) (used ||| m) w' (by omega) hlt hor h
          rw [show ((k + 1 : Nat) : Int) = (k : Int) + 1 from by norm_cast] at hrec
          have HREC := Lib.hid hrec
          have hrl := HRCC.out (used ||| m)
          generalize packL (A.drop (k + 1)) (used ||| m) = R at hpd hrl HREC
          have HPD := Lib.hid hpd
          have hir := ints_length R
          clear hrec hpd hq
          go_wp2
          have HB1 := Lib.hid (show Below wo.heap.size wo (wo.alloc (.cells #[.int .i64 (m : Int)] 3)).drew from ((Below.refl wo.heap.size wo).alloc (Nat.le_refl _) _).drew)
          have HBD := Lib.hid (show Below wo.heap.size wo wo.drew from (Below.refl wo.heap.size wo).drew)
          have HO1 := Lib.hid (show (wo.alloc (.cells #[.int .i64 (m : Int)] 3)).drew.ownsRow wo.heap.size 3 1 (.slice (some ⟨wo.heap.size, 0, none⟩) 1 1) 1 [.int .i64 (m : Int)] from one_made (by rfl))
          go_region_held3 (fun w' => w'.cell? ⟨g, off + k, none⟩ = some (.int .i64 (m : Int))) (first | (go_keep; done) | exact (B4.cell (p := ⟨g, off + k, none⟩) hg).trans va | exact (B3.cell (p := ⟨g, off + k, none⟩) hg).trans va)
            (first
              | (go_at_call 42; refine (HREC.out _ (by first | exact HCW.out.below HB1.out | exact HCW.out.below HBD.out)).mono ?_; rintro e w3 ⟨a3, c3, rfl, ho3, hb3⟩; have B3 : Below wo.heap.size wo w3 := (by first | exact HB1.out.trans (hb3.mono HB1.out.size) | exact HBD.out.trans hb3); have hz3 := B3.size; have hnil3 := (ownsRow_le_cap ho3).2; have HC3 := Lib.hid (ownsRow_cellsAt ho3); (try have HO3 := Lib.hid (ownsRow_far_below HO1.out hb3 (Nat.le_refl _))))
              | (have q3 := HO3.out; refine step_appN rfl (.tmp 29) (.tmp 39) 22 rfl wo.heap.size 3 (.int .i64 0) 1 8 Tryz.elemInt (.slice (some ⟨wo.heap.size, 0, none⟩) 1 1) 1 [.int .i64 (m : Int)] (by rfl) q3 a3 R.length c3 (ints R) (by rfl) hnil3 (by omega) HC3.out (ints_one _) (by unfold maxLen; omega) (by omega) (by omega) ?_; intro a4 c4 w4 p1 p2 p3; have B4 : Below wo.heap.size wo w4 := B3.trans p2; have hz4 := B4.size)
              | (have q4 : (w3.alloc (.cells #[.int .i64 (m : Int)] 3)).ownsRow wo.heap.size 3 1 (.slice (some ⟨w3.heap.size, 0, none⟩) 1 1) 1 [.int .i64 (m : Int)] := ownsRow_rebase (one_made (w := w3) (by rfl)) hz3; have b4 : Below w3.heap.size w3 (w3.alloc (.cells #[.int .i64 (m : Int)] 3)) := (Below.refl _ _).alloc (Nat.le_refl _) _; have k4 := HC3.out.below b4; have z4 := b4.size; refine step_appN rfl (.tmp 29) (.tmp 39) 22 rfl wo.heap.size 3 (.int .i64 0) 1 8 Tryz.elemInt (.slice (some ⟨w3.heap.size, 0, none⟩) 1 1) 1 [.int .i64 (m : Int)] (by rfl) q4 a3 R.length c3 (ints R) (by rfl) hnil3 (by omega) k4 (ints_one _) (by unfold maxLen; omega) (by omega) (Nat.le_trans hz3 z4) ?_; intro a4 c4 w4 p1 p2 p3; have B4 : Below wo.heap.size wo w4 := (B3.trans (b4.mono hz3)).trans p2; have hz4 := B4.size))
          all_goals (have HP1 := Lib.hid p1; have HB4 := Lib.hid (HB.out.trans (B4.mono hsz)); have HOW4 := Lib.hid (ownsRow_far_below HOWN.out B4 (Nat.le_refl _)); clear p1 p2 p3 B4)
          all_goals (
            by_cases hq2 : l.length < 1 + R.length
            · have g1 : decide ((l.length : Int) < 1 + (R.length : Int)) = true := decide_eq_true (by omega)
              have g2 : decide (l.length < 1 + R.length) = true := decide_eq_true hq2
              have hpd := HPD.out
              rw [if_pos (by rw [List.length_cons]; omega)] at hpd
              have HPD2 := Lib.hid hpd
              clear hpd hq2
              go_wp2
              go_roundw
              case rel =>
                have e : ((m : Int) :: R).length = 1 + R.length := by rw [List.length_cons, Nat.add_comm]
                refine ⟨k + 1, (m : Int) :: R, a4, c4, by omega, hlt, by go_num, by rw [e], by rw [e]; omega, ?_, HB4.out, by rw [← HPD2.out]; exact HPK.out⟩
                rw [e]
                exact ownsRow_rebase HP1.out hsz
              case measure => simp [intOf]; omega
            · have g1 : decide ((l.length : Int) < 1 + (R.length : Int)) = false := decide_eq_false (by omega)
              have g2 : decide (l.length < 1 + R.length) = false := decide_eq_false hq2
              have hpd := HPD.out
              rw [if_neg (by rw [List.length_cons]; omega)] at hpd
              have HPD2 := Lib.hid hpd
              clear hpd hq2
              go_wp2
              go_roundw
              case rel => exact ⟨k + 1, l, av, cv, by omega, hlt, by go_num, rfl, hll, HOW4.out, HB4.out, by rw [← HPD2.out]; exact HPK.out⟩
              case measure => simp [intOf]; omega)
        · obtain ⟨q, hqd⟩ : ∃ q, q = m &&& used := ⟨_, rfl⟩
          rw [if_neg hq] at hpd
          rw [← hqd] at hand hq
          have he : ((q : Int) != 0) = true := by simp; omega
          have HPD := Lib.hid hpd
          clear hpd hq hqd
          go_wp2
          go_roundw
          case rel => exact ⟨k + 1, l, av, cv, by omega, hlt, by go_num, rfl, hll, HOWN.out, HB.out, by rw [← HPD.out]; exact HPK.out⟩
          case measure => simp [intOf]; omega
      · obtain rfl : k = A.length := by omega
        have hle : l = packS (A.drop at0) used [] := by rw [← hpk, List.drop_length]; rfl
        have HLE := Lib.hid hle
        clear hown hb hpk hle HPK
        go_wp2
        go_ret
        rw [← HLE.out]
        exact ⟨av, cv, rfl, HOWN.out, HB.out⟩

set_option maxRecDepth 100000 in
set_option maxHeartbeats 1600000 in
theorem specLP_yes (B : Nat) (ad : Option Addr) (c : Nat) (xs : List Int) (sa : Option Addr) (cs : Nat) (ps : List (List Cl)) (w : World) (hn : xs.length ≤ 1048576) (hnp : ps.length ≤ 1048576) (hl : ∀ p ∈ ps, p.length ≤ 1048576) (hc : CellsAt w ad (ints xs)) (hcp : ShpsAt w sa ps) (hs : SmallP (B : Int) xs ps) :
    Calls Tryz.prog 14 #[.agg #[.int .i64 B, .slice ad xs.length c], .slice sa ps.length cs] w fun e w' => ∃ ad' cap', e = .returned (.tuple #[.slice ad' (packL (allL B xs ps) 0).length cap', .bool true]) ∧
      w'.ownsRow w.heap.size 3 1 (.slice ad' (packL (allL B xs ps) 0).length cap') (packL (allL B xs ps) 0).length (ints (packL (allL B xs ps) 0)) ∧ Below w.heap.size w w' := by
  have hsm := fun w' h1 h2 => specFine (B : Int) ad c xs sa cs ps w' hn hnp hl h1 h2
  rw [decide_eq_true hs] at hsm
  obtain ⟨⟨hr, hp⟩, ha⟩ := hs
  have HAL := Lib.hid (fun w' h1 h2 => specAll B ad c xs sa cs ps w' hr hp h1 h2)
  have hlen := allL_length hr hp
  have HSM := Lib.hid (allL_small hr ps)
  have HC := Lib.hid hc
  have HCP := Lib.hid hcp
  have HISM := Lib.hid hsm
  clear hc hcp hl hsm hr hp ha
  generalize allL B xs ps = A at HAL hlen HSM ⊢
  obtain ⟨wA, hwA⟩ : ∃ wA, wA = w.alloc (.cells #[.int .i64 B, .slice ad xs.length c] 29) := ⟨_, rfl⟩
  have hbA : Below w.heap.size w wA := by rw [hwA]; exact (Below.refl _ _).alloc (Nat.le_refl _) _
  have hzA : wA.heap.size = w.heap.size + 1 := by rw [hwA]; simp
  have hblkA : wA.heap[w.heap.size]? = some (.cells #[.int .i64 B, .slice ad xs.length c] 29 (0, 0)) := by rw [hwA]; exact heap_alloc_new w _
  have HBA := Lib.hid hbA
  have HBLKA := Lib.hid hblkA
  have HWA := Lib.hid hwA
  have hszA := hbA.size
  clear hbA hblkA hwA
  go_enter Tryz.func14, Tryz.ntmps14
  go_wp2_with fail
  rw [← HWA.out]
  refine (HISM.out wA (HC.out.below HBA.out) (HCP.out.below HBA.out)).mono ?_
  rintro e w1 ⟨rfl, hb1⟩
  have HB1 := Lib.hid (HBA.out.trans (hb1.mono hszA))
  have hsz1 := HB1.out.size
  have hblk1 := (hb1.block w.heap.size (by omega)).trans HBLKA.out
  have x10 : w1.cell? ⟨w.heap.size, 0, none⟩ = some (.int .i64 B) := by rw [cell_of_row w1 _ 0 _ _ _ hblk1]; rfl
  have x11 : w1.cell? ⟨w.heap.size, 1, none⟩ = some (.slice ad xs.length c) := by rw [cell_of_row w1 _ 1 _ _ _ hblk1]; rfl
  clear hblk1 hb1
  go_wp2_with fail
  refine (HAL.out w1 (HC.out.below HB1.out) (HCP.out.below HB1.out)).mono ?_
  rintro e w2 ⟨a2, c2, rfl, ho2, hb2⟩
  have HB2 := Lib.hid (HB1.out.trans (hb2.mono hsz1))
  have hsz2 := HB2.out.size
  have HREC := Lib.hid (l20Pack_any A a2 c2 (by omega) HSM.out (A.length + 1) 0 0 w2 (by omega) (Nat.zero_le _) (by decide) (ownsRow_cellsAt ho2))
  clear hb2 ho2 x10 x11
  go_wp2_with fail
  refine HREC.out.mono ?_
  rintro e w3 ⟨a3, c3, rfl, ho3, hb3⟩
  have HO3 := Lib.hid (ownsRow_rebase ho3 hsz2)
  have HB3 := Lib.hid (HB2.out.trans (hb3.mono hsz2))
  clear ho3 hb3
  go_wp2
  go_ret2
  exact ⟨a3, c3, rfl, HO3.out, HB3.out⟩

def lpR (b : Int) (xs : List Int) (ps : List (List Cl)) : List Int := if SmallP b xs ps then packL (allL b.toNat xs ps) 0 else []

set_option maxRecDepth 100000 in
set_option maxHeartbeats 1600000 in
theorem specLP (b : Int) (ad : Option Addr) (c : Nat) (xs : List Int) (sa : Option Addr) (cs : Nat) (ps : List (List Cl)) (w : World) (hn : xs.length ≤ 1048576) (hnp : ps.length ≤ 1048576) (hl : ∀ p ∈ ps, p.length ≤ 1048576) (hc : CellsAt w ad (ints xs)) (hcp : ShpsAt w sa ps) :
    Calls Tryz.prog 14 #[.agg #[.int .i64 b, .slice ad xs.length c], .slice sa ps.length cs] w fun e w' => ∃ ad' cap', e = .returned (.tuple #[.slice ad' (lpR b xs ps).length cap', .bool (decide (SmallP b xs ps))]) ∧
      w'.ownsRow w.heap.size 3 1 (.slice ad' (lpR b xs ps).length cap') (lpR b xs ps).length (ints (lpR b xs ps)) ∧ Below w.heap.size w w' := by
  by_cases hs : SmallP b xs ps
  · obtain ⟨B, rfl⟩ := Int.eq_ofNat_of_zero_le (by have := hs.1.1.1.1; omega : 0 ≤ b)
    rw [decide_eq_true hs, show lpR B xs ps = packL (allL B xs ps) 0 from if_pos hs]
    exact specLP_yes B ad c xs sa cs ps w hn hnp hl hc hcp hs
  · rw [decide_eq_false hs, show lpR b xs ps = [] from if_neg hs]
    have hsm := fun w' h1 h2 => specFine b ad c xs sa cs ps w' hn hnp hl h1 h2
    rw [decide_eq_false hs] at hsm
    have HC := Lib.hid hc
    have HCP := Lib.hid hcp
    have HISM := Lib.hid hsm
    clear hc hcp hl hsm hs
    obtain ⟨wA, hwA⟩ : ∃ wA, wA = w.alloc (.cells #[.int .i64 b, .slice ad xs.length c] 29) := ⟨_, rfl⟩
    have hbA : Below w.heap.size w wA := by rw [hwA]; exact (Below.refl _ _).alloc (Nat.le_refl _) _
    have HBA := Lib.hid hbA
    have HWA := Lib.hid hwA
    have hszA := hbA.size
    clear hbA hwA
    go_enter Tryz.func14, Tryz.ntmps14
    go_wp2_with fail
    rw [← HWA.out]
    refine (HISM.out wA (HC.out.below HBA.out) (HCP.out.below HBA.out)).mono ?_
    rintro e w1 ⟨rfl, hb1⟩
    have HB1 := Lib.hid (HBA.out.trans (hb1.mono hszA))
    have HOE := Lib.hid (ownsRow_rebase (ownsRow_empty w1 3 1) HB1.out.size)
    have HBE := Lib.hid (HB1.out.trans (((Below.refl w1.heap.size w1).alloc (Nat.le_refl _) (.cells #[] 3)).mono HB1.out.size))
    clear hb1
    go_wp2
    go_ret2
    exact ⟨_, _, rfl, HOE.out, HBE.out⟩

set_option maxRecDepth 100000 in
set_option maxHeartbeats 1600000 in
theorem specCP (b : Int) (ad : Option Addr) (c : Nat) (xs : List Int) (sa : Option Addr) (cs : Nat) (ps : List (List Cl)) (w : World) (hn : xs.length ≤ 1048576) (hnp : ps.length ≤ 1048576) (hl : ∀ p ∈ ps, p.length ≤ 1048576) (hc : CellsAt w ad (ints xs)) (hcp : ShpsAt w sa ps) :
    Calls Tryz.prog 8 #[.agg #[.int .i64 b, .slice ad xs.length c], .slice sa ps.length cs] w fun e w' => e = .returned (.int .i64 (if SmallP b xs ps then ((lpR b xs ps).length : Int) else -1)) ∧ Below w.heap.size w w' := by
  have hlp := fun w' h1 h2 => specLP b ad c xs sa cs ps w' hn hnp hl h1 h2
  have HC := Lib.hid hc
  have HCP := Lib.hid hcp
  obtain ⟨wA, hwA⟩ : ∃ wA, wA = w.alloc (.cells #[.int .i64 b, .slice ad xs.length c] 29) := ⟨_, rfl⟩
  have hbA : Below w.heap.size w wA := by rw [hwA]; exact (Below.refl _ _).alloc (Nat.le_refl _) _
  have HBA := Lib.hid hbA
  have HWA := Lib.hid hwA
  have hszA := hbA.size
  clear hc hcp hbA hwA
  generalize lpR b xs ps = L at hlp ⊢
  by_cases hs : SmallP b xs ps
  · rw [decide_eq_true hs] at hlp
    rw [if_pos hs]
    have HLP := Lib.hid hlp
    clear hlp hs hl
    go_enter Tryz.func8, Tryz.ntmps8
    go_wp2_with fail
    rw [← HWA.out]
    refine (HLP.out wA (HC.out.below HBA.out) (HCP.out.below HBA.out)).mono ?_
    rintro e w1 ⟨a1, c1, rfl, _, hb1⟩
    have HB1 := Lib.hid (HBA.out.trans (hb1.mono hszA))
    clear hb1
    go_wp2
    go_ret
    exact ⟨rfl, HB1.out⟩
  · rw [decide_eq_false hs] at hlp
    rw [if_neg hs]
    have HLP := Lib.hid hlp
    clear hlp hs hl
    go_enter Tryz.func8, Tryz.ntmps8
    go_wp2_with fail
    rw [← HWA.out]
    refine (HLP.out wA (HC.out.below HBA.out) (HCP.out.below HBA.out)).mono ?_
    rintro e w1 ⟨a1, c1, rfl, _, hb1⟩
    have HB1 := Lib.hid (HBA.out.trans (hb1.mono hszA))
    clear hb1
    go_wp2
    go_ret
    exact ⟨rfl, HB1.out⟩
end Go.Proofs.YtcoggnoeafpgbaaGreat
