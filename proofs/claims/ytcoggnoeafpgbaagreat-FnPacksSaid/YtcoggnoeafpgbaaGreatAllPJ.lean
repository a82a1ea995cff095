/- AllPJ: parts laid together: PackI, PackSW, PackJ. -/
import Derived.Test.YtcoggnoeafpgbaaGreatPackM
import Derived.Test.YtcoggnoeafpgbaaGreatAllArea
import Derived.Deep.DrawnRows
import Derived.Test.YtcoggnoeafpgbaaGreatAllPk0
import Derived.Test.YtcoggnoeafpgbaaGreatBlocks
import Derived.Test.YtcoggnoeafpgbaaGreatAllFrame
import Derived.Test.YtcoggnoeafpgbaaGreatPut0
import Derived.Deep.RegionHeld3
import Derived.BigRegion
import Derived.IntWalk

/- PackI: the walk of the program's LargestPacking and CountPacked. -/
namespace Go.Proofs.YtcoggnoeafpgbaaGreat
open Go.RowKit Go.Maps

attribute [local go_sem ↓] Go.wp_at_zero Go.wp_at_succ

theorem ownsRow_tch {w w' : World} {lo hi base e size n : Nat} {v : Value} {xs : List Value} (h : w.ownsRow base e size v n xs) (ht : Touched lo hi w w') (hb : hi ≤ base) : w'.ownsRow base e size v n xs := by
  refine ⟨h.1, ?_⟩
  rcases h.2 with q2 | ⟨g, c, cur, q1, q2, q3, r⟩
  · exact .inl q2
  · refine .inr ⟨g, c, cur, q1, q2, ?_, r⟩
    rw [ht.block g (Array.getElem?_eq_some_iff.1 q3).1 (by omega)]
    exact q3
theorem touched_then_below {lo hi : Nat} {a b c : World} (h : Touched lo hi a b) (k : Below a.heap.size b c) : Touched lo hi a c :=
  ⟨k.os.trans h.os, k.tape.trans h.tape, k.output.trans h.output, Nat.le_trans h.size k.size, fun i q1 q2 => (k.block i q1).trans (h.block i q1 q2)⟩
theorem packL_drop {A : List Int} {i : Nat} (h : i < A.length) (used : Nat) : packL (A.drop i) used = if A[i].toNat &&& used = 0 ∧ 1 + mostL (A.drop (i + 1)) (used ||| A[i].toNat) = mostL (A.drop i) used then A[i] :: packL (A.drop (i + 1)) (used ||| A[i].toNat) else packL (A.drop (i + 1)) used := by
  rw [List.drop_eq_getElem_cons h, packL]

set_option maxRecDepth 100000 in
set_option maxHeartbeats 3200000 in
theorem implLP_yes (B : Nat) (ad : Option Addr) (c : Nat) (xs : List Int) (sa : Option Addr) (cs : Nat) (ps : List (List Cl)) (w : World) (hn : xs.length ≤ 1048576) (hnp : ps.length ≤ 1048576) (hl : ∀ p ∈ ps, p.length ≤ 1048576) (hc : CellsAt w ad (ints xs)) (hcp : ShpsAt w sa ps) (hs : SmallP (B : Int) xs ps) :
    Calls Tryz.prog 15 #[.agg #[.int .i64 B, .slice ad xs.length c], .slice sa ps.length cs] w fun e w' => ∃ ad' cap', e = .returned (.tuple #[.slice ad' (packL (allL B xs ps) 0).length cap', .bool true]) ∧
      w'.ownsRow w.heap.size 3 1 (.slice ad' (packL (allL B xs ps) 0).length cap') (packL (allL B xs ps) 0).length (ints (packL (allL B xs ps) 0)) ∧ Below w.heap.size w w' := by
  have hsm := fun w' h1 h2 => implSm (B : Int) ad c xs sa cs ps w' hn hnp hl h1 h2
  rw [decide_eq_true hs] at hsm
  obtain ⟨⟨hr, hp⟩, ha⟩ := hs
  have HAL := Lib.hid (fun w' h1 h2 => implAll B ad c xs sa cs ps w' hr hp h1 h2)
  have hlen := allL_length hr hp
  have HSM := Lib.hid (allL_small hr ps)
  have HC := Lib.hid hc
  have HCP := Lib.hid hcp
  have HISM := Lib.hid hsm
  clear hc hcp hl hsm hr hp ha
  generalize allL B xs ps = A at HAL hlen HSM ⊢
  have hmm := @run_makeMap Tryz.prog
  obtain ⟨wA, hwA⟩ : ∃ wA, wA = w.alloc (.cells #[.int .i64 B, .slice ad xs.length c] 29) := ⟨_, rfl⟩
  have hbA : Below w.heap.size w wA := by rw [hwA]; exact (Below.refl _ _).alloc (Nat.le_refl _) _
  have hzA : wA.heap.size = w.heap.size + 1 := by rw [hwA]; simp
  have hblkA : wA.heap[w.heap.size]? = some (.cells #[.int .i64 B, .slice ad xs.length c] 29 (0, 0)) := by rw [hwA]; exact heap_alloc_new w _
  have HBA := Lib.hid hbA
  have HBLKA := Lib.hid hblkA
  have HWA := Lib.hid hwA
  have hszA := hbA.size
  clear hbA hblkA hwA
  go_enter Tryz.func15, Tryz.ntmps15
  go_wp2_with fail
  rw [← HWA.out]
  refine (HISM.out wA (HC.out.below HBA.out) (HCP.out.below HBA.out)).mono ?_
  rintro e w1 ⟨rfl, hb1⟩
  have HB1 := Lib.hid (HBA.out.trans (hb1.mono hszA))
  have HX1 := Lib.hid hb1
  have hsz1 := HB1.out.size
  have hs1 := hb1.size
  have hblk1 := (hb1.block w.heap.size (by omega)).trans HBLKA.out
  have x10 : w1.cell? ⟨w.heap.size, 0, none⟩ = some (.int .i64 B) := by rw [cell_of_row w1 _ 0 _ _ _ hblk1]; rfl
  have x11 : w1.cell? ⟨w.heap.size, 1, none⟩ = some (.slice ad xs.length c) := by rw [cell_of_row w1 _ 1 _ _ _ hblk1]; rfl
  clear hblk1 hb1
  go_wp2_with fail
  refine (HAL.out w1 (HC.out.below HB1.out) (HCP.out.below HB1.out)).mono ?_
  rintro e w2 ⟨a2, c2, rfl, ho2, hb2⟩
  have HB2 := Lib.hid (HB1.out.trans (hb2.mono hsz1))
  have hsz2 := HB2.out.size
  have HA2 := Lib.hid (ownsRow_cellsAt ho2)
  clear hb2 ho2 x10 x11
  obtain ⟨w0, hw0⟩ : ∃ w0, w0 = (w2.alloc (.map #[] 0)).alloc (.cells #[.slice a2 A.length c2, .map (some w2.heap.size)] 70) := ⟨_, rfl⟩
  have hb0 : Below w2.heap.size w2 w0 := by rw [hw0]; exact ((Below.refl _ _).alloc (Nat.le_refl _) _).alloc (by simp) _
  have hz0 : w0.heap.size = w2.heap.size + 2 := by rw [hw0]; simp
  have hblk0 : w0.heap[w2.heap.size + 1]? = some (.cells #[.slice a2 A.length c2, .map (some w2.heap.size)] 70 (0, 0)) := by
    have q := heap_alloc_new (w2.alloc (.map #[] 0)) (.cells #[.slice a2 A.length c2, .map (some w2.heap.size)] 70)
    have e : (w2.alloc (.map #[] 0)).heap.size = w2.heap.size + 1 := by simp
    rw [e] at q
    rw [hw0]
    exact q
  have hM0 : Memo w0 w2.heap.size A (.map []) := (Memo.made w2 A).kept (w' := w0) (row := none) (by rw [hw0]; exact World.grownBy_alloc _ _ none) (by simp)
  have hca : ∀ w', Touched w2.heap.size (w2.heap.size + 1) w0 w' → CellsAt w' a2 (ints A) := fun w' h => HA2.out.below (hb0.trans (h.below (Nat.le_refl _) (by omega)))
  have HW0 := Lib.hid hw0
  have HB0 := Lib.hid (HB2.out.trans (hb0.mono hsz2))
  have HBLK0 := Lib.hid hblk0
  have HCA := Lib.hid hca
  have HMOST := Lib.hid (most_any w0 w2.heap.size (w2.heap.size + 1) A a2 c2 (by omega) HSM.out (by omega) hblk0 hca)
  have HM0 := Lib.hid hM0
  have hlw : w.heap.size ≤ w0.heap.size := by omega
  clear hw0 hb0 hblk0 hca hM0
  go_wp2_with fail
  rw [← HW0.out]
  go_loopw [7, 8, 23] (fun ov uv iv wr => ∃ (k u : Nat) (l : List Int) (av : Option Addr) (cv : Nat) (D : DataW Unit), k ≤ A.length ∧ iv = .int .i64 k ∧ u < 68719476736 ∧ uv = .int .i64 u ∧ ov = .slice av l.length cv ∧ l.length ≤ k ∧
    wr.ownsRow w0.heap.size 3 1 (.slice av l.length cv) l.length (ints l) ∧ Memo wr w2.heap.size A D ∧ Touched w2.heap.size (w2.heap.size + 1) w0 wr ∧ l ++ packL (A.drop k) u = packL A 0) (fun _ _ iv _ => A.length - (intOf iv).toNat)
  case atStart => exact ⟨0, 0, [], none, 0, _, Nat.zero_le _, rfl, by omega, rfl, rfl, Nat.le_refl _, World.ownsRow_nil _ _ _ _, HM0.out, Touched.refl _ _ _, rfl⟩
  case round =>
    obtain ⟨k, u, l, av, cv, D, hk, rfl, hu, rfl, rfl, hlk, hown, hmem, hT, hpk⟩ := hrel
    have HOWN := Lib.hid hown
    have HMEM := Lib.hid hmem
    have HT := Lib.hid hT
    have HPK := Lib.hid hpk
    have hsz := hT.size
    by_cases hlt : k < A.length
    · have i1 : (k : Int) < (A.length : Int) := by omega
      obtain ⟨g, off, hga, hg, hcc⟩ := (HCA.out wr hT).open (by rw [ints_length]; omega)
      have va := hcc k _ (ints_at A k hlt)
      have hsm := HSM.out _ (List.getElem_mem hlt)
      have hpd := packL_drop hlt u
      have hle0 := Nat.le_trans (mostL_le (A.drop k) u) (show (A.drop k).length ≤ 1048575 by rw [List.length_drop]; omega)
      have HLE1 := Lib.hid (fun x => Nat.le_trans (mostL_le (A.drop (k + 1)) x) (show (A.drop (k + 1)).length ≤ 1048575 by rw [List.length_drop]; omega))
      have e1 : IntKind.i64.wrap ((k : Int) + 1) = (k : Int) + 1 := by rw [IntWalk.i64_left]; exact IntWalk.wrap64_in _ (by omega)
      clear hown hmem hT hpk hcc
      subst hga
      generalize A[k] = v at va hsm hpd
      obtain ⟨m, rfl⟩ : ∃ m : Nat, v = (m : Int) := ⟨v.toNat, by have := hsm.1; omega⟩
      rw [Int.toNat_natCast] at hpd
      have hm2 : m < 68719476736 := by have := hsm.2; omega
      have hand := i64_and_nat m u (by omega) (by omega)
      clear hsm
      by_cases hq : m &&& u = 0
      · rw [hq] at hand
        have hor : u ||| m < 68719476736 := Nat.or_lt_two_pow (n := 36) hu hm2
        have horr := i64_or_nat u m (by omega) (by omega)
        have hrec := HMOST.out A.length (k + 1) (u ||| m) wr D (by omega) hlt hor HMEM.out HT.out
        rw [show ((k + 1 : Nat) : Int) = (k : Int) + 1 from by norm_cast] at hrec
        have HREC := Lib.hid hrec
        have hle1 := HLE1.out (u ||| m)
        have HREC2 := Lib.hid (fun D' w' h1 h2 => HMOST.out A.length k u w' D' (by omega) hk hu h1 h2)
        generalize mostL (A.drop (k + 1)) (u ||| m) = m1 at hpd hle1 HREC
        generalize mostL (A.drop k) u = m0 at hpd hle0 HREC2
        have e2 : IntKind.i64.wrap (1 + (m1 : Int)) = 1 + (m1 : Int) := by rw [IntWalk.i64_left]; exact IntWalk.wrap64_in _ (by omega)
        clear hrec
        by_cases he : 1 + m1 = m0
        · have hee : ((1 + (m1 : Int)) == (m0 : Int)) = true := by simp; omega
          rw [if_pos ⟨hq, he⟩] at hpd
          have HPD := Lib.hid hpd
          clear hpd hq he
          go_wp2_with fail
          refine HREC.out.mono ?_
          rintro e w3 ⟨rfl, ⟨D3, hM3, _⟩, hT3⟩
          have HM3 := Lib.hid hM3
          have HT3 := Lib.hid (HT.out.trans hT3)
          have HO3 := Lib.hid (ownsRow_tch HOWN.out hT3 (by omega))
          clear hM3 hT3
          go_wp2_with fail
          refine (HREC2.out D3 w3 HM3.out HT3.out).mono ?_
          rintro e w4 ⟨rfl, ⟨D4, hM4, _⟩, hT4⟩
          have HM4 := Lib.hid hM4
          have HT4 := Lib.hid (HT3.out.trans hT4)
          have HO4 := Lib.hid (ownsRow_tch HO3.out hT4 (by omega))
          have hz4 := (HT3.out.trans hT4).size
          clear hM4 hT4
          go_wp2_with (at_builtin; refine wpList_app1 rfl (.tmp 45) (.tmp 47) 22 rfl w0.heap.size 3 _ 1 8 Tryz.elemInt _ l.length (ints l) _ _ _ rfl rfl rfl HO4.out (by rfl) (by simp [Value.oneCell']) (by unfold maxLen; omega) (by omega) (by omega) ?_; intro g2 c2 w5 r1 r2 r3 r4 r5 r6)
          go_roundw
          case rel =>
            refine ⟨k + 1, u ||| m, l ++ [(m : Int)], some ⟨g2, 0, none⟩, c2, D4, hlt, by go_num, hor, by first | (rw [horr]; done) | rfl, by rw [List.length_append]; rfl, by rw [List.length_append, List.length_singleton]; omega, ?_, ?_, touched_then_below HT4.out (r2.mono (by omega)), ?_⟩
            · rw [List.length_append, List.length_singleton, ints_append]; exact r1
            · refine HM4.out.kept r3 fun e => ?_
              have := (HO4.out.lt _ e.symm).1
              omega
            · rw [List.append_assoc, ← HPK.out, HPD.out]; rfl
          case measure => simp [intOf]; omega
        · have hee : ((1 + (m1 : Int)) == (m0 : Int)) = false := by simp; omega
          rw [if_neg (fun q : _ ∧ _ => he q.2)] at hpd
          have HPD := Lib.hid hpd
          clear hpd hq he
          go_wp2_with fail
          refine HREC.out.mono ?_
          rintro e w3 ⟨rfl, ⟨D3, hM3, _⟩, hT3⟩
          have HM3 := Lib.hid hM3
          have HT3 := Lib.hid (HT.out.trans hT3)
          have HO3 := Lib.hid (ownsRow_tch HOWN.out hT3 (by omega))
          clear hM3 hT3
          go_wp2_with fail
          refine (HREC2.out D3 w3 HM3.out HT3.out).mono ?_
          rintro e w4 ⟨rfl, ⟨D4, hM4, _⟩, hT4⟩
          have HM4 := Lib.hid hM4
          have HT4 := Lib.hid (HT3.out.trans hT4)
          have HO4 := Lib.hid (ownsRow_tch HO3.out hT4 (by omega))
          clear hM4 hT4
          go_wp2
          go_roundw
          case rel => exact ⟨k + 1, u, l, av, cv, D4, hlt, by go_num, hu, rfl, rfl, by omega, HO4.out, HM4.out, HT4.out, by rw [← HPD.out]; exact HPK.out⟩
          case measure => simp [intOf]; omega
      · obtain ⟨q, hqd⟩ : ∃ q, q = m &&& u := ⟨_, rfl⟩
        rw [if_neg (fun q : _ ∧ _ => hq q.1)] at hpd
        rw [← hqd] at hand hq
        have he : ((q : Int) == 0) = false := by simp; omega
        have HPD := Lib.hid hpd
        clear hpd hq hqd
        go_wp2
        go_roundw
        case rel => exact ⟨k + 1, u, l, av, cv, D, hlt, by go_num, hu, rfl, rfl, by omega, HOWN.out, HMEM.out, HT.out, by rw [← HPD.out]; exact HPK.out⟩
        case measure => simp [intOf]; omega
    · obtain rfl : k = A.length := by omega
      rw [List.drop_length] at hpk
      have hle : l = packL A 0 := by rw [← hpk]; simp [packL]
      have HLE := Lib.hid hle
      clear hown hmem hT hpk hle HPK
      go_wp2
      go_ret2
      rw [← HLE.out]
      exact ⟨av, cv, rfl, ownsRow_rebase HOWN.out hlw, HB0.out.trans ((HT.out.below (Nat.le_refl _) (by omega)).mono (by omega))⟩
end Go.Proofs.YtcoggnoeafpgbaaGreat

/- PackSW: the walk of the reference's l20Pack, LargestPacking and CountPacked. -/
namespace Go.Proofs.YtcoggnoeafpgbaaGreat
open Go.RowKit

theorem packS_drop {A : List Int} {i : Nat} (h : i < A.length) (used : Nat) (best : List Int) : packS (A.drop i) used best = if A[i].toNat &&& used = 0 then packS (A.drop (i + 1)) used (if best.length < (A[i] :: packL (A.drop (i + 1)) (used ||| A[i].toNat)).length then A[i] :: packL (A.drop (i + 1)) (used ||| A[i].toNat) else best) else packS (A.drop (i + 1)) used best := by
  rw [List.drop_eq_getElem_cons h, packS, packS_nil]
theorem one_madeP {w W : World} {e : Nat} {x : Value} (h : W.heap = w.heap.push (.cells #[x] e (0, 0))) : W.ownsRow w.heap.size e 1 (.slice (some ⟨w.heap.size, 0, none⟩) 1 1) 1 [x] := by
  refine ⟨by simp, .inr ⟨w.heap.size, 1, #[x], rfl, Nat.le_refl _, ?_, Nat.le_refl _, by decide, by simp, by simp⟩⟩
  rw [h]; simp

set_option maxRecDepth 100000 in
set_option maxHeartbeats 3200000 in
theorem l20Pack_any (A : List Int) (aa : Option Addr) (ca : Nat) (hlA : A.length ≤ 1048575) (hs : ∀ v ∈ A, Small v) :
    ∀ (n at0 used : Nat) (w : World), A.length < at0 + n → at0 ≤ A.length → used < 68719476736 → CellsAt w aa (ints A) →
      Calls Tryz.prog 42 #[.slice aa A.length ca, .int .i64 at0, .int .i64 used] w fun e w' => ∃ ad' cap', e = .returned (.slice ad' (packL (A.drop at0) used).length cap') ∧
        w'.ownsRow w.heap.size 3 1 (.slice ad' (packL (A.drop at0) used).length cap') (packL (A.drop at0) used).length (ints (packL (A.drop at0) used)) ∧ Below w.heap.size w w' := by
  have HS := Lib.hid hs
  clear hs
  intro n
  induction n with
  | zero =>
    intro at0 used w hn hi hu hc
    omega
  | succ n ih =>
    intro at0 used w hn hi hu hc
    have HIH := Lib.hid ih
    have HC := Lib.hid hc
    clear ih hc
    rw [← packS_nil (A.drop at0) used]
    have hbb : Below w.heap.size w (w.alloc (.cells #[] 3)) := (Below.refl _ _).alloc (Nat.le_refl _) _
    have HBB := Lib.hid hbb
    have HOB := Lib.hid (ownsRow_empty w 3 1)
    clear hbb
    go_enter Tryz.func42, Tryz.ntmps42
    go_wp2
    go_loopw [7, 8] (fun bv iv wr => ∃ (k : Nat) (l : List Int) (av : Option Addr) (cv : Nat), at0 ≤ k ∧ k ≤ A.length ∧ iv = .int .i64 k ∧ bv = .slice av l.length cv ∧ l.length ≤ 1048576 ∧
      wr.ownsRow w.heap.size 3 1 (.slice av l.length cv) l.length (ints l) ∧ Below w.heap.size w wr ∧ packS (A.drop k) used l = packS (A.drop at0) used []) (fun _ iv _ => A.length - (intOf iv).toNat)
    case atStart => exact ⟨at0, [], _, _, Nat.le_refl _, hi, rfl, rfl, Nat.zero_le _, HOB.out, HBB.out, rfl⟩
    case round =>
      obtain ⟨k, l, av, cv, hk0, hk, rfl, rfl, hll, hown, hb, hpk⟩ := hrel
      obtain ⟨wo, rfl⟩ : ∃ wo : World, wo = wr := ⟨_, rfl⟩
      have HOWN := Lib.hid hown
      have HB := Lib.hid hb
      have HPK := Lib.hid hpk
      have hsz := hb.size
      by_cases hlt : k < A.length
      · have i1 : (k : Int) < (A.length : Int) := by omega
        have HCW := Lib.hid (HC.out.below hb)
        obtain ⟨g, off, hga, hg, hcc⟩ := HCW.out.open (by rw [ints_length]; omega)
        have va := hcc k _ (ints_at A k hlt)
        have hsm := HS.out _ (List.getElem_mem hlt)
        have hpd := packS_drop hlt used l
        have HRCC := Lib.hid (fun x => Nat.le_trans (packL_le (A.drop (k + 1)) x) (show (A.drop (k + 1)).length ≤ 1048574 by rw [List.length_drop]; omega))
        have e1 : IntKind.i64.wrap ((k : Int) + 1) = (k : Int) + 1 := by rw [IntWalk.i64_left]; exact IntWalk.wrap64_in _ (by omega)
        clear hown hb hpk hcc
        subst hga
        generalize A[k] = v at va hsm hpd
        obtain ⟨m, rfl⟩ : ∃ m : Nat, v = (m : Int) := ⟨v.toNat, by have := hsm.1; omega⟩
        rw [Int.toNat_natCast] at hpd
        have hm2 : m < 68719476736 := by have := hsm.2; omega
        have hand := i64_and_nat m used (by omega) (by omega)
        clear hsm
        by_cases hq : m &&& used = 0
        · rw [hq] at hand
          rw [if_pos hq] at hpd
          have hor : used ||| m < 68719476736 := Nat.or_lt_two_pow (n := 36) hu hm2
          have horr := i64_or_nat used m (by omega) (by omega)
          have hrec := fun w' h => HIH.out (k + 1) (used ||| m) w' (by omega) hlt hor h
          rw [show ((k + 1 : Nat) : Int) = (k : Int) + 1 from by norm_cast] at hrec
          have HREC := Lib.hid hrec
          have hrl := HRCC.out (used ||| m)
          generalize packL (A.drop (k + 1)) (used ||| m) = R at hpd hrl HREC
          have HPD := Lib.hid hpd
          have hir := ints_length R
          clear hrec hpd hq
          go_wp2
          have HB1 := Lib.hid (show Below wo.heap.size wo (wo.alloc (.cells #[.int .i64 (m : Int)] 3)).drew from ((Below.refl wo.heap.size wo).alloc (Nat.le_refl _) _).drew)
          have HBD := Lib.hid (show Below wo.heap.size wo wo.drew from (Below.refl wo.heap.size wo).drew)
          have HO1 := Lib.hid (show (wo.alloc (.cells #[.int .i64 (m : Int)] 3)).drew.ownsRow wo.heap.size 3 1 (.slice (some ⟨wo.heap.size, 0, none⟩) 1 1) 1 [.int .i64 (m : Int)] from one_madeP (by rfl))
          go_region_held3 (fun w' => w'.cell? ⟨g, off + k, none⟩ = some (.int .i64 (m : Int))) (first | (go_keep; done) | exact (B4.cell (p := ⟨g, off + k, none⟩) hg).trans va | exact (B3.cell (p := ⟨g, off + k, none⟩) hg).trans va)
            (first
              | (go_at_call 42; refine (HREC.out _ (by first | exact HCW.out.below HB1.out | exact HCW.out.below HBD.out)).mono ?_; rintro e w3 ⟨a3, c3, rfl, ho3, hb3⟩; have B3 : Below wo.heap.size wo w3 := (by first | exact HB1.out.trans (hb3.mono HB1.out.size) | exact HBD.out.trans hb3); have hz3 := B3.size; have hnil3 := (ownsRow_le_cap ho3).2; have HC3 := Lib.hid (ownsRow_cellsAt ho3); (try have HO3 := Lib.hid (ownsRow_far_below HO1.out hb3 (Nat.le_refl _))))
              | (have q3 := HO3.out; refine step_appN rfl (.tmp 29) (.tmp 39) 22 rfl wo.heap.size 3 (.int .i64 0) 1 8 Tryz.elemInt (.slice (some ⟨wo.heap.size, 0, none⟩) 1 1) 1 [.int .i64 (m : Int)] (by rfl) q3 a3 R.length c3 (ints R) (by rfl) hnil3 (by omega) HC3.out (ints_one _) (by unfold maxLen; omega) (by omega) (by omega) ?_; intro a4 c4 w4 p1 p2 p3; have B4 : Below wo.heap.size wo w4 := B3.trans p2; have hz4 := B4.size)
              | (have q4 : (w3.alloc (.cells #[.int .i64 (m : Int)] 3)).ownsRow wo.heap.size 3 1 (.slice (some ⟨w3.heap.size, 0, none⟩) 1 1) 1 [.int .i64 (m : Int)] := ownsRow_rebase (one_madeP (w := w3) (by rfl)) hz3; have b4 : Below w3.heap.size w3 (w3.alloc (.cells #[.int .i64 (m : Int)] 3)) := (Below.refl _ _).alloc (Nat.le_refl _) _; have k4 := HC3.out.below b4; have z4 := b4.size; refine step_appN rfl (.tmp 29) (.tmp 39) 22 rfl wo.heap.size 3 (.int .i64 0) 1 8 Tryz.elemInt (.slice (some ⟨w3.heap.size, 0, none⟩) 1 1) 1 [.int .i64 (m : Int)] (by rfl) q4 a3 R.length c3 (ints R) (by rfl) hnil3 (by omega) k4 (ints_one _) (by unfold maxLen; omega) (by omega) (Nat.le_trans hz3 z4) ?_; intro a4 c4 w4 p1 p2 p3; have B4 : Below wo.heap.size wo w4 := (B3.trans (b4.mono hz3)).trans p2; have hz4 := B4.size))
          all_goals (have HP1 := Lib.hid p1; have HB4 := Lib.hid (HB.out.trans (B4.mono hsz)); have HOW4 := Lib.hid (ownsRow_far_below HOWN.out B4 (Nat.le_refl _)); clear p1 p2 p3 B4)
          all_goals (
            by_cases hq2 : l.length < 1 + R.length
            · have g1 : decide ((l.length : Int) < 1 + (R.length : Int)) = true := decide_eq_true (by omega)
              have g2 : decide (l.length < 1 + R.length) = true := decide_eq_true hq2
              have hpd := HPD.out
              rw [if_pos (by rw [List.length_cons]; omega)] at hpd
              have HPD2 := Lib.hid hpd
              clear hpd hq2
              go_wp2
              go_roundw
              case rel =>
                have e : ((m : Int) :: R).length = 1 + R.length := by rw [List.length_cons, Nat.add_comm]
                refine ⟨k + 1, (m : Int) :: R, a4, c4, by omega, hlt, by go_num, by rw [e], by rw [e]; omega, ?_, HB4.out, by rw [← HPD2.out]; exact HPK.out⟩
                rw [e]
                exact ownsRow_rebase HP1.out hsz
              case measure => simp [intOf]; omega
            · have g1 : decide ((l.length : Int) < 1 + (R.length : Int)) = false := decide_eq_false (by omega)
              have g2 : decide (l.length < 1 + R.length) = false := decide_eq_false hq2
              have hpd := HPD.out
              rw [if_neg (by rw [List.length_cons]; omega)] at hpd
              have HPD2 := Lib.hid hpd
              clear hpd hq2
              go_wp2
              go_roundw
              case rel => exact ⟨k + 1, l, av, cv, by omega, hlt, by go_num, rfl, hll, HOW4.out, HB4.out, by rw [← HPD2.out]; exact HPK.out⟩
              case measure => simp [intOf]; omega)
        · obtain ⟨q, hqd⟩ : ∃ q, q = m &&& used := ⟨_, rfl⟩
          rw [if_neg hq] at hpd
          rw [← hqd] at hand hq
          have he : ((q : Int) != 0) = true := by simp; omega
          have HPD := Lib.hid hpd
          clear hpd hq hqd
          go_wp2
          go_roundw
          case rel => exact ⟨k + 1, l, av, cv, by omega, hlt, by go_num, rfl, hll, HOWN.out, HB.out, by rw [← HPD.out]; exact HPK.out⟩
          case measure => simp [intOf]; omega
      · obtain rfl : k = A.length := by omega
        have hle : l = packS (A.drop at0) used [] := by rw [← hpk, List.drop_length]; rfl
        have HLE := Lib.hid hle
        clear hown hb hpk hle HPK
        go_wp2
        go_ret
        rw [← HLE.out]
        exact ⟨av, cv, rfl, HOWN.out, HB.out⟩

set_option maxRecDepth 100000 in
set_option maxHeartbeats 1600000 in
theorem specLP_yes (B : Nat) (ad : Option Addr) (c : Nat) (xs : List Int) (sa : Option Addr) (cs : Nat) (ps : List (List Cl)) (w : World) (hn : xs.length ≤ 1048576) (hnp : ps.length ≤ 1048576) (hl : ∀ p ∈ ps, p.length ≤ 1048576) (hc : CellsAt w ad (ints xs)) (hcp : ShpsAt w sa ps) (hs : SmallP (B : Int) xs ps) :
    Calls Tryz.prog 14 #[.agg #[.int .i64 B, .slice ad xs.length c], .slice sa ps.length cs] w fun e w' => ∃ ad' cap', e = .returned (.tuple #[.slice ad' (packL (allL B xs ps) 0).length cap', .bool true]) ∧
      w'.ownsRow w.heap.size 3 1 (.slice ad' (packL (allL B xs ps) 0).length cap') (packL (allL B xs ps) 0).length (ints (packL (allL B xs ps) 0)) ∧ Below w.heap.size w w' := by
  have hsm := fun w' h1 h2 => specFine (B : Int) ad c xs sa cs ps w' hn hnp hl h1 h2
  rw [decide_eq_true hs] at hsm
  obtain ⟨⟨hr, hp⟩, ha⟩ := hs
  have HAL := Lib.hid (fun w' h1 h2 => specAll B ad c xs sa cs ps w' hr hp h1 h2)
  have hlen := allL_length hr hp
  have HSM := Lib.hid (allL_small hr ps)
  have HC := Lib.hid hc
  have HCP := Lib.hid hcp
  have HISM := Lib.hid hsm
  clear hc hcp hl hsm hr hp ha
  generalize allL B xs ps = A at HAL hlen HSM ⊢
  obtain ⟨wA, hwA⟩ : ∃ wA, wA = w.alloc (.cells #[.int .i64 B, .slice ad xs.length c] 29) := ⟨_, rfl⟩
  have hbA : Below w.heap.size w wA := by rw [hwA]; exact (Below.refl _ _).alloc (Nat.le_refl _) _
  have hzA : wA.heap.size = w.heap.size + 1 := by rw [hwA]; simp
  have hblkA : wA.heap[w.heap.size]? = some (.cells #[.int .i64 B, .slice ad xs.length c] 29 (0, 0)) := by rw [hwA]; exact heap_alloc_new w _
  have HBA := Lib.hid hbA
  have HBLKA := Lib.hid hblkA
  have HWA := Lib.hid hwA
  have hszA := hbA.size
  clear hbA hblkA hwA
  go_enter Tryz.func14, Tryz.ntmps14
  go_wp2_with fail
  rw [← HWA.out]
  refine (HISM.out wA (HC.out.below HBA.out) (HCP.out.below HBA.out)).mono ?_
  rintro e w1 ⟨rfl, hb1⟩
  have HB1 := Lib.hid (HBA.out.trans (hb1.mono hszA))
  have hsz1 := HB1.out.size
  have hblk1 := (hb1.block w.heap.size (by omega)).trans HBLKA.out
  have x10 : w1.cell? ⟨w.heap.size, 0, none⟩ = some (.int .i64 B) := by rw [cell_of_row w1 _ 0 _ _ _ hblk1]; rfl
  have x11 : w1.cell? ⟨w.heap.size, 1, none⟩ = some (.slice ad xs.length c) := by rw [cell_of_row w1 _ 1 _ _ _ hblk1]; rfl
  clear hblk1 hb1
  go_wp2_with fail
  refine (HAL.out w1 (HC.out.below HB1.out) (HCP.out.below HB1.out)).mono ?_
  rintro e w2 ⟨a2, c2, rfl, ho2, hb2⟩
  have HB2 := Lib.hid (HB1.out.trans (hb2.mono hsz1))
  have hsz2 := HB2.out.size
  have HREC := Lib.hid (l20Pack_any A a2 c2 (by omega) HSM.out (A.length + 1) 0 0 w2 (by omega) (Nat.zero_le _) (by decide) (ownsRow_cellsAt ho2))
  clear hb2 ho2 x10 x11
  go_wp2_with fail
  refine HREC.out.mono ?_
  rintro e w3 ⟨a3, c3, rfl, ho3, hb3⟩
  have HO3 := Lib.hid (ownsRow_rebase ho3 hsz2)
  have HB3 := Lib.hid (HB2.out.trans (hb3.mono hsz2))
  clear ho3 hb3
  go_wp2
  go_ret2
  exact ⟨a3, c3, rfl, HO3.out, HB3.out⟩

def lpR (b : Int) (xs : List Int) (ps : List (List Cl)) : List Int := if SmallP b xs ps then packL (allL b.toNat xs ps) 0 else []

set_option maxRecDepth 100000 in
set_option maxHeartbeats 1600000 in
theorem specLP (b : Int) (ad : Option Addr) (c : Nat) (xs : List Int) (sa : Option Addr) (cs : Nat) (ps : List (List Cl)) (w : World) (hn : xs.length ≤ 1048576) (hnp : ps.length ≤ 1048576) (hl : ∀ p ∈ ps, p.length ≤ 1048576) (hc : CellsAt w ad (ints xs)) (hcp : ShpsAt w sa ps) :
    Calls Tryz.prog 14 #[.agg #[.int .i64 b, .slice ad xs.length c], .slice sa ps.length cs] w fun e w' => ∃ ad' cap', e = .returned (.tuple #[.slice ad' (lpR b xs ps).length cap', .bool (decide (SmallP b xs ps))]) ∧
      w'.ownsRow w.heap.size 3 1 (.slice ad' (lpR b xs ps).length cap') (lpR b xs ps).length (ints (lpR b xs ps)) ∧ Below w.heap.size w w' := by
  by_cases hs : SmallP b xs ps
  · obtain ⟨B, rfl⟩ := Int.eq_ofNat_of_zero_le (by have := hs.1.1.1.1; omega : 0 ≤ b)
    rw [decide_eq_true hs, show lpR B xs ps = packL (allL B xs ps) 0 from if_pos hs]
    exact specLP_yes B ad c xs sa cs ps w hn hnp hl hc hcp hs
  · rw [decide_eq_false hs, show lpR b xs ps = [] from if_neg hs]
    have hsm := fun w' h1 h2 => specFine b ad c xs sa cs ps w' hn hnp hl h1 h2
    rw [decide_eq_false hs] at hsm
    have HC := Lib.hid hc
    have HCP := Lib.hid hcp
    have HISM := Lib.hid hsm
    clear hc hcp hl hsm hs
    obtain ⟨wA, hwA⟩ : ∃ wA, wA = w.alloc (.cells #[.int .i64 b, .slice ad xs.length c] 29) := ⟨_, rfl⟩
    have hbA : Below w.heap.size w wA := by rw [hwA]; exact (Below.refl _ _).alloc (Nat.le_refl _) _
    have HBA := Lib.hid hbA
    have HWA := Lib.hid hwA
    have hszA := hbA.size
    clear hbA hwA
    go_enter Tryz.func14, Tryz.ntmps14
    go_wp2_with fail
    rw [← HWA.out]
    refine (HISM.out wA (HC.out.below HBA.out) (HCP.out.below HBA.out)).mono ?_
    rintro e w1 ⟨rfl, hb1⟩
    have HB1 := Lib.hid (HBA.out.trans (hb1.mono hszA))
    have HOE := Lib.hid (ownsRow_rebase (ownsRow_empty w1 3 1) HB1.out.size)
    have HBE := Lib.hid (HB1.out.trans (((Below.refl w1.heap.size w1).alloc (Nat.le_refl _) (.cells #[] 3)).mono HB1.out.size))
    clear hb1
    go_wp2
    go_ret2
    exact ⟨_, _, rfl, HOE.out, HBE.out⟩

set_option maxRecDepth 100000 in
set_option maxHeartbeats 1600000 in
theorem specCP (b : Int) (ad : Option Addr) (c : Nat) (xs : List Int) (sa : Option Addr) (cs : Nat) (ps : List (List Cl)) (w : World) (hn : xs.length ≤ 1048576) (hnp : ps.length ≤ 1048576) (hl : ∀ p ∈ ps, p.length ≤ 1048576) (hc : CellsAt w ad (ints xs)) (hcp : ShpsAt w sa ps) :
    Calls Tryz.prog 8 #[.agg #[.int .i64 b, .slice ad xs.length c], .slice sa ps.length cs] w fun e w' => e = .returned (.int .i64 (if SmallP b xs ps then ((lpR b xs ps).length : Int) else -1)) ∧ Below w.heap.size w w' := by
  have hlp := fun w' h1 h2 => specLP b ad c xs sa cs ps w' hn hnp hl h1 h2
  have HC := Lib.hid hc
  have HCP := Lib.hid hcp
  obtain ⟨wA, hwA⟩ : ∃ wA, wA = w.alloc (.cells #[.int .i64 b, .slice ad xs.length c] 29) := ⟨_, rfl⟩
  have hbA : Below w.heap.size w wA := by rw [hwA]; exact (Below.refl _ _).alloc (Nat.le_refl _) _
  have HBA := Lib.hid hbA
  have HWA := Lib.hid hwA
  have hszA := hbA.size
  clear hc hcp hbA hwA
  generalize lpR b xs ps = L at hlp ⊢
  by_cases hs : SmallP b xs ps
  · rw [decide_eq_true hs] at hlp
    rw [if_pos hs]
    have HLP := Lib.hid hlp
    clear hlp hs hl
    go_enter Tryz.func8, Tryz.ntmps8
    go_wp2_with fail
    rw [← HWA.out]
    refine (HLP.out wA (HC.out.below HBA.out) (HCP.out.below HBA.out)).mono ?_
    rintro e w1 ⟨a1, c1, rfl, _, hb1⟩
    have HB1 := Lib.hid (HBA.out.trans (hb1.mono hszA))
    clear hb1
    go_wp2
    go_ret
    exact ⟨rfl, HB1.out⟩
  · rw [decide_eq_false hs] at hlp
    rw [if_neg hs]
    have HLP := Lib.hid hlp
    clear hlp hs hl
    go_enter Tryz.func8, Tryz.ntmps8
    go_wp2_with fail
    rw [← HWA.out]
    refine (HLP.out wA (HC.out.below HBA.out) (HCP.out.below HBA.out)).mono ?_
    rintro e w1 ⟨a1, c1, rfl, _, hb1⟩
    have HB1 := Lib.hid (HBA.out.trans (hb1.mono hszA))
    clear hb1
    go_wp2
    go_ret
    exact ⟨rfl, HB1.out⟩
end Go.Proofs.YtcoggnoeafpgbaaGreat

/- PackJ: the program's LargestPacking and CountPacked, for all regions. -/
namespace Go.Proofs.YtcoggnoeafpgbaaGreat
open Go.RowKit

set_option maxRecDepth 100000 in
set_option maxHeartbeats 1600000 in
theorem implLP (b : Int) (ad : Option Addr) (c : Nat) (xs : List Int) (sa : Option Addr) (cs : Nat) (ps : List (List Cl)) (w : World) (hn : xs.length ≤ 1048576) (hnp : ps.length ≤ 1048576) (hl : ∀ p ∈ ps, p.length ≤ 1048576) (hc : CellsAt w ad (ints xs)) (hcp : ShpsAt w sa ps) :
    Calls Tryz.prog 15 #[.agg #[.int .i64 b, .slice ad xs.length c], .slice sa ps.length cs] w fun e w' => ∃ ad' cap', e = .returned (.tuple #[.slice ad' (lpR b xs ps).length cap', .bool (decide (SmallP b xs ps))]) ∧
      w'.ownsRow w.heap.size 3 1 (.slice ad' (lpR b xs ps).length cap') (lpR b xs ps).length (ints (lpR b xs ps)) ∧ Below w.heap.size w w' := by
  by_cases hs : SmallP b xs ps
  · obtain ⟨B, rfl⟩ := Int.eq_ofNat_of_zero_le (by have := hs.1.1.1.1; omega : 0 ≤ b)
    rw [decide_eq_true hs, show lpR B xs ps = packL (allL B xs ps) 0 from if_pos hs]
    exact implLP_yes B ad c xs sa cs ps w hn hnp hl hc hcp hs
  · rw [decide_eq_false hs, show lpR b xs ps = [] from if_neg hs]
    have hsm := fun w' h1 h2 => implSm b ad c xs sa cs ps w' hn hnp hl h1 h2
    rw [decide_eq_false hs] at hsm
    have HC := Lib.hid hc
    have HCP := Lib.hid hcp
    have HISM := Lib.hid hsm
    clear hc hcp hl hsm hs
    obtain ⟨wA, hwA⟩ : ∃ wA, wA = w.alloc (.cells #[.int .i64 b, .slice ad xs.length c] 29) := ⟨_, rfl⟩
    have hbA : Below w.heap.size w wA := by rw [hwA]; exact (Below.refl _ _).alloc (Nat.le_refl _) _
    have HBA := Lib.hid hbA
    have HWA := Lib.hid hwA
    have hszA := hbA.size
    clear hbA hwA
    go_enter Tryz.func15, Tryz.ntmps15
    go_wp2_with fail
    rw [← HWA.out]
    refine (HISM.out wA (HC.out.below HBA.out) (HCP.out.below HBA.out)).mono ?_
    rintro e w1 ⟨rfl, hb1⟩
    have HB1 := Lib.hid (HBA.out.trans (hb1.mono hszA))
    clear hb1
    go_wp2
    go_ret2
    exact ⟨none, 0, rfl, World.ownsRow_nil _ _ _ _, HB1.out⟩

set_option maxRecDepth 100000 in
set_option maxHeartbeats 1600000 in
theorem implCP (b : Int) (ad : Option Addr) (c : Nat) (xs : List Int) (sa : Option Addr) (cs : Nat) (ps : List (List Cl)) (w : World) (hn : xs.length ≤ 1048576) (hnp : ps.length ≤ 1048576) (hl : ∀ p ∈ ps, p.length ≤ 1048576) (hc : CellsAt w ad (ints xs)) (hcp : ShpsAt w sa ps) :
    Calls Tryz.prog 11 #[.agg #[.int .i64 b, .slice ad xs.length c], .slice sa ps.length cs] w fun e w' => e = .returned (.int .i64 (if SmallP b xs ps then ((lpR b xs ps).length : Int) else -1)) ∧ Below w.heap.size w w' := by
  have hlp := fun w' h1 h2 => implLP b ad c xs sa cs ps w' hn hnp hl h1 h2
  have HC := Lib.hid hc
  have HCP := Lib.hid hcp
  obtain ⟨wA, hwA⟩ : ∃ wA, wA = w.alloc (.cells #[.int .i64 b, .slice ad xs.length c] 29) := ⟨_, rfl⟩
  have hbA : Below w.heap.size w wA := by rw [hwA]; exact (Below.refl _ _).alloc (Nat.le_refl _) _
  have HBA := Lib.hid hbA
  have HWA := Lib.hid hwA
  have hszA := hbA.size
  clear hc hcp hbA hwA
  generalize lpR b xs ps = L at hlp ⊢
  by_cases hs : SmallP b xs ps
  · rw [decide_eq_true hs] at hlp
    rw [if_pos hs]
    have HLP := Lib.hid hlp
    clear hlp hs hl
    go_enter Tryz.func11, Tryz.ntmps11
    go_wp2_with fail
    rw [← HWA.out]
    refine (HLP.out wA (HC.out.below HBA.out) (HCP.out.below HBA.out)).mono ?_
    rintro e w1 ⟨a1, c1, rfl, _, hb1⟩
    have HB1 := Lib.hid (HBA.out.trans (hb1.mono hszA))
    clear hb1
    go_wp2
    go_ret
    exact ⟨rfl, HB1.out⟩
  · rw [decide_eq_false hs] at hlp
    rw [if_neg hs]
    have HLP := Lib.hid hlp
    clear hlp hs hl
    go_enter Tryz.func11, Tryz.ntmps11
    go_wp2_with fail
    rw [← HWA.out]
    refine (HLP.out wA (HC.out.below HBA.out) (HCP.out.below HBA.out)).mono ?_
    rintro e w1 ⟨a1, c1, rfl, _, hb1⟩
    have HB1 := Lib.hid (HBA.out.trans (hb1.mono hszA))
    clear hb1
    go_wp2
    go_ret
    exact ⟨rfl, HB1.out⟩

theorem lpR_wf (b : Int) (xs : List Int) (ps : List (List Cl)) : (lpR b xs ps).length ≤ 1500 ∧ ∀ v ∈ lpR b xs ps, Small v := by
  unfold lpR
  by_cases hs : SmallP b xs ps
  · rw [if_pos hs]
    obtain ⟨B, rfl⟩ := Int.eq_ofNat_of_zero_le (by have := hs.1.1.1.1; omega : 0 ≤ b)
    rw [Int.toNat_natCast]
    exact ⟨Nat.le_trans (packL_le _ _) (allL_length hs.1.1 hs.1.2), fun v hv => allL_small hs.1.1 ps v (packL_mem _ _ v hv)⟩
  · rw [if_neg hs]
    exact ⟨Nat.zero_le _, fun v hv => by cases hv⟩
end Go.Proofs.YtcoggnoeafpgbaaGreat
