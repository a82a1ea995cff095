/- PackM: the walk of the packer's most: it answers mostL and keeps what it remembers right. -/
import Derived.Test.YtcoggnoeafpgbaaGreatAllPk0
import Derived.Test.YtcoggnoeafpgbaaGreatBlocks
import Derived.Test.YtcoggnoeafpgbaaGreatAllFrame
import Derived.Lib.QuietBelow
import Derived.BigQuiet
import Derived.BigRegion
import Derived.IntWalk
import Derived.Deep.DrawnRows
namespace Go.Proofs.YtcoggnoeafpgbaaGreat
open Go.RowKit Go.Maps

attribute [local go_sem ↓] Go.wp_at_zero Go.wp_at_succ

theorem touched_grown {w w' : World} {b : Nat} (h : w.grownBy w' (some b)) : Touched b (b + 1) w w' :=
  ⟨h.os, h.tape, h.output, h.size, fun k hk hd => h.block k hk (by intro e; have : k = b := Option.some.inj e; omega)⟩
theorem touched_low {lo hi : Nat} {w w' : World} (h : Below w.heap.size w w') : Touched lo hi w w' := ⟨h.os, h.tape, h.output, h.size, fun k hk _ => h.block k hk⟩
theorem mostL_drop {A : List Int} {i : Nat} (h : i < A.length) (used : Nat) : mostL (A.drop i) used = if A[i].toNat &&& used = 0 then max (mostL (A.drop (i + 1)) used) (1 + mostL (A.drop (i + 1)) (used ||| A[i].toNat)) else mostL (A.drop (i + 1)) used := by
  rw [List.drop_eq_getElem_cons h, mostL]

set_option maxRecDepth 100000 in
set_option maxHeartbeats 3200000 in
theorem most_any (w0 : World) (b S : Nat) (A : List Int) (al : Option Addr) (cl : Nat) (hlA : A.length ≤ 1048575) (hs : ∀ v ∈ A, Small v) (hSb : S ≠ b)
    (hblk : w0.heap[S]? = some (.cells #[.slice al A.length cl, .map (some b)] 70 (0, 0))) (hca : ∀ w', Touched b (b + 1) w0 w' → CellsAt w' al (ints A)) :
    ∀ (n i used : Nat) (w : World) (D : DataW Unit), A.length - i ≤ n → i ≤ A.length → used < 68719476736 → Memo w b A D → Touched b (b + 1) w0 w →
      Calls Tryz.prog 46 #[.pointer (some ⟨S, 0, none⟩), .int .i64 i, .int .i64 used] w fun e w' => e = .returned (.int .i64 (mostL (A.drop i) used : Nat)) ∧
        (∃ D', Memo w' b A D' ∧ ∀ i' u', i' < i → u' < 68719476736 → Maps.has D' (pkey i' u') = Maps.has D (pkey i' u')) ∧ Touched b (b + 1) w w' := by
  have HS := Lib.hid hs
  have HCA := Lib.hid hca
  have hS0 : S < w0.heap.size := lt_of_block hblk
  have HBLK := Lib.hid (fun w (hT : Touched b (b + 1) w0 w) => (hT.block S hS0 (by omega)).trans hblk)
  clear hs hca hblk
  have zero : ∀ (used : Nat) (w : World) (D : DataW Unit), Memo w b A D → Touched b (b + 1) w0 w →
      Calls Tryz.prog 46 #[.pointer (some ⟨S, 0, none⟩), .int .i64 A.length, .int .i64 used] w fun e w' => e = .returned (.int .i64 (mostL (A.drop A.length) used : Nat)) ∧
        (∃ D', Memo w' b A D' ∧ ∀ i' u', i' < A.length → u' < 68719476736 → Maps.has D' (pkey i' u') = Maps.has D (pkey i' u')) ∧ Touched b (b + 1) w w' := by
    intro used w D hM hT
    have hb := HBLK.out w hT
    have x0 : w.cell? ⟨S, 0, none⟩ = some (.slice al A.length cl) := by rw [cell_of_row w _ 0 _ _ _ hb]; rfl
    have HM := Lib.hid hM
    have HT := Lib.hid hT
    clear hb hM hT
    go_enter Tryz.func46, Tryz.ntmps46
    go_wp2_with fail
    go_ret
    exact ⟨by rw [List.drop_length]; rfl, ⟨D, HM.out, fun _ _ _ _ => rfl⟩, Touched.refl _ _ _⟩
  have HZERO := Lib.hid zero
  clear zero
  intro n
  induction n with
  | zero =>
    intro i used w D hn hi hu hM hT
    obtain rfl : i = A.length := by omega
    exact HZERO.out used w D hM hT
  | succ n ih =>
    intro i used w D hn hi hu hM hT
    by_cases hlt : i < A.length
    · have HIH := Lib.hid ih
      have hb := HBLK.out w hT
      have x0 : w.cell? ⟨S, 0, none⟩ = some (.slice al A.length cl) := by rw [cell_of_row w _ 0 _ _ _ hb]; rfl
      have x1 : w.cell? ⟨S, 1, none⟩ = some (.map (some b)) := by rw [cell_of_row w _ 1 _ _ _ hb]; rfl
      have hSw : S < w.heap.size := lt_of_block hb
      have hne : ((i : Int) == (A.length : Int)) = false := by simp; omega
      have HT := Lib.hid hT
      obtain ⟨w1, hw1⟩ : ∃ w1, w1 = w.alloc (.cells #[.int .i64 i, .int .i64 used] 92) := ⟨_, rfl⟩
      have hb1 : Below w.heap.size w w1 := by rw [hw1]; exact (Below.refl _ _).alloc (Nat.le_refl _) _
      have hk1 : w1.heap[w.heap.size]? = some (.cells #[.int .i64 i, .int .i64 used] 92 (0, 0)) := by rw [hw1]; exact heap_alloc_new w _
      have HW1 := Lib.hid hw1
      have HB1 := Lib.hid hb1
      have hz1 : w1.heap.size = w.heap.size + 1 := by rw [hw1]; simp
      have HM0 := Lib.hid hM
      have HM1 := Lib.hid (hM.kept (w' := w1) (row := none) (by rw [hw1]; exact World.grownBy_alloc w _ none) (by simp))
      have HK1 := Lib.hid hk1
      have y0 := (hb1.cell (p := ⟨S, 0, none⟩) hSw).trans x0
      have y1 := (hb1.cell (p := ⟨S, 1, none⟩) hSw).trans x1
      have yk : w1.heap[w.heap.size]? = some (.cells #[.int .i64 i, .int .i64 used] 92 (0, 0)) := hk1
      clear hb hM hT ih hw1 hb1 hk1
      go_enter Tryz.func46, Tryz.ntmps46
      go_wp2_with fail
      rw [← HW1.out]
      have z0 : w1.cell? ⟨w.heap.size, 0, none⟩ = some (.int .i64 i) := by rw [cell_of_row w1 _ 0 _ _ _ yk]; rfl
      have z1 : w1.cell? ⟨w.heap.size, 1, none⟩ = some (.int .i64 used) := by rw [cell_of_row w1 _ 1 _ _ _ yk]; rfl
      have hlen20 : i < 1048576 := by omega
      obtain ⟨c, hlook, hcv⟩ := memo_look (w := w1.drew) (b := b) (A := A) (D := D) HM1.out i used hlen20 hu
      cases hhas : Maps.has D (pkey i used) with
      | true =>
        rw [hhas] at hlook
        have hcc := hcv hhas
        subst hcc
        clear hhas hcv
        go_region
        all_goals go_wp2
        all_goals go_ret
        exact ⟨rfl, ⟨D, HM1.out, fun _ _ _ _ => rfl⟩, touched_low (HB1.out.trans ((Below.refl _ _).drew))⟩
      | false =>
        rw [hhas] at hlook
        have HHAS := Lib.hid hhas
        have hTl : Touched b (b + 1) w w1.drew := touched_low (HB1.out.trans ((Below.refl _ _).drew))
        have HTL := Lib.hid hTl
        have hbw : b < w.heap.size := HM0.out.lt
        have hT2 : Touched b (b + 1) w0 w1.drew := HT.out.trans hTl
        have HT2 := Lib.hid hT2
        have hi1 : i + 1 ≤ A.length := hlt
        have hrec := HIH.out (i + 1) used w1.drew D (by omega) hlt hu HM1.out hT2
        rw [show ((i + 1 : Nat) : Int) = (i : Int) + 1 from by norm_cast] at hrec
        have HREC := Lib.hid hrec
        have e1 : IntKind.i64.wrap ((i : Int) + 1) = (i : Int) + 1 := by rw [IntWalk.i64_left]; exact IntWalk.wrap64_in _ (by omega)
        have hmm := mostL_drop hlt used
        have hsm := HS.out _ (List.getElem_mem hlt)
        have hle0 := Nat.le_trans (mostL_le (A.drop (i + 1)) used) (show (A.drop (i + 1)).length ≤ 1048575 by rw [List.length_drop]; omega)
        have HLE1 := Lib.hid (fun x => Nat.le_trans (mostL_le (A.drop (i + 1)) x) (show (A.drop (i + 1)).length ≤ 1048575 by rw [List.length_drop]; omega))
        have HMOST := Lib.hid (show mostL (A.drop i) used < 9223372036854775808 from Nat.lt_of_le_of_lt (mostL_le (A.drop i) used) (by rw [List.length_drop]; omega))
        have HMM := Lib.hid hmm
        have i1 : (i : Int) < (A.length : Int) := by omega
        have HT2 := Lib.hid hT2
        clear hhas hcv hT2 hTl hmm hrec
        go_region
        all_goals go_wp2_with fail
        refine HREC.out.mono ?_
        rintro e w3 ⟨rfl, ⟨D3, hM3, hD3⟩, hT3⟩
        have hT03 := HT2.out.trans hT3
        have hb3 := HBLK.out w3 hT03
        have v0 : w3.cell? ⟨S, 0, none⟩ = some (.slice al A.length cl) := by rw [cell_of_row w3 _ 0 _ _ _ hb3]; rfl
        obtain ⟨g, off, rfl, hg, hcc⟩ := (HCA.out w3 hT03).open (by rw [ints_length]; omega)
        have va := hcc i _ (ints_at A i hlt)
        have HM3 := Lib.hid hM3
        have HD3 := Lib.hid hD3
        have HT3 := Lib.hid hT3
        have HT03 := Lib.hid hT03
        clear hb3 hcc hM3 hD3 hT3 hT03
        generalize A[i] = v at va hsm HMM
        obtain ⟨u, rfl⟩ : ∃ u : Nat, v = (u : Int) := ⟨v.toNat, by have := hsm.1; omega⟩
        rw [Int.toNat_natCast] at HMM
        have hu2 : u < 68719476736 := by have := hsm.2; omega
        have hand := i64_and_nat u used (by omega) (by omega)
        clear hsm
        by_cases hq : u &&& used = 0
        · rw [hq] at hand
          have hmm := HMM.out
          rw [if_pos hq] at hmm
          have hor : used ||| u < 68719476736 := Nat.or_lt_two_pow (n := 36) hu hu2
          have hrec2 := HIH.out (i + 1) (used ||| u) w3 D3 (by omega) hlt hor HM3.out HT03.out
          rw [show ((i + 1 : Nat) : Int) = (i : Int) + 1 from by norm_cast] at hrec2
          have HREC2 := Lib.hid hrec2
          have hle1 := HLE1.out (used ||| u)
          have horr := i64_or_nat used u (by omega) (by omega)
          generalize mostL (A.drop (i + 1)) (used ||| u) = m1 at hmm hle1 HREC2
          generalize mostL (A.drop (i + 1)) used = m0 at hmm hle0
          have HMM2 := Lib.hid (show ((mostL (A.drop i) used : Nat) : Int) = max (m0 : Int) (1 + (m1 : Int)) by rw [hmm]; omega)
          have e2 : IntKind.i64.wrap (1 + (m1 : Int)) = 1 + (m1 : Int) := by rw [IntWalk.i64_left]; exact IntWalk.wrap64_in _ (by omega)
          clear hq hmm hrec2
          go_wp2_with fail
          refine HREC2.out.mono ?_
          rintro e w4 ⟨rfl, ⟨D4, hM4, hD4⟩, hT4⟩
          have HM4 := Lib.hid hM4
          have HD4 := Lib.hid (fun i' u' (q1 : i' < i + 1) q2 => (hD4 i' u' q1 q2).trans (HD3.out i' u' q1 q2))
          have HT14 := Lib.hid (HT3.out.trans hT4)
          have HT04 := Lib.hid (HT03.out.trans hT4)
          clear hM4 hD4 hT4 v0 va
          go_wp2_with fail
          have hb4 := HBLK.out w4 HT04.out
          have t0 : w4.drew.cell? ⟨S, 1, none⟩ = some (.map (some b)) := by show w4.cell? _ = _; rw [cell_of_row w4 _ 1 _ _ _ hb4]; rfl
          have hkb : w4.heap[w.heap.size]? = some (.cells #[.int .i64 i, .int .i64 used] 92 (0, 0)) := (HT14.out.block w.heap.size (by show w.heap.size < w1.heap.size; omega) (by omega)).trans HK1.out
          have k0 : w4.drew.cell? ⟨w.heap.size, 0, none⟩ = some (.int .i64 i) := by show w4.cell? _ = _; rw [cell_of_row w4 _ 0 _ _ _ hkb]; rfl
          have k1 : w4.drew.cell? ⟨w.heap.size, 1, none⟩ = some (.int .i64 used) := by show w4.cell? _ = _; rw [cell_of_row w4 _ 1 _ _ _ hkb]; rfl
          obtain ⟨w5, D5, hrun5, hM5, hg5, hD5⟩ := memo_tell (w := w4.drew) (b := b) (A := A) (D := D4) HM4.out i used hlen20 hu HMOST.out (by rw [HD4.out i used (by omega) hu, HHAS.out])
          rw [HMM2.out] at hrun5
          have HM5 := Lib.hid hM5
          have HG5 := Lib.hid (touched_grown hg5)
          have HD5 := Lib.hid hD5
          clear hb4 hkb hM5 hg5 hD5
          go_region
          all_goals go_wp2
          all_goals go_ret
          refine ⟨by first | (rw [HMM2.out]; done) | (rw [HMM2.out]; rfl), ⟨D5, HM5.out, fun i' u' q1 q2 => ?_⟩, ?_⟩
          · rw [HD5.out i' u' (by omega) q2 (by omega), HD4.out i' u' (by omega) q2]
          · exact HTL.out.trans (HT14.out.trans (Touched.trans (touched_low ((Below.refl _ _).drew)) HG5.out))
        · obtain ⟨q, hqd⟩ : ∃ q, q = u &&& used := ⟨_, rfl⟩
          rw [← hqd] at hand hq
          have hmm := HMM.out
          rw [← hqd, if_neg hq] at hmm
          have he : ((q : Int) == 0) = false := by simp; omega
          generalize mostL (A.drop (i + 1)) used = m0 at hmm hle0
          have HMM2 := Lib.hid (show ((mostL (A.drop i) used : Nat) : Int) = (m0 : Int) by rw [hmm])
          have HM4 := HM3
          have HD4 := HD3
          have HT14 := HT3
          have HT04 := HT03
          clear hq hqd hmm
          go_wp2_with fail
          clear v0 va
          have hb4 := HBLK.out w3 HT04.out
          have t0 : w3.drew.cell? ⟨S, 1, none⟩ = some (.map (some b)) := by show w3.cell? _ = _; rw [cell_of_row w3 _ 1 _ _ _ hb4]; rfl
          have hkb : w3.heap[w.heap.size]? = some (.cells #[.int .i64 i, .int .i64 used] 92 (0, 0)) := (HT14.out.block w.heap.size (by show w.heap.size < w1.heap.size; omega) (by omega)).trans HK1.out
          have k0 : w3.drew.cell? ⟨w.heap.size, 0, none⟩ = some (.int .i64 i) := by show w3.cell? _ = _; rw [cell_of_row w3 _ 0 _ _ _ hkb]; rfl
          have k1 : w3.drew.cell? ⟨w.heap.size, 1, none⟩ = some (.int .i64 used) := by show w3.cell? _ = _; rw [cell_of_row w3 _ 1 _ _ _ hkb]; rfl
          obtain ⟨w5, D5, hrun5, hM5, hg5, hD5⟩ := memo_tell (w := w3.drew) (b := b) (A := A) (D := D3) HM4.out i used hlen20 hu HMOST.out (by rw [HD4.out i used (by omega) hu, HHAS.out])
          rw [HMM2.out] at hrun5
          have HM5 := Lib.hid hM5
          have HG5 := Lib.hid (touched_grown hg5)
          have HD5 := Lib.hid hD5
          clear hb4 hkb hM5 hg5 hD5
          go_region
          all_goals go_wp2
          all_goals go_ret
          refine ⟨by first | (rw [HMM2.out]; done) | (rw [HMM2.out]; rfl), ⟨D5, HM5.out, fun i' u' q1 q2 => ?_⟩, ?_⟩
          · rw [HD5.out i' u' (by omega) q2 (by omega), HD4.out i' u' (by omega) q2]
          · exact HTL.out.trans (HT14.out.trans (Touched.trans (touched_low ((Below.refl _ _).drew)) HG5.out))
    · obtain rfl : i = A.length := by omega
      exact HZERO.out used w D hM hT
end Go.Proofs.YtcoggnoeafpgbaaGreat
