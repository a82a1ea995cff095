/- AllMarkP: parts laid together: Tight, MarkCell, MarkShps. -/
import Derived.Test.YtcoggnoeafpgbaaGreatAllBase
import Derived.Test.YtcoggnoeafpgbaaGreatAllHead
import Derived.Test.YtcoggnoeafpgbaaGreatShpsLaw

/- Tight: an owned slice's own block alone; what a write to it leaves of the others. -/
namespace Go.Proofs.YtcoggnoeafpgbaaGreat
open Go.RowKit

/-- An owned slice's own block alone. -/
theorem Owned.tight {w : World} {lo hi e size n cap : Nat} {ad : Option Addr} {xs : List Value} (h : Owned w lo hi e size ad n cap xs) :
    ∃ l2 h2, Owned w l2 h2 e size ad n cap xs ∧ (∀ k, k < lo ∨ hi ≤ k → k < l2 ∨ h2 ≤ k) ∧ ∀ g, (Value.slice ad n cap).ownBlock ≠ some g → g < l2 ∨ h2 ≤ g := by
  obtain ⟨⟨h0, h1⟩, h2⟩ := h
  rcases h1 with ⟨q1, q2⟩ | ⟨g, c, cur, q1, q2, q3, r⟩
  · exact ⟨0, 0, ⟨⟨h0, .inl ⟨q1, q2⟩⟩, fun k hk => by rw [q1] at hk; cases hk⟩, fun k _ => .inr (Nat.zero_le _), fun g _ => .inr (Nat.zero_le _)⟩
  · have hg := h2 g (by rw [q1]; rfl)
    refine ⟨g, g + 1, ⟨⟨h0, .inr ⟨g, c, cur, q1, Nat.le_refl _, q3, r⟩⟩, fun k hk => ?_⟩, fun k hk => by omega, fun k hk => ?_⟩
    · rw [q1] at hk
      have : g = k := by simpa [Value.ownBlock] using hk
      omega
    · rcases Nat.lt_or_ge k g with q | q
      · exact .inl q
      · right
        rcases Nat.lt_or_ge g k with q' | q'
        · exact q'
        · exfalso
          apply hk
          rw [q1]
          have : g = k := by omega
          rw [this]; rfl
theorem Touched.widen {l2 h2 lo hi : Nat} {w w' : World} (h : Touched l2 h2 w w') (hd : ∀ k, k < lo ∨ hi ≤ k → k < l2 ∨ h2 ≤ k) : Touched lo hi w w' :=
  ⟨h.os, h.tape, h.output, h.size, fun k hk hne => h.block k hk (hd k hne)⟩
theorem Owned.apart {w w' : World} {lo hi e size n cap l2 h2 : Nat} {ad : Option Addr} {xs : List Value} (h : Owned w lo hi e size ad n cap xs) (ht : Touched l2 h2 w w') (hd : ∀ g, (Value.slice ad n cap).ownBlock = some g → g < l2 ∨ h2 ≤ g) : Owned w' lo hi e size ad n cap xs := by
  refine ⟨⟨h.1.1, ?_⟩, h.2⟩
  rcases h.1.2 with q2 | ⟨g, c, cur, q1, q2, q3, r⟩
  · exact .inl q2
  · refine .inr ⟨g, c, cur, q1, q2, ?_, r⟩
    rw [ht.block g (Array.getElem?_eq_some_iff.1 q3).1 (hd g (by rw [q1]; rfl))]
    exact q3
/-- Two owned slices of different elements lie in different blocks. -/
theorem Owned.other {w : World} {lo hi e size n cap lo' hi' e' size' n' cap' : Nat} {ad ad' : Option Addr} {xs xs' : List Value} (h : Owned w lo hi e size ad n cap xs) (h' : Owned w lo' hi' e' size' ad' n' cap' xs') (he : e ≠ e') :
    ∀ g, (Value.slice ad n cap).ownBlock = some g → (Value.slice ad' n' cap').ownBlock ≠ some g := by
  intro g hg hg'
  rcases h.1.2 with ⟨q1, _⟩ | ⟨b, c, cur, q1, _, q3, _⟩
  · rw [q1] at hg; cases hg
  · rcases h'.1.2 with ⟨r1, _⟩ | ⟨b', c', cur', r1, _, r3, _⟩
    · rw [r1] at hg'; cases hg'
    · rw [q1] at hg
      rw [r1] at hg'
      have e1 : b = g := by simpa [Value.ownBlock] using hg
      have e2 : b' = g := by simpa [Value.ownBlock] using hg'
      subst e1; subst e2
      rw [q3] at r3
      simp at r3
      exact he r3.2
/-- The same slice, as it was owned. -/
theorem ownsRow_rebase' {w w' : World} {lo l2 e size n cap : Nat} {ad : Option Addr} {xs ys : List Value} (h : w'.ownsRow l2 e size (.slice ad n cap) n xs) (h0 : w.ownsRow lo e size (.slice ad n cap) n ys) : w'.ownsRow lo e size (.slice ad n cap) n xs := by
  refine ⟨h.1, ?_⟩
  rcases h.2 with q | ⟨g, c, cur, q1, q2, q3, r⟩
  · exact .inl q
  · refine .inr ⟨g, c, cur, q1, ?_, q3, r⟩
    exact (h0.lt g (by rw [q1]; rfl)).1
end Go.Proofs.YtcoggnoeafpgbaaGreat

/- MarkCell: the walk of the helper that writes marks into a list of cells. -/
namespace Go.Proofs.YtcoggnoeafpgbaaGreat
open Go.RowKit

set_option maxRecDepth 100000 in
set_option maxHeartbeats 800000 in
theorem markCellS_any (lo hi : Nat) (ad : Option Addr) (cap n : Nat) (cs : List Value) (k : Nat) (w : World) (hl : cs.length = n * 2) (hn : n ≤ 1048576) (hk : k ≤ 67108864) (ho : Owned w lo hi 81 2 ad n cap cs) :
    Calls Tryz.prog 47 #[.slice ad n cap, .int .i64 k] w fun e w' => e = .returned (.int .i64 ((k + n * 2 : Nat) : Int)) ∧ Owned w' lo hi 81 2 ad n cap (marks k (n * 2)) ∧ Touched lo hi w w' := by
  have HO := Lib.hid ho
  clear ho
  go_enter Tryz.func47, Tryz.ntmps47
  go_wp2
  go_loopw [1, 5] (fun x i wr => ∃ j : Nat, j ≤ n ∧ i = .int .i64 j ∧ x = .int .i64 ((k + j * 2 : Nat) : Int) ∧ Owned wr lo hi 81 2 ad n cap (partly k cs (j * 2)) ∧ Touched lo hi w wr) (fun _ i _ => n - (intOf i).toNat)
  case atStart => exact ⟨0, by omega, rfl, rfl, by rw [Nat.zero_mul, partly_zero]; exact HO.out, Touched.refl _ _ _⟩
  case round =>
    obtain ⟨j, hj, rfl, rfl, ho, ht⟩ := hrel
    have HW := Lib.hid ho
    have HL := Lib.hid hl
    clear ho
    by_cases hlt : j < n
    · obtain ⟨g, rfl, hg1, hg2⟩ := HW.out.lo_hi (by omega)
      have hcell : ∀ d, d < 2 → ∃ u, wr.cell? ⟨g, j * 2 + d, none⟩ = some u := by
        intro d hd
        rw [HW.out.1.cellAt (j * 2 + d) (by omega)]
        exact ⟨(partly k cs (j * 2))[j * 2 + d]'(by rw [partly_length _ _ _ (by omega)]; omega), by simp⟩
      obtain ⟨u0, s0⟩ := hcell 0 (by omega)
      obtain ⟨u1, s1⟩ := hcell 1 (by omega)
      rw [Nat.add_zero] at s0
      have f0 := HW.out.1.frozenAt (j * 2)
      have f1 := HW.out.1.frozenAt (j * 2 + 1)
      have S0 := Lib.hid (partly_set k cs (j * 2) (by omega))
      have S1 := Lib.hid (partly_set k cs (j * 2 + 1) (by omega))
      clear hcell hl
      go_wp2
      go_roundw
      case rel =>
        refine ⟨j + 1, by omega, by go_num, by go_num, ?_, (ht.setCell hg1 hg2 _).setCell hg1 hg2 _⟩
        have q0 := HW.out.1.stored (j * 2) (.int .i64 ((k + j * 2 : Nat) : Int))
        have q1 := q0.1.stored (j * 2 + 1) (.int .i64 ((k + (j * 2 + 1) : Nat) : Int))
        refine ⟨?_, HW.out.2⟩
        have h2 := q1.1
        rw [S0.out, S1.out] at h2
        rw [show (j + 1) * 2 = j * 2 + 1 + 1 from by omega]
        have e1 : ((k + (j * 2 + 1) : Nat) : Int) = (k : Int) + (j : Int) * 2 + 1 := by omega
        rw [e1] at h2
        first | exact h2 | simpa using h2
      case measure => simp [intOf]; omega
    · obtain rfl : j = n := by omega
      go_wp2
      go_ret
      have h2 := HW.out
      rw [← HL.out, partly_all, HL.out] at h2
      first | exact ⟨rfl, h2, ht⟩ | exact ⟨by simp, h2, ht⟩

theorem markCellS_all {k : Nat} (lo hi : Nat) (ad : Option Addr) (cap : Nat) (xs : List Cl) (w : World) (hn : xs.length ≤ 1048576) (hk : k ≤ 67108864) (ho : Owned w lo hi 81 2 ad xs.length cap (cls xs)) :
    Calls Tryz.prog 47 #[.slice ad xs.length cap, .int .i64 k] w fun e w' => e = .returned (.int .i64 ((k + xs.length * 2 : Nat) : Int)) ∧ Owned w' lo hi 81 2 ad xs.length cap (marks k (xs.length * 2)) ∧ Touched lo hi w w' :=
  markCellS_any lo hi ad cap xs.length (cls xs) k w (cls_length xs) hn hk ho
end Go.Proofs.YtcoggnoeafpgbaaGreat

/- MarkShps: the walk of the helper that writes marks into a list of lists of cells. -/
namespace Go.Proofs.YtcoggnoeafpgbaaGreat
open Go.RowKit

set_option maxRecDepth 100000 in
set_option maxHeartbeats 1600000 in
theorem markCellSS_all {k : Nat} (lo hi : Nat) (ad : Option Addr) (cap : Nat) (ps : List (List Cl)) (w : World) (hn : ps.length ≤ 1048576) (hl : ∀ p ∈ ps, p.length ≤ 1048576) (htot : tot ps ≤ 1048576) (hk : k ≤ 16777216) (ho : OwnP w lo hi ad ps.length cap ps) :
    Calls Tryz.prog 18 #[.slice ad ps.length cap, .int .i64 k] w fun e w' => e = .returned (.int .i64 ((k + sum ps ps.length * 2 : Nat) : Int)) ∧ True ∧ Touched lo hi w w' := by
  obtain ⟨_, vs, hrow, hall, hasc⟩ := ho
  have hts := tot_sum ps
  have HSM := Lib.hid (fun j (hj : j ≤ ps.length) => (sum_mono ps hj : sum ps j ≤ sum ps ps.length))
  have hsb : sum ps ps.length ≤ 1048576 := by omega
  have HL := Lib.hid hl
  have HASC := Lib.hid hasc
  have hvl := All2.length hall
  have HR := Lib.hid (fun j (hj : j < ps.length) => All2.at hall hj)
  have HROW := Lib.hid hrow
  clear hl hasc hall hrow hts htot
  go_enter Tryz.func18, Tryz.ntmps18
  go_wp2
  go_loopw [1, 5] (fun x i wr => ∃ j : Nat, j ≤ ps.length ∧ i = .int .i64 j ∧ x = .int .i64 ((k + sum ps j * 2 : Nat) : Int) ∧ Owned wr lo hi 61 1 ad ps.length cap vs ∧ (∀ m (hm : m < ps.length), j ≤ m → ∃ v, vs[m]? = some v ∧ ShpOwn wr lo hi v ps[m]) ∧ Touched lo hi w wr) (fun _ i _ => ps.length - (intOf i).toNat)
  case atStart => exact ⟨0, Nat.zero_le _, rfl, by rw [sum]; rfl, HROW.out, fun m hm _ => HR.out m hm, Touched.refl _ _ _⟩
  case round =>
    obtain ⟨j, hj, rfl, rfl, hrow, hall, ht⟩ := hrel
    have HW := Lib.hid hrow
    have HALL := Lib.hid hall
    have HT := Lib.hid ht
    have hsj := HSM.out j hj
    clear hrow hall ht HROW HR
    by_cases hlt : j < ps.length
    · obtain ⟨v, hv, ai, ci, rfl, hown⟩ := HALL.out j hlt (Nat.le_refl _)
      obtain ⟨g, hgad, hg1, hg2⟩ := HW.out.lo_hi (by omega)
      have hcell : wr.cell? ⟨g, j, none⟩ = some (.slice ai ps[j].length ci) := by
        subst hgad
        rw [HW.out.1.cellAt j (by omega)]
        exact hv
      subst hgad
      obtain ⟨l2, h2, hown2, hw1, hw2⟩ := hown.tight
      have hpl := HL.out _ (List.getElem_mem hlt)
      have hsum : sum ps (j + 1) = sum ps j + ps[j].length := by rw [sum]; congr 2; simp [List.getD_eq_getElem?_getD, hlt]
      have hsj2 := HSM.out (j + 1) hlt
      have HNEXT := Lib.hid (fun (w2 : World) (t2 : Touched l2 h2 wr w2) => (⟨HW.out.apart t2 (fun q hq => hw2 q (HW.out.other hown (by decide) q hq)), fun m hm hjm => by
          obtain ⟨u, hu, aj, cj, rfl, how⟩ := HALL.out m hm (by omega)
          refine ⟨_, hu, aj, cj, rfl, how.apart t2 (fun q hq => hw2 q (fun q' => ?_))⟩
          have := HASC.out j m _ _ q q (by omega) hv hu q' hq
          omega, HT.out.trans (t2.widen hw1)⟩ : Owned w2 lo hi 61 1 (some ⟨g, 0, none⟩) ps.length cap vs ∧ (∀ m (hm : m < ps.length), j + 1 ≤ m → ∃ v, vs[m]? = some v ∧ ShpOwn w2 lo hi v ps[m]) ∧ Touched lo hi w w2))
      have HMK := Lib.hid (markCellS_all (k := k + sum ps j * 2) l2 h2 ai ci ps[j] wr hpl (by omega) hown2)
      have HSUM := Lib.hid (show k + sum ps (j + 1) * 2 = k + sum ps j * 2 + ps[j].length * 2 by omega)
      have i1 : (j : Int) < (ps.length : Int) := by omega
      clear hown hown2 hw1 hw2 hv hsum hsj2 HALL
      generalize ps[j] = p at hcell HMK HSUM hpl
      obtain ⟨m0, hm0⟩ : ∃ m0, m0 = k + sum ps j * 2 := ⟨_, rfl⟩
      rw [← hm0] at HMK HSUM ⊢
      have hm0b : m0 ≤ 18874368 := by omega
      clear hm0
      go_wp2_with fail
      refine HMK.out.mono ?_
      rintro e w2 ⟨rfl, _, ht2⟩
      have HN := Lib.hid (HNEXT.out w2 ht2)
      clear ht2
      go_wp2
      go_roundw
      case rel => exact ⟨j + 1, by omega, by go_num, by rw [HSUM.out]; exact congrArg (Value.int .i64) (by omega), HN.out.1, HN.out.2.1, HN.out.2.2⟩
      case measure => simp [intOf]; omega
    · obtain rfl : j = ps.length := by omega
      go_wp2
      go_ret
      exact ⟨rfl, trivial, HT.out⟩
end Go.Proofs.YtcoggnoeafpgbaaGreat
