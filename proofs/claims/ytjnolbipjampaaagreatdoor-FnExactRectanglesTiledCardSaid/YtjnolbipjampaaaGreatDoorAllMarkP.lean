/- AllMarkP: parts laid together: Tight, MarkCell, MarkShps. -/
import Derived.Test.YtjnolbipjampaaaGreatDoorAllBase
import Derived.Test.YtjnolbipjampaaaGreatDoorAllHead

/- Tight: an owned slice's own block alone; what a write to it leaves of the others. -/
namespace Go.Proofs.YtjnolbipjampaaaGreatDoor
open Go.RowKit

/-- An owned slice's own block alone. -/
theorem Owned.tight {w : World} {lo hi e size n cap : Nat} {ad : Option Addr} {xs : List Value} (h : Owned w lo hi e size ad n cap xs) :
    ∃ l2 h2, Owned w l2 h2 e size ad n cap xs ∧ (∀ k, k < lo ∨ hi ≤ k → k < l2 ∨ h2 ≤ k) ∧ ∀ g, (Value.slice ad n cap).ownBlock ≠ some g → g < l2 ∨ h2 ≤ g := by
  obtain ⟨⟨h0, h1⟩, h2⟩ := h
  rcases h1 with ⟨q1, q2⟩ | ⟨g, c, cur, q1, q2, q3, r⟩
  · exact ⟨0, 0, ⟨⟨h0, .inl ⟨q1, q2⟩⟩, fun k hk => by rw [q1] at hk; cases hk⟩, fun k _ => .inr (Nat.zero_le _), fun g _ => .inr (Nat.zero_le _)⟩
  · have hg := h2 g (by rw [q1]; rfl)
    refine ⟨g, g + 1, ⟨⟨h0, .inr ⟨g, c, cur, q1, Nat.le_refl _, q3, r⟩⟩, fun k hk => ?_⟩, fun k hk => by omega, fun k hk => ?_⟩
    · rw [q1] at hk
      have : g = k := by simpa [Value.ownBlock] using hk
      omega
    · rcases Nat.lt_or_ge k g with q | q
      · exact .inl q
      · right
        rcases Nat.lt_or_ge g k with q' | q'
        · exact q'
        · exfalso
          apply hk
          rw [q1]
          have : g = k := by omega
          rw [this]; rfl
theorem Touched.widen {l2 h2 lo hi : Nat} {w w' : World} (h : Touched l2 h2 w w') (hd : ∀ k, k < lo ∨ hi ≤ k → k < l2 ∨ h2 ≤ k) : Touched lo hi w w' :=
  ⟨h.os, h.tape, h.output, h.size, fun k hk hne => h.block k hk (hd k hne)⟩
theorem Owned.apart {w w' : World} {lo hi e size n cap l2 h2 : Nat} {ad : Option Addr} {xs : List Value} (h : Owned w lo hi e size ad n cap xs) (ht : Touched l2 h2 w w') (hd : ∀ g, (Value.slice ad n cap).ownBlock = some g → g < l2 ∨ h2 ≤ g) : Owned w' lo hi e size ad n cap xs := by
  refine ⟨⟨h.1.1, ?_⟩, h.2⟩
  rcases h.1.2 with q2 | ⟨g, c, cur, q1, q2, q3, r⟩
  · exact .inl q2
  · refine .inr ⟨g, c, cur, q1, q2, ?_, r⟩
    rw [ht.block g (Array.getElem?_eq_some_iff.1 q3).1 (hd g (by rw [q1]; rfl))]
    exact q3
/-- Two owned slices of different elements lie in different blocks. -/
theorem Owned.other {w : World} {lo hi e size n cap lo' hi' e' size' n' cap' : Nat} {ad ad' : Option Addr} {xs xs' : List Value} (h : Owned w lo hi e size ad n cap xs) (h' : Owned w lo' hi' e' size' ad' n' cap' xs') (he : e ≠ e') :
    ∀ g, (Value.slice ad n cap).ownBlock = some g → (Value.slice ad' n' cap').ownBlock ≠ some g := by
  intro g hg hg'
  rcases h.1.2 with ⟨q1, _⟩ | ⟨b, c, cur, q1, _, q3, _⟩
  · rw [q1] at hg; cases hg
  · rcases h'.1.2 with ⟨r1, _⟩ | ⟨b', c', cur', r1, _, r3, _⟩
    · rw [r1] at hg'; cases hg'
    · rw [q1] at hg
      rw [r1] at hg'
      have e1 : b = g := by simpa [Value.ownBlock] using hg
      have e2 : b' = g := by simpa [Value.ownBlock] using hg'
      subst e1; subst e2
      rw [q3] at r3
      simp at r3
      exact he r3.2
/-- The same slice, as it was owned. -/
theorem ownsRow_rebase' {w w' : World} {lo l2 e size n cap : Nat} {ad : Option Addr} {xs ys : List Value} (h : w'.ownsRow l2 e size (.slice ad n cap) n xs) (h0 : w.ownsRow lo e size (.slice ad n cap) n ys) : w'.ownsRow lo e size (.slice ad n cap) n xs := by
  refine ⟨h.1, ?_⟩
  rcases h.2 with q | ⟨g, c, cur, q1, q2, q3, r⟩
  · exact .inl q
  · refine .inr ⟨g, c, cur, q1, ?_, q3, r⟩
    exact (h0.lt g (by rw [q1]; rfl)).1
end Go.Proofs.YtjnolbipjampaaaGreatDoor

/- MarkCell: the walk of the helper that writes marks into a list of cells. -/
namespace Go.Proofs.YtjnolbipjampaaaGreatDoor
open Go.RowKit

set_option maxRecDepth 100000 in
set_option maxHeartbeats 800000 in
theorem markCellS_any (lo hi : Nat) (ad : Option Addr) (cap n : Nat) (cs : List Value) (k : Nat) (w : World) (hl : cs.length = n * 2) (hn : n ≤ 1048576) (hk : k ≤ 67108864) (ho : Owned w lo hi 37 2 ad n cap cs) :
    Calls Tryz.prog 10 #[.slice ad n cap, .int .i64 k] w fun e w' => e = .returned (.int .i64 ((k + n * 2 : Nat) : Int)) ∧ Owned w' lo hi 37 2 ad n cap (marks k (n * 2)) ∧ Touched lo hi w w' := by
  have HO := Lib.hid ho
  clear ho
  go_enter Tryz.func10, Tryz.ntmps10
  go_wp2
  go_loopw [1, 5] (fun x i wr => ∃ j : Nat, j ≤ n ∧ i = .int .i64 j ∧ x = .int .i64 ((k + j * 2 : Nat) : Int) ∧ Owned wr lo hi 37 2 ad n cap (partly k cs (j * 2)) ∧ Touched lo hi w wr) (fun _ i _ => n - (intOf i).toNat)
  case atStart => exact ⟨0, by omega, rfl, rfl, by rw [Nat.zero_mul, partly_zero]; exact HO.out, Touched.refl _ _ _⟩
  case round =>
    obtain ⟨j, hj, rfl, rfl, ho, ht⟩ := hrel
    have HW := Lib.hid ho
    have HL := Lib.hid hl
    clear ho
    by_cases hlt : j < n
    · obtain ⟨g, rfl, hg1, hg2⟩ := HW.out.lo_hi (by omega)
      have hcell : ∀ d, d < 2 → ∃ u, wr.cell? ⟨g, j * 2 + d, none⟩ = some u := by
        intro d hd
        rw [HW.out.1.cellAt (j * 2 + d) (by omega)]
        exact ⟨(partly k cs (j * 2))[j * 2 + d]'(by rw [partly_length _ _ _ (by omega)]; omega), by simp⟩
      obtain ⟨u0, s0⟩ := hcell 0 (by omega)
      obtain ⟨u1, s1⟩ := hcell 1 (by omega)
      rw [Nat.add_zero] at s0
      have f0 := HW.out.1.frozenAt (j * 2)
      have f1 := HW.out.1.frozenAt (j * 2 + 1)
      have S0 := Lib.hid (partly_set k cs (j * 2) (by omega))
      have S1 := Lib.hid (partly_set k cs (j * 2 + 1) (by omega))
      clear hcell hl
      go_wp2
      go_roundw
      case rel =>
        refine ⟨j + 1, by omega, by go_num, by go_num, ?_, (ht.setCell hg1 hg2 _).setCell hg1 hg2 _⟩
        have q0 := HW.out.1.stored (j * 2) (.int .i64 ((k + j * 2 : Nat) : Int))
        have q1 := q0.1.stored (j * 2 + 1) (.int .i64 ((k + (j * 2 + 1) : Nat) : Int))
        refine ⟨?_, HW.out.2⟩
        have h2 := q1.1
        rw [S0.out, S1.out] at h2
        rw [show (j + 1) * 2 = j * 2 + 1 + 1 from by omega]
        have e1 : ((k + (j * 2 + 1) : Nat) : Int) = (k : Int) + (j : Int) * 2 + 1 := by omega
        rw [e1] at h2
        first | exact h2 | simpa using h2
      case measure => simp [intOf]; omega
    · obtain rfl : j = n := by omega
      go_wp2
      go_ret
      have h2 := HW.out
      rw [← HL.out, partly_all, HL.out] at h2
      first | exact ⟨rfl, h2, ht⟩ | exact ⟨by simp, h2, ht⟩

theorem markCellS_all {k : Nat} (lo hi : Nat) (ad : Option Addr) (cap : Nat) (xs : List Cl) (w : World) (hn : xs.length ≤ 1048576) (hk : k ≤ 67108864) (ho : Owned w lo hi 37 2 ad xs.length cap (cls xs)) :
    Calls Tryz.prog 10 #[.slice ad xs.length cap, .int .i64 k] w fun e w' => e = .returned (.int .i64 ((k + xs.length * 2 : Nat) : Int)) ∧ Owned w' lo hi 37 2 ad xs.length cap (marks k (xs.length * 2)) ∧ Touched lo hi w w' :=
  markCellS_any lo hi ad cap xs.length (cls xs) k w (cls_length xs) hn hk ho
end Go.Proofs.YtjnolbipjampaaaGreatDoor
