/- Blocks: the walks of l20Blocks and of blocks: whether a mask meets each of some masks. -/
import Derived.Test.YtcoggnoeafpgbaaGreatAllPl
import Derived.Test.YtcoggnoeafpgbaaGreatAllPlac
import Derived.Test.YtcoggnoeafpgbaaGreatAllFrame
import Derived.Deep.DrawnRows
namespace Go.Proofs.YtcoggnoeafpgbaaGreat
open Go.RowKit

attribute [local go_sem ↓] Go.wp_at_zero Go.wp_at_succ

set_option maxRecDepth 100000 in
set_option maxHeartbeats 1600000 in
theorem specBlocks (ad : Option Addr) (c : Nat) (l : List Int) (m : Nat) (w : World) (hn : l.length ≤ 1048576) (hs : ∀ v ∈ l, Small v) (hm : m < 9223372036854775808) (hc : CellsAt w ad (ints l)) :
    Calls Tryz.prog 55 #[.slice ad l.length c, .int .i64 m] w fun e w' => e = .returned (.bool (blocksL l m)) ∧ Below w.heap.size w w' := by
  have HC := Lib.hid hc
  have HS := Lib.hid hs
  clear hc hs
  go_enter Tryz.func55, Tryz.ntmps55
  go_wp2
  go_loopw [5] (fun i wr => ∃ k : Nat, k ≤ l.length ∧ i = .int .i64 k ∧ (∀ v ∈ l.take k, v.toNat &&& m ≠ 0) ∧ Below w.heap.size w wr) (fun i _ => l.length - (intOf i).toNat)
  case atStart => exact ⟨0, by omega, rfl, by simp, Below.refl _ _⟩
  case round =>
    obtain ⟨k, hk, rfl, hall, hb⟩ := hrel
    have HA := Lib.hid hall
    have HB := Lib.hid hb
    clear hall
    by_cases hlt : k < l.length
    · obtain ⟨g, off, rfl, hg, hcc⟩ := HC.out.open (by rw [ints_length]; omega)
      have x0 := (hb.cell (p := ⟨g, off + k, none⟩) hg).trans (hcc k _ (ints_at l k hlt))
      have hsm := HS.out _ (List.getElem_mem hlt)
      have htk := List.take_succ_eq_append_getElem hlt
      have hmem := List.getElem_mem hlt
      have HMEM := Lib.hid hmem
      have HTK := Lib.hid htk
      have i1 : (k : Int) < (l.length : Int) := by omega
      clear hcc htk hmem hb
      generalize l[k] = v at x0 hsm HMEM HTK
      obtain ⟨u, rfl⟩ : ∃ u : Nat, v = (u : Int) := ⟨v.toNat, by have := hsm.1; omega⟩
      have hu : u < 9223372036854775808 := by have := hsm.2; omega
      have hand := i64_and_nat u m hu hm
      obtain ⟨q, hq⟩ : ∃ q, q = u &&& m := ⟨_, rfl⟩
      rw [← hq] at hand
      have HQ := Lib.hid hq
      clear hsm hq hu
      by_cases hz : q = 0
      · have hno : blocksL l m = false := by
          unfold blocksL
          refine decide_eq_false fun h => ?_
          have := h _ HMEM.out
          rw [Int.toNat_natCast, ← HQ.out] at this
          exact this hz
        have HV := Lib.hid hno
        subst hz
        clear hno
        go_wp2
        go_ret
        rw [HV.out]
        exact ⟨rfl, HB.out⟩
      · have hz1 : ((q : Int) == 0) = false := by simp; omega
        have HZ := Lib.hid hz
        clear hz
        go_wp2
        go_roundw
        case rel =>
          refine ⟨k + 1, by omega, by go_num, ?_, HB.out⟩
          rw [HTK.out]
          intro v hv
          rcases List.mem_append.1 hv with hv | hv
          · exact HA.out v hv
          · rw [List.mem_singleton.1 hv, Int.toNat_natCast, ← HQ.out]
            exact HZ.out
        case measure => simp [intOf]; omega
    · obtain rfl : k = l.length := by omega
      rw [List.take_length] at HA
      have HV := Lib.hid (show blocksL l m = true from decide_eq_true HA.out)
      go_wp2
      go_ret
      rw [HV.out]
      exact ⟨rfl, HB.out⟩

set_option maxRecDepth 100000 in
set_option maxHeartbeats 1600000 in
theorem implBlocks (ad : Option Addr) (c : Nat) (l : List Int) (m : Nat) (w : World) (hn : l.length ≤ 1048576) (hs : ∀ v ∈ l, Small v) (hm : m < 9223372036854775808) (hc : CellsAt w ad (ints l)) :
    Calls Tryz.prog 52 #[.slice ad l.length c, .int .i64 m] w fun e w' => e = .returned (.bool (blocksL l m)) ∧ Below w.heap.size w w' := by
  have HC := Lib.hid hc
  have HS := Lib.hid hs
  clear hc hs
  go_enter Tryz.func52, Tryz.ntmps52
  go_wp2
  go_loopw [9] (fun i wr => ∃ k : Nat, k ≤ l.length ∧ i = .int .i64 k ∧ (∀ v ∈ l.take k, v.toNat &&& m ≠ 0) ∧ Below w.heap.size w wr) (fun i _ => l.length - (intOf i).toNat)
  case atStart => exact ⟨0, by omega, rfl, by simp, Below.refl _ _⟩
  case round =>
    obtain ⟨k, hk, rfl, hall, hb⟩ := hrel
    have HA := Lib.hid hall
    have HB := Lib.hid hb
    clear hall
    by_cases hlt : k < l.length
    · obtain ⟨g, off, rfl, hg, hcc⟩ := HC.out.open (by rw [ints_length]; omega)
      have x0 := (hb.cell (p := ⟨g, off + k, none⟩) hg).trans (hcc k _ (ints_at l k hlt))
      have hsm := HS.out _ (List.getElem_mem hlt)
      have htk := List.take_succ_eq_append_getElem hlt
      have hmem := List.getElem_mem hlt
      have HMEM := Lib.hid hmem
      have HTK := Lib.hid htk
      have i1 : (k : Int) < (l.length : Int) := by omega
      clear hcc htk hmem hb
      generalize l[k] = v at x0 hsm HMEM HTK
      obtain ⟨u, rfl⟩ : ∃ u : Nat, v = (u : Int) := ⟨v.toNat, by have := hsm.1; omega⟩
      have hu : u < 9223372036854775808 := by have := hsm.2; omega
      have hand := i64_and_nat u m hu hm
      obtain ⟨q, hq⟩ : ∃ q, q = u &&& m := ⟨_, rfl⟩
      rw [← hq] at hand
      have HQ := Lib.hid hq
      clear hsm hq hu
      by_cases hz : q = 0
      · have hno : blocksL l m = false := by
          unfold blocksL
          refine decide_eq_false fun h => ?_
          have := h _ HMEM.out
          rw [Int.toNat_natCast, ← HQ.out] at this
          exact this hz
        have HV := Lib.hid hno
        subst hz
        clear hno
        go_wp2
        go_ret
        rw [HV.out]
        exact ⟨rfl, HB.out⟩
      · have hz1 : ((q : Int) == 0) = false := by simp; omega
        have HZ := Lib.hid hz
        clear hz
        go_wp2
        go_roundw
        case rel =>
          refine ⟨k + 1, by omega, by go_num, ?_, HB.out⟩
          rw [HTK.out]
          intro v hv
          rcases List.mem_append.1 hv with hv | hv
          · exact HA.out v hv
          · rw [List.mem_singleton.1 hv, Int.toNat_natCast, ← HQ.out]
            exact HZ.out
        case measure => simp [intOf]; omega
    · obtain rfl : k = l.length := by omega
      rw [List.take_length] at HA
      have HV := Lib.hid (show blocksL l m = true from decide_eq_true HA.out)
      go_wp2
      go_ret
      rw [HV.out]
      exact ⟨rfl, HB.out⟩
end Go.Proofs.YtcoggnoeafpgbaaGreat
