/- Pieces: the walks of ArePieces, the reference's and the program's. -/
import Derived.Test.YtcoggnoeafpgbaaGreatShapes
import Derived.Test.YtcoggnoeafpgbaaGreatAllShape
import Derived.Test.YtcoggnoeafpgbaaGreatAllBase
namespace Go.Proofs.YtcoggnoeafpgbaaGreat
open Go.RowKit

def Pcs (ps : List (List Cl)) : Prop := (∀ p ∈ ps, Shape p) ∧ 1 ≤ ps.length ∧ ps.length ≤ 5
instance (ps : List (List Cl)) : Decidable (Pcs ps) := by unfold Pcs; infer_instance

set_option maxRecDepth 100000 in
set_option maxHeartbeats 1600000 in
theorem specPieces (ad : Option Addr) (c : Nat) (ps : List (List Cl)) (w : World) (hn : ps.length ≤ 1048576) (hl : ∀ p ∈ ps, p.length ≤ 1048576) (hc : ShpsAt w ad ps) :
    Calls Tryz.prog 61 #[.slice ad ps.length c] w fun e w' => e = .returned (.bool (decide (Pcs ps))) ∧ Below w.heap.size w w' := by
  have HC := Lib.hid hc
  have HL := Lib.hid hl
  clear hc hl
  go_enter Tryz.func61, Tryz.ntmps61
  go_wp2
  go_loopw [3] (fun i wr => ∃ k : Nat, k ≤ ps.length ∧ i = .int .i64 k ∧ (∀ p ∈ ps.take k, Shape p) ∧ Below w.heap.size w wr) (fun i _ => ps.length - (intOf i).toNat)
  case atStart => exact ⟨0, Nat.zero_le _, rfl, by simp, Below.refl _ _⟩
  case round =>
    obtain ⟨k, hk, rfl, hs, hb⟩ := hrel
    have HS := Lib.hid hs
    have HB := Lib.hid hb
    have hszr := hb.size
    clear hs
    by_cases hlt : k < ps.length
    · obtain ⟨g, off, ai, ci, rfl, hg, hcell, hrow⟩ := HC.out.row hlt
      have x0 := (hb.cell (p := ⟨g, off + k, none⟩) hg).trans hcell
      have hpl := HL.out _ (List.getElem_mem hlt)
      have htk := List.take_succ_eq_append_getElem hlt
      have i1 : (k : Int) < (ps.length : Int) := by omega
      have hsh := specShape ai ci ps[k] wr hpl (hrow.below hb)
      have hmem := List.getElem_mem hlt
      have HTK := Lib.hid htk
      have HMEM := Lib.hid hmem
      clear hcell hrow htk hb hmem
      generalize ps[k] = p at x0 hsh hpl HTK HMEM
      by_cases hp : Shape p
      · rw [decide_eq_true hp] at hsh
        have HSH := Lib.hid hsh
        have HP := Lib.hid hp
        clear hsh hp
        go_wp2_with fail
        refine HSH.out.mono ?_
        rintro e w2 ⟨rfl, hb2⟩
        have HB2 := Lib.hid (HB.out.trans (hb2.mono hszr))
        clear hb2
        go_wp2
        go_roundw
        case rel =>
          refine ⟨k + 1, by omega, by go_num, ?_, HB2.out⟩
          rw [HTK.out]
          intro q hq
          rcases List.mem_append.1 hq with hq | hq
          · exact HS.out q hq
          · rw [List.mem_singleton.1 hq]; exact HP.out
        case measure => simp [intOf]; omega
      · rw [decide_eq_false hp] at hsh
        have hno : ¬ Pcs ps := fun h => hp (h.1 p HMEM.out)
        have HV := Lib.hid (decide_eq_false hno)
        have HSH := Lib.hid hsh
        clear hsh hp hno
        go_wp2_with fail
        refine HSH.out.mono ?_
        rintro e w2 ⟨rfl, hb2⟩
        have HB2 := Lib.hid (HB.out.trans (hb2.mono hszr))
        clear hb2
        go_wp2
        go_ret
        rw [HV.out]
        exact ⟨rfl, HB2.out⟩
    · obtain rfl : k = ps.length := by omega
      rw [List.take_length] at HS
      have hv : decide (Pcs ps) = (decide ((1 : Int) ≤ (ps.length : Int)) && decide ((ps.length : Int) ≤ 5)) := by
        rw [Bool.eq_iff_iff, Bool.and_eq_true, decide_eq_true_iff, decide_eq_true_iff, decide_eq_true_iff]
        exact ⟨fun h => ⟨by have := h.2.1; omega, by have := h.2.2; omega⟩, fun h => ⟨HS.out, by omega, by omega⟩⟩
      have HV := Lib.hid hv
      clear hv
      go_wp2_with fail
      refine (l1In_any _ _ _ _).mono ?_
      rintro e w2 ⟨rfl, rfl⟩
      go_wp2
      go_ret
      rw [HV.out]
      exact ⟨rfl, HB.out⟩

set_option maxRecDepth 100000 in
set_option maxHeartbeats 1600000 in
theorem implPieces (ad : Option Addr) (c : Nat) (ps : List (List Cl)) (w : World) (hn : ps.length ≤ 1048576) (hl : ∀ p ∈ ps, p.length ≤ 1048576) (hc : ShpsAt w ad ps) :
    Calls Tryz.prog 77 #[.slice ad ps.length c] w fun e w' => e = .returned (.bool (decide (Pcs ps))) ∧ Below w.heap.size w w' := by
  have HC := Lib.hid hc
  have HL := Lib.hid hl
  clear hc hl
  go_enter Tryz.func77, Tryz.ntmps77
  go_wp2
  go_loopw [7] (fun i wr => ∃ k : Nat, k ≤ ps.length ∧ i = .int .i64 k ∧ (∀ p ∈ ps.take k, Shape p) ∧ Below w.heap.size w wr) (fun i _ => ps.length - (intOf i).toNat)
  case atStart => exact ⟨0, Nat.zero_le _, rfl, by simp, Below.refl _ _⟩
  case round =>
    obtain ⟨k, hk, rfl, hs, hb⟩ := hrel
    have HS := Lib.hid hs
    have HB := Lib.hid hb
    have hszr := hb.size
    clear hs
    by_cases hlt : k < ps.length
    · obtain ⟨g, off, ai, ci, rfl, hg, hcell, hrow⟩ := HC.out.row hlt
      have x0 := (hb.cell (p := ⟨g, off + k, none⟩) hg).trans hcell
      have hpl := HL.out _ (List.getElem_mem hlt)
      have htk := List.take_succ_eq_append_getElem hlt
      have i1 : (k : Int) < (ps.length : Int) := by omega
      have hsh := implShape ai ci ps[k] wr hpl (hrow.below hb)
      have hmem := List.getElem_mem hlt
      have HTK := Lib.hid htk
      have HMEM := Lib.hid hmem
      clear hcell hrow htk hb hmem
      generalize ps[k] = p at x0 hsh hpl HTK HMEM
      by_cases hp : Shape p
      · rw [decide_eq_true hp] at hsh
        have HSH := Lib.hid hsh
        have HP := Lib.hid hp
        clear hsh hp
        go_wp2_with fail
        refine HSH.out.mono ?_
        rintro e w2 ⟨rfl, hb2⟩
        have HB2 := Lib.hid (HB.out.trans (hb2.mono hszr))
        clear hb2
        go_wp2
        go_roundw
        case rel =>
          refine ⟨k + 1, by omega, by go_num, ?_, HB2.out⟩
          rw [HTK.out]
          intro q hq
          rcases List.mem_append.1 hq with hq | hq
          · exact HS.out q hq
          · rw [List.mem_singleton.1 hq]; exact HP.out
        case measure => simp [intOf]; omega
      · rw [decide_eq_false hp] at hsh
        have hno : ¬ Pcs ps := fun h => hp (h.1 p HMEM.out)
        have HV := Lib.hid (decide_eq_false hno)
        have HSH := Lib.hid hsh
        clear hsh hp hno
        go_wp2_with fail
        refine HSH.out.mono ?_
        rintro e w2 ⟨rfl, hb2⟩
        have HB2 := Lib.hid (HB.out.trans (hb2.mono hszr))
        clear hb2
        go_wp2
        go_ret
        rw [HV.out]
        exact ⟨rfl, HB2.out⟩
    · obtain rfl : k = ps.length := by omega
      rw [List.take_length] at HS
      have hv : decide (Pcs ps) = (decide ((1 : Int) ≤ (ps.length : Int)) && decide ((ps.length : Int) ≤ 5)) := by
        rw [Bool.eq_iff_iff, Bool.and_eq_true, decide_eq_true_iff, decide_eq_true_iff, decide_eq_true_iff]
        exact ⟨fun h => ⟨by have := h.2.1; omega, by have := h.2.2; omega⟩, fun h => ⟨HS.out, by omega, by omega⟩⟩
      have HV := Lib.hid hv
      clear hv
      go_wp2_with fail
      refine (between_any _ _ _ _).mono ?_
      rintro e w2 ⟨rfl, rfl⟩
      go_wp2
      go_ret
      rw [HV.out]
      exact ⟨rfl, HB.out⟩
end Go.Proofs.YtcoggnoeafpgbaaGreat
