/- SameL: the laws' comparing of two equal lists of lists of numbers. -/
import Derived.Test.YtajmdgcnnipdoaaGreatDoorAllD0
import Derived.Test.YtajmdgcnnipdoaaGreatDoorAllRows
import Derived.StillTailTactics
namespace Go.Proofs.YtajmdgcnnipdoaaGreatDoor
open Go.RowKit

/-- A list of lists of numbers lies there. -/
def RowsAt (w : World) (ad : Option Addr) (rows : List (List Int)) : Prop :=
  ∀ (i : Nat) (h : i < rows.length), ∃ g off ai ci, ad = some ⟨g, off, none⟩ ∧ g < w.heap.size ∧ w.cell? ⟨g, off + i, none⟩ = some (.slice ai rows[i].length ci) ∧ CellsAt w ai (ints rows[i])
theorem RowsAt.below {w w' : World} {ad : Option Addr} {rows : List (List Int)} (h : RowsAt w ad rows) (hb : Below w.heap.size w w') : RowsAt w' ad rows := by
  intro i hi
  obtain ⟨g, off, ai, ci, h1, h2, h3, h4⟩ := h i hi
  exact ⟨g, off, ai, ci, h1, Nat.lt_of_lt_of_le h2 hb.size, (hb.cell (p := ⟨g, off + i, none⟩) h2).trans h3, h4.below hb⟩
theorem OwnMat.rowsAt {w : World} {base n c : Nat} {ad : Option Addr} {rows : List (List Int)} (h : OwnMat w base (.slice ad n c) rows) : RowsAt w ad rows := by
  intro i hi
  obtain ⟨vals, h1, h2, h3, _⟩ := h
  obtain ⟨ai, ci, q1, q2⟩ := h3 i rows[i] (by simp [hi])
  obtain ⟨g, c', hv, hb, hlt⟩ := h1.form (show 0 < rows.length by omega)
  cases hv
  refine ⟨g, 0, ai, ci, rfl, hlt, ?_, ownsRow_cellsAt q2⟩
  rw [Nat.zero_add, h1.cellAt i (by omega)]
  exact q1

set_option maxRecDepth 100000 in
set_option maxHeartbeats 1600000 in
theorem sameLists_same (a1 a2 : Option Addr) (c1 c2 : Nat) (rs : List (List Int)) (w : World) (hn : rs.length ≤ 1048576) (hr : ∀ r ∈ rs, r.length ≤ 1048576) (hc1 : RowsAt w a1 rs) (hc2 : RowsAt w a2 rs) :
    Calls Tryz.prog 25 #[.slice a1 rs.length c1, .slice a2 rs.length c2] w fun e w' => e = .returned (.bool true) ∧ Below w.heap.size w w' := by
  have HS := Lib.hid (fun k (hk : k < rs.length) => hr _ (List.getElem_mem hk))
  have H1 := Lib.hid hc1
  have H2 := Lib.hid hc2
  have hne : ((rs.length : Int) != (rs.length : Int)) = false := by simp
  clear hc1 hc2 hr
  go_enter Tryz.func25, Tryz.ntmps25
  go_wp2
  go_loopw [5] (fun i wr => ∃ k : Nat, k ≤ rs.length ∧ i = .int .i64 k ∧ Below w.heap.size w wr) (fun i _ => rs.length - (intOf i).toNat)
  case atStart => exact ⟨0, by omega, rfl, Below.refl _ _⟩
  case round =>
    obtain ⟨k, hk, rfl, hb⟩ := hrel
    have HB := Lib.hid hb
    have hszr := hb.size
    by_cases hlt : k < rs.length
    · obtain ⟨g, off, ai, ci, rfl, hg, hcell, hrow⟩ := H1.out k hlt
      obtain ⟨g', off', ai', ci', rfl, hg', hcell', hrow'⟩ := H2.out k hlt
      have x0 := (hb.cell (p := ⟨g, off + k, none⟩) hg).trans hcell
      have y0 := (hb.cell (p := ⟨g', off' + k, none⟩) hg').trans hcell'
      have hpl := HS.out k hlt
      have i1 : (k : Int) < (rs.length : Int) := by omega
      have HE := Lib.hid (sameInts_same ai ai' ci ci' rs[k] wr.drew hpl (hrow.below hb.drew) (hrow'.below hb.drew))
      clear hcell hrow hcell' hrow' hb
      generalize rs[k] = p at x0 y0 hpl HE
      go_wp2
      go_still_tail 8, (by kernel_rfl)
      go_wp2_with fail
      refine HE.out.mono ?_
      rintro e w2 ⟨rfl, hb2⟩
      have HB2 := Lib.hid (HB.out.trans (((Below.refl _ _).drew.trans (hb2.mono (Nat.le_refl _))).mono hszr))
      clear hb2
      go_wp2
      go_roundw
      case rel => exact ⟨k + 1, by omega, by go_num, HB2.out⟩
      case measure => simp [intOf]; omega
    · obtain rfl : k = rs.length := by omega
      go_wp2
      go_ret
      exact ⟨rfl, HB.out⟩
end Go.Proofs.YtajmdgcnnipdoaaGreatDoor
