/- FFI: the walk of the program's faultFree: the tilings without faults among the first 500. -/
import Derived.Test.YtomaihbaffoplaaGreatDoorAllFir
import Derived.Test.YtomaihbaffoplaaGreatDoorProb
import Derived.Test.YtomaihbaffoplaaGreatDoorFaults
import Derived.Deep.RegionHeld3
import Derived.BigRegion
namespace Go.Proofs.YtomaihbaffoplaaGreatDoor
open Go.RowKit

attribute [local go_sem ↓] Go.wp_at_zero Go.wp_at_succ

/-- A row of a slice of rows. -/
theorem OwnW.row {w : World} {base n c : Nat} {ad : Option Addr} {rows : List (List Int)} (h : OwnW w base (.slice ad n c) rows) {i : Nat} (hi : i < rows.length) :
    ∃ g ai ci, ad = some ⟨g, 0, none⟩ ∧ g < w.heap.size ∧ w.cell? ⟨g, i, none⟩ = some (.slice ai rows[i].length ci) ∧ w.ownsRow base 3 1 (.slice ai rows[i].length ci) rows[i].length (ints rows[i]) := by
  obtain ⟨vals, h1, h2, h3⟩ := h
  obtain ⟨ai, ci, q1, q2⟩ := h3 i rows[i] (by simp [hi])
  obtain ⟨g, c', hv, hb, hlt⟩ := h1.form (show 0 < rows.length by omega)
  cases hv
  refine ⟨g, ai, ci, rfl, hlt, ?_, q2⟩
  rw [h1.cellAt i (by omega)]
  exact q1

set_option maxRecDepth 100000 in
set_option maxHeartbeats 3200000 in
theorem implFF (B : Nat) (ad : Option Addr) (c : Nat) (xs : List Int) (sa : Option Addr) (cs : Nat) (ps : List (List Cl)) (w : World) (hr : Reg (B : Int) xs) (hp : Pcs ps) (hT : Tab w) (hc : CellsAt w ad (ints xs)) (hcp : ShpsAt w sa ps) :
    Calls Tryz.prog 36 #[.agg #[.int .i64 B, .slice ad xs.length c], .slice sa ps.length cs] w fun e w' => ∃ ad' cap', e = .returned (.slice ad' (ffL B xs ps).length cap') ∧ OwnW w' w.heap.size (.slice ad' (ffL B xs ps).length cap') (ffL B xs ps) ∧ Below w.heap.size w w' := by
  rw [ffL_yes hr hp]
  have HC := Lib.hid hc
  have HCP := Lib.hid hcp
  have HT := Lib.hid hT
  have hlx : xs.length ≤ 1048576 := by have := hr.2.1.2; omega
  have hlen := allL_length hr hp
  have HSM := Lib.hid (allL_mk hr hp)
  have HAL := Lib.hid (fun w' h1 h2 => implAll B ad c xs sa cs ps w' hr hp h1 h2)
  have HMK := Lib.hid (fun w' h1 => implMask B ad c xs w' hr h1)
  have hml : regMask (B : Int) xs < 68719476736 := by have := regMask_lt hr; omega
  clear hc hcp hT hr hp
  generalize allL B xs ps = A at HAL hlen HSM ⊢
  generalize regMask (B : Int) xs = M at HMK hml ⊢
  have HFI := Lib.hid (fun aa ca w1 h1 h2 => implFirst aa ca A M 500 w1 (by omega) HSM.out hml (by omega) (by omega) h1 h2)
  have HWF := Lib.hid (fun l (h : l ∈ (srchF A M M).take 500) => srchF_wf HSM.out M M l (List.mem_of_mem_take h))
  have H36 := Lib.hid (fun l (h : l ∈ (srchF A M M).take 500) => srchF_len36 (f := M) HSM.out hml l (List.mem_of_mem_take h))
  have hT500 : ((srchF A M M).take 500).length ≤ 500 := by rw [List.length_take]; exact Nat.min_le_left _ _
  generalize (srchF A M M).take 500 = T at HFI HWF H36 hT500 ⊢
  obtain ⟨wA, hwA⟩ : ∃ wA, wA = w.alloc (.cells #[.int .i64 B, .slice ad xs.length c] 29) := ⟨_, rfl⟩
  have hbA : Below w.heap.size w wA := by rw [hwA]; exact (Below.refl _ _).alloc (Nat.le_refl _) _
  have hzA : wA.heap.size = w.heap.size + 1 := by rw [hwA]; simp
  have hblkA : wA.heap[w.heap.size]? = some (.cells #[.int .i64 B, .slice ad xs.length c] 29 (0, 0)) := by rw [hwA]; exact heap_alloc_new w _
  have HBA := Lib.hid hbA
  have HBLKA := Lib.hid hblkA
  have HWA := Lib.hid hwA
  have hszA := hbA.size
  have x10 : wA.cell? ⟨w.heap.size, 0, none⟩ = some (.int .i64 B) := by rw [cell_of_row wA _ 0 _ _ _ hblkA]; rfl
  have x11 : wA.cell? ⟨w.heap.size, 1, none⟩ = some (.slice ad xs.length c) := by rw [cell_of_row wA _ 1 _ _ _ hblkA]; rfl
  clear hbA hblkA hwA
  have HT1 := Lib.hid (HT.out.below HBA.out)
  have hwlt : w.heap.size < wA.heap.size := by omega
  have HC1 := Lib.hid (HC.out.below HBA.out)
  have HCP1 := Lib.hid (HCP.out.below HBA.out)
  go_enter Tryz.func36, Tryz.ntmps36
  go_wp2
  rw [← HWA.out]
  clear HWA
  go_region_held3 (fun w' => w'.cell? ⟨w.heap.size, 0, none⟩ = some (.int .i64 B) ∧ w'.cell? ⟨w.heap.size, 1, none⟩ = some (.slice ad xs.length c)) (first | (go_keep; done) | exact ⟨((hb3'.trans (hb4'.mono hsz3)).cell (p := ⟨w.heap.size, 0, none⟩) (by show w.heap.size < _; omega)).trans x10, ((hb3'.trans (hb4'.mono hsz3)).cell (p := ⟨w.heap.size, 1, none⟩) (by show w.heap.size < _; omega)).trans x11⟩ | exact ⟨(hb3'.cell (p := ⟨w.heap.size, 0, none⟩) (by show w.heap.size < _; omega)).trans x10, (hb3'.cell (p := ⟨w.heap.size, 1, none⟩) (by show w.heap.size < _; omega)).trans x11⟩ | exact ⟨((hb3'.trans ((hb4'.trans (hb5'.mono hsz4)).mono hsz3)).cell (p := ⟨w.heap.size, 0, none⟩) (by show w.heap.size < _; omega)).trans x10, ((hb3'.trans ((hb4'.trans (hb5'.mono hsz4)).mono hsz3)).cell (p := ⟨w.heap.size, 1, none⟩) (by show w.heap.size < _; omega)).trans x11⟩)
    (first
      | (go_at_call 45; refine (HAL.out _ (by exact HC1.out) (by exact HCP1.out)).mono ?_; rintro e w3 ⟨a3, c3, rfl, ho3, hb3⟩; have hb3' : Below wA.heap.size wA w3 := (by first | exact hb3 | exact (Below.refl _ _).drew.trans hb3); have hsz3 := hb3'.size; have HA3 := Lib.hid (ownsRow_cellsAt ho3); have HC3 := Lib.hid (HC1.out.below hb3'))
      | (go_at_call 46; refine (HMK.out _ (by exact HC3.out)).mono ?_; rintro e w4 ⟨rfl, hb4⟩; have hb4' : Below w3.heap.size w3 w4 := (by first | exact hb4 | exact (Below.refl _ _).drew.trans hb4); have hsz4 := hb4'.size; have HA4 := Lib.hid (HA3.out.below hb4'))
      | (go_at_call 54; refine (HFI.out a3 c3 _ (by exact HT1.out.below (hb3'.trans (hb4'.mono hsz3))) (by exact HA4.out)).mono ?_; rintro e w5 ⟨a5, c5, rfl, ho5, hb5⟩; have hb5' : Below w4.heap.size w4 w5 := (by first | exact hb5 | exact (Below.refl _ _).drew.trans hb5); have ho5' : OwnW w5 w4.heap.size _ _ := ho5))
  have hb5A : Below wA.heap.size wA w5 := hb3'.trans ((hb4'.trans (hb5'.mono hsz4)).mono hsz3)
  have hw5 : w.heap.size < w5.heap.size := Nat.lt_of_lt_of_le hwlt hb5A.size
  have HB5 := Lib.hid (HBA.out.trans (hb5A.mono hszA))
  have HO5 := Lib.hid (ho5'.rebase (show w.heap.size ≤ w4.heap.size by omega))
  have hsz5 := HB5.out.size
  have hblk5 := (hb5A.block w.heap.size (by omega)).trans HBLKA.out
  have HBLK5 := Lib.hid hblk5
  have HC5 := Lib.hid (HC.out.below HB5.out)
  clear hblk5 hb5A hb3' hb4' hb5' ho5' x10 x11
  go_wp2
  go_loopw [5, 15] (fun s i wr => ∃ (k : Nat) (vals : List Value), k ≤ T.length ∧ i = .int .i64 k ∧ wr.ownsRow w5.heap.size 22 1 s (ffTo B xs T k).length vals ∧ RowsW w5 w.heap.size vals (ffTo B xs T k) ∧ Below w5.heap.size w5 wr) (fun _ i _ => T.length - (intOf i).toNat)
  case atStart => exact ⟨0, [], Nat.zero_le _, rfl, World.ownsRow_nil _ _ _ _, RowsW.nil _ _, Below.refl _ _⟩
  case round =>
    obtain ⟨k, vals, hk, rfl, hown, hrows, hb⟩ := hrel
    have HW := Lib.hid hown
    have HR := Lib.hid hrows
    have HB := Lib.hid hb
    have hszr := hb.size
    have hlff := ffTo_le B xs T k
    clear hown hrows hb
    by_cases hlt : k < T.length
    · obtain ⟨g, ai, ci, rfl, hg, y0, hrow⟩ := HO5.out.row hlt
      have y1 := (HB.out.cell (p := ⟨g, k, none⟩) hg).trans y0
      have h36 := H36.out _ (List.getElem_mem hlt)
      have hlk : T[k].length ≤ 1048576 := Nat.le_trans h36 (by decide)
      have hfl := fun w' h1 h2 => implFaults (B : Int) ad ai c ci xs (T[k]'hlt) w' hlx hlk (HWF.out _ (List.getElem_mem hlt)) h1 h2
      have HYES := Lib.hid (ffTo_yes (b := B) (xs := xs) hlt)
      have HNO := Lib.hid (ffTo_no (b := B) (xs := xs) hlt)
      have HRW := Lib.hid hrow
      have HRC := Lib.hid ((ownsRow_cellsAt hrow).below HB.out)
      have HFL := Lib.hid hfl
      have z0 := (HB.out.block w.heap.size (by omega)).trans HBLK5.out
      have x0 : wr.cell? ⟨w.heap.size, 0, none⟩ = some (.int .i64 B) := by rw [cell_of_row wr _ 0 _ _ _ z0]; rfl
      have x1 : wr.cell? ⟨w.heap.size, 1, none⟩ = some (.slice ad xs.length c) := by rw [cell_of_row wr _ 1 _ _ _ z0]; rfl
      clear hfl hrow y0 z0 hlk
      generalize T[k] = l at y1 h36 HFL HYES HNO HRW HRC
      generalize faultsL B xs l = fl at HFL HYES HNO
      go_wp2_with fail
      refine (HFL.out wr (HC5.out.below HB.out) HRC.out).mono ?_
      rintro e w6 ⟨a6, c6, rfl, _, hb6⟩
      have HB6 := Lib.hid (HB.out.trans (hb6.mono hszr))
      have HW6 := Lib.hid (ownsRow_far_below HW.out hb6 (Nat.le_refl _))
      have hsz6 := HB6.out.size
      clear hb6 x0 x1 y1 HW
      by_cases h0 : fl.length = 0
      · have e0 : ((fl.length : Int) == 0) = true := by simp [h0]
        have HY := Lib.hid (HYES.out h0)
        clear HYES HNO h0
        go_wp2_with (at_builtin; refine wpList_app1 rfl (.tmp 24) (.tmp 26) 53 rfl w5.heap.size 22 (.slice none 0 0) 1 24 Tryz.elemInts _ _ vals _ _ _ rfl rfl rfl HW6.out (by rfl) (by simp [Value.oneCell']) (by unfold maxLen; omega) (by omega) (by omega) ?_; intro g' cap w7 q1 q2 q3 q4 q5 q6)
        go_wp2
        go_roundw
        case rel =>
          refine ⟨k + 1, vals ++ [.slice ai l.length ci], by omega, by go_num, ?_, ?_, HB6.out.trans q2⟩
          · rw [HY.out, List.length_append, List.length_singleton]
            exact q1
          · rw [HY.out]
            exact HR.out.snoc HRW.out
        case measure => simp [intOf]; omega
      · have e0 : ((fl.length : Int) == 0) = false := by rw [beq_eq_false_iff_ne]; omega
        have HN := Lib.hid (HNO.out h0)
        clear HYES HNO h0
        go_wp2
        go_roundw
        case rel => exact ⟨k + 1, vals, by omega, by go_num, by rw [HN.out]; exact HW6.out, by rw [HN.out]; exact HR.out, HB6.out⟩
        case measure => simp [intOf]; omega
    · obtain rfl : k = T.length := by omega
      obtain ⟨ao, co, rfl, _⟩ := ownsRow_cells HW.out
      go_wp2
      go_ret
      exact ⟨ao, co, rfl, ⟨vals, ownsRow_rebase HW.out hsz5, HR.out.below HB.out⟩, HB5.out.trans (HB.out.mono hsz5)⟩
end Go.Proofs.YtomaihbaffoplaaGreatDoor
