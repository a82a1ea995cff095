/- AllFFI: parts laid together: FFI, FFP. -/
import Derived.Test.YtajmdgcnnipdoaaGreatDoorAllFir
import Derived.Test.YtajmdgcnnipdoaaGreatDoorAllArea
import Derived.Test.YtajmdgcnnipdoaaGreatDoorAllFa
import Derived.Deep.RegionHeld3
import Derived.BigRegion
import Derived.Deep.DrawnRows
import Derived.Test.YtajmdgcnnipdoaaGreatDoorAllCv
import Derived.Lib.QuietBelow
import Derived.BigQuiet

/- FFI: the walk of the program's faultFree: the tilings without faults among the first 500. -/
namespace Go.Proofs.YtajmdgcnnipdoaaGreatDoor
open Go.RowKit

attribute [local go_sem ↓] Go.wp_at_zero Go.wp_at_succ

/-- A row of a slice of rows. -/
theorem OwnW.row {w : World} {base n c : Nat} {ad : Option Addr} {rows : List (List Int)} (h : OwnW w base (.slice ad n c) rows) {i : Nat} (hi : i < rows.length) :
    ∃ g ai ci, ad = some ⟨g, 0, none⟩ ∧ g < w.heap.size ∧ w.cell? ⟨g, i, none⟩ = some (.slice ai rows[i].length ci) ∧ w.ownsRow base 3 1 (.slice ai rows[i].length ci) rows[i].length (ints rows[i]) := by
  obtain ⟨vals, h1, h2, h3⟩ := h
  obtain ⟨ai, ci, q1, q2⟩ := h3 i rows[i] (by simp [hi])
  obtain ⟨g, c', hv, hb, hlt⟩ := h1.form (show 0 < rows.length by omega)
  cases hv
  refine ⟨g, ai, ci, rfl, hlt, ?_, q2⟩
  rw [h1.cellAt i (by omega)]
  exact q1

set_option maxRecDepth 100000 in
set_option maxHeartbeats 3200000 in
theorem implFF (B : Nat) (ad : Option Addr) (c : Nat) (xs : List Int) (sa : Option Addr) (cs : Nat) (ps : List (List Cl)) (w : World) (hr : Reg (B : Int) xs) (hp : Pcs ps) (hT : Tab w) (hc : CellsAt w ad (ints xs)) (hcp : ShpsAt w sa ps) :
    Calls Tryz.prog 73 #[.agg #[.int .i64 B, .slice ad xs.length c], .slice sa ps.length cs] w fun e w' => ∃ ad' cap', e = .returned (.slice ad' (ffL B xs ps).length cap') ∧ OwnW w' w.heap.size (.slice ad' (ffL B xs ps).length cap') (ffL B xs ps) ∧ Below w.heap.size w w' := by
  rw [ffL_yes hr hp]
  have HC := Lib.hid hc
  have HCP := Lib.hid hcp
  have HT := Lib.hid hT
  have hlx : xs.length ≤ 1048576 := by have := hr.2.1.2; omega
  have hlen := allL_length hr hp
  have HSM := Lib.hid (allL_mk hr hp)
  have HAL := Lib.hid (fun w' h1 h2 => implAll B ad c xs sa cs ps w' hr hp h1 h2)
  have HMK := Lib.hid (fun w' h1 => implMask B ad c xs w' hr h1)
  have hml : regMask (B : Int) xs < 68719476736 := by have := regMask_lt hr; omega
  clear hc hcp hT hr hp
  generalize allL B xs ps = A at HAL hlen HSM ⊢
  generalize regMask (B : Int) xs = M at HMK hml ⊢
  have HFI := Lib.hid (fun aa ca w1 h1 h2 => implFirst aa ca A M 500 w1 (by omega) HSM.out hml (by omega) (by omega) h1 h2)
  have HWF := Lib.hid (fun l (h : l ∈ (srchF A M M).take 500) => srchF_wf HSM.out M M l (List.mem_of_mem_take h))
  have H36 := Lib.hid (fun l (h : l ∈ (srchF A M M).take 500) => srchF_len36 (f := M) HSM.out hml l (List.mem_of_mem_take h))
  have hT500 : ((srchF A M M).take 500).length ≤ 500 := by rw [List.length_take]; exact Nat.min_le_left _ _
  generalize (srchF A M M).take 500 = T at HFI HWF H36 hT500 ⊢
  obtain ⟨wA, hwA⟩ : ∃ wA, wA = w.alloc (.cells #[.int .i64 B, .slice ad xs.length c] 26) := ⟨_, rfl⟩
  have hbA : Below w.heap.size w wA := by rw [hwA]; exact (Below.refl _ _).alloc (Nat.le_refl _) _
  have hzA : wA.heap.size = w.heap.size + 1 := by rw [hwA]; simp
  have hblkA : wA.heap[w.heap.size]? = some (.cells #[.int .i64 B, .slice ad xs.length c] 26 (0, 0)) := by rw [hwA]; exact heap_alloc_new w _
  have HBA := Lib.hid hbA
  have HBLKA := Lib.hid hblkA
  have HWA := Lib.hid hwA
  have hszA := hbA.size
  have x10 : wA.cell? ⟨w.heap.size, 0, none⟩ = some (.int .i64 B) := by rw [cell_of_row wA _ 0 _ _ _ hblkA]; rfl
  have x11 : wA.cell? ⟨w.heap.size, 1, none⟩ = some (.slice ad xs.length c) := by rw [cell_of_row wA _ 1 _ _ _ hblkA]; rfl
  clear hbA hblkA hwA
  have HT1 := Lib.hid (HT.out.below HBA.out)
  have hwlt : w.heap.size < wA.heap.size := by omega
  have HC1 := Lib.hid (HC.out.below HBA.out)
  have HCP1 := Lib.hid (HCP.out.below HBA.out)
  go_enter Tryz.func73, Tryz.ntmps73
  go_wp2
  rw [← HWA.out]
  clear HWA
  go_region_held3 (fun w' => w'.cell? ⟨w.heap.size, 0, none⟩ = some (.int .i64 B) ∧ w'.cell? ⟨w.heap.size, 1, none⟩ = some (.slice ad xs.length c)) (first | (go_keep; done) | exact ⟨((hb3'.trans (hb4'.mono hsz3)).cell (p := ⟨w.heap.size, 0, none⟩) (by show w.heap.size < _; omega)).trans x10, ((hb3'.trans (hb4'.mono hsz3)).cell (p := ⟨w.heap.size, 1, none⟩) (by show w.heap.size < _; omega)).trans x11⟩ | exact ⟨(hb3'.cell (p := ⟨w.heap.size, 0, none⟩) (by show w.heap.size < _; omega)).trans x10, (hb3'.cell (p := ⟨w.heap.size, 1, none⟩) (by show w.heap.size < _; omega)).trans x11⟩ | exact ⟨((hb3'.trans ((hb4'.trans (hb5'.mono hsz4)).mono hsz3)).cell (p := ⟨w.heap.size, 0, none⟩) (by show w.heap.size < _; omega)).trans x10, ((hb3'.trans ((hb4'.trans (hb5'.mono hsz4)).mono hsz3)).cell (p := ⟨w.heap.size, 1, none⟩) (by show w.heap.size < _; omega)).trans x11⟩)
    (first
      | (go_at_call 76; refine (HAL.out _ (by exact HC1.out) (by exact HCP1.out)).mono ?_; rintro e w3 ⟨a3, c3, rfl, ho3, hb3⟩; have hb3' : Below wA.heap.size wA w3 := (by first | exact hb3 | exact (Below.refl _ _).drew.trans hb3); have hsz3 := hb3'.size; have HA3 := Lib.hid (ownsRow_cellsAt ho3); have HC3 := Lib.hid (HC1.out.below hb3'))
      | (go_at_call 77; refine (HMK.out _ (by exact HC3.out)).mono ?_; rintro e w4 ⟨rfl, hb4⟩; have hb4' : Below w3.heap.size w3 w4 := (by first | exact hb4 | exact (Below.refl _ _).drew.trans hb4); have hsz4 := hb4'.size; have HA4 := Lib.hid (HA3.out.below hb4'))
      | (go_at_call 119; refine (HFI.out a3 c3 _ (by exact HT1.out.below (hb3'.trans (hb4'.mono hsz3))) (by exact HA4.out)).mono ?_; rintro e w5 ⟨a5, c5, rfl, ho5, hb5⟩; have hb5' : Below w4.heap.size w4 w5 := (by first | exact hb5 | exact (Below.refl _ _).drew.trans hb5); have ho5' : OwnW w5 w4.heap.size _ _ := ho5))
  have hb5A : Below wA.heap.size wA w5 := hb3'.trans ((hb4'.trans (hb5'.mono hsz4)).mono hsz3)
  have hw5 : w.heap.size < w5.heap.size := Nat.lt_of_lt_of_le hwlt hb5A.size
  have HB5 := Lib.hid (HBA.out.trans (hb5A.mono hszA))
  have HO5 := Lib.hid (ho5'.rebase (show w.heap.size ≤ w4.heap.size by omega))
  have hsz5 := HB5.out.size
  have hblk5 := (hb5A.block w.heap.size (by omega)).trans HBLKA.out
  have HBLK5 := Lib.hid hblk5
  have HC5 := Lib.hid (HC.out.below HB5.out)
  clear hblk5 hb5A hb3' hb4' hb5' ho5' x10 x11
  go_wp2
  go_loopw [5, 15] (fun s i wr => ∃ (k : Nat) (vals : List Value), k ≤ T.length ∧ i = .int .i64 k ∧ wr.ownsRow w5.heap.size 24 1 s (ffTo B xs T k).length vals ∧ RowsW w5 w.heap.size vals (ffTo B xs T k) ∧ Below w5.heap.size w5 wr) (fun _ i _ => T.length - (intOf i).toNat)
  case atStart => exact ⟨0, [], Nat.zero_le _, rfl, World.ownsRow_nil _ _ _ _, RowsW.nil _ _, Below.refl _ _⟩
  case round =>
    obtain ⟨k, vals, hk, rfl, hown, hrows, hb⟩ := hrel
    have HW := Lib.hid hown
    have HR := Lib.hid hrows
    have HB := Lib.hid hb
    have hszr := hb.size
    have hlff := ffTo_le B xs T k
    clear hown hrows hb
    by_cases hlt : k < T.length
    · obtain ⟨g, ai, ci, rfl, hg, y0, hrow⟩ := HO5.out.row hlt
      have y1 := (HB.out.cell (p := ⟨g, k, none⟩) hg).trans y0
      have h36 := H36.out _ (List.getElem_mem hlt)
      have hlk : T[k].length ≤ 1048576 := Nat.le_trans h36 (by decide)
      have hfl := fun w' h1 h2 => implFaults (B : Int) ad ai c ci xs (T[k]'hlt) w' hlx hlk (HWF.out _ (List.getElem_mem hlt)) h1 h2
      have HYES := Lib.hid (ffTo_yes (b := B) (xs := xs) hlt)
      have HNO := Lib.hid (ffTo_no (b := B) (xs := xs) hlt)
      have HRW := Lib.hid hrow
      have HRC := Lib.hid ((ownsRow_cellsAt hrow).below HB.out)
      have HFL := Lib.hid hfl
      have z0 := (HB.out.block w.heap.size (by omega)).trans HBLK5.out
      have x0 : wr.cell? ⟨w.heap.size, 0, none⟩ = some (.int .i64 B) := by rw [cell_of_row wr _ 0 _ _ _ z0]; rfl
      have x1 : wr.cell? ⟨w.heap.size, 1, none⟩ = some (.slice ad xs.length c) := by rw [cell_of_row wr _ 1 _ _ _ z0]; rfl
      clear hfl hrow y0 z0 hlk
      generalize T[k] = l at y1 h36 HFL HYES HNO HRW HRC
      generalize faultsL B xs l = fl at HFL HYES HNO
      go_wp2_with fail
      refine (HFL.out wr (HC5.out.below HB.out) HRC.out).mono ?_
      rintro e w6 ⟨a6, c6, rfl, _, hb6⟩
      have HB6 := Lib.hid (HB.out.trans (hb6.mono hszr))
      have HW6 := Lib.hid (ownsRow_far_below HW.out hb6 (Nat.le_refl _))
      have hsz6 := HB6.out.size
      clear hb6 x0 x1 y1 HW
      by_cases h0 : fl.length = 0
      · have e0 : ((fl.length : Int) == 0) = true := by simp [h0]
        have HY := Lib.hid (HYES.out h0)
        clear HYES HNO h0
        go_wp2_with (at_builtin; refine wpList_app1 rfl (.tmp 24) (.tmp 26) 44 rfl w5.heap.size 24 (.slice none 0 0) 1 24 Tryz.elemInts _ _ vals _ _ _ rfl rfl rfl HW6.out (by rfl) (by simp [Value.oneCell']) (by unfold maxLen; omega) (by omega) (by omega) ?_; intro g' cap w7 q1 q2 q3 q4 q5 q6)
        go_wp2
        go_roundw
        case rel =>
          refine ⟨k + 1, vals ++ [.slice ai l.length ci], by omega, by go_num, ?_, ?_, HB6.out.trans q2⟩
          · rw [HY.out, List.length_append, List.length_singleton]
            exact q1
          · rw [HY.out]
            exact HR.out.snoc HRW.out
        case measure => simp [intOf]; omega
      · have e0 : ((fl.length : Int) == 0) = false := by rw [beq_eq_false_iff_ne]; omega
        have HN := Lib.hid (HNO.out h0)
        clear HYES HNO h0
        go_wp2
        go_roundw
        case rel => exact ⟨k + 1, vals, by omega, by go_num, by rw [HN.out]; exact HW6.out, by rw [HN.out]; exact HR.out, HB6.out⟩
        case measure => simp [intOf]; omega
    · obtain rfl : k = T.length := by omega
      obtain ⟨ao, co, rfl, _⟩ := ownsRow_cells HW.out
      go_wp2
      go_ret
      exact ⟨ao, co, rfl, ⟨vals, ownsRow_rebase HW.out hsz5, HR.out.below HB.out⟩, HB5.out.trans (HB.out.mono hsz5)⟩
end Go.Proofs.YtajmdgcnnipdoaaGreatDoor

/- FFP: the walks of the program's IsFaultFree, FindFaultFree and CountFaultFree. -/
namespace Go.Proofs.YtajmdgcnnipdoaaGreatDoor
open Go.RowKit

attribute [local go_sem ↓] Go.wp_at_zero Go.wp_at_succ

/-- Whether masks tile a region. -/
def tilR (b : Int) (xs : List Int) (ps : List (List Cl)) (l : List Int) : Bool := decide (Reg b xs ∧ Pcs ps) && covL (allL b.toNat xs ps) (regMask b xs) l
theorem tilR_yes {B : Nat} {xs : List Int} {ps : List (List Cl)} {l : List Int} (hr : Reg (B : Int) xs) (hp : Pcs ps) : tilR B xs ps l = covL (allL B xs ps) (regMask B xs) l := by
  unfold tilR
  rw [decide_eq_true ⟨hr, hp⟩, Int.toNat_natCast, Bool.true_and]
theorem tilR_no {b : Int} {xs : List Int} {ps : List (List Cl)} {l : List Int} (h : ¬ (Reg b xs ∧ Pcs ps)) : tilR b xs ps l = false := by
  unfold tilR
  rw [decide_eq_false h, Bool.false_and]
def iffR (b : Int) (xs : List Int) (ps : List (List Cl)) (l : List Int) : Bool := tilR b xs ps l && decide ((faultsL b xs l).length = 0)
def cffR (b : Int) (xs : List Int) (ps : List (List Cl)) : Int := if Reg b xs ∧ Pcs ps then ((ffL b xs ps).length : Nat) else -1

set_option maxRecDepth 100000 in
set_option maxHeartbeats 3200000 in
theorem implTil (b : Int) (ad : Option Addr) (c : Nat) (xs : List Int) (sa : Option Addr) (cs : Nat) (ps : List (List Cl)) (al : Option Addr) (cl : Nat) (l : List Int) (w : World) (hn : xs.length ≤ 1048576) (hnp : ps.length ≤ 1048576) (hl : ∀ p ∈ ps, p.length ≤ 1048576) (hnl : l.length ≤ 1048576) (hT : Tab w) (hc : CellsAt w ad (ints xs)) (hcp : ShpsAt w sa ps) (hcl : CellsAt w al (ints l)) :
    Calls Tryz.prog 65 #[.agg #[.int .i64 b, .slice ad xs.length c], .slice sa ps.length cs, .slice al l.length cl] w fun e w' => e = .returned (.bool (tilR b xs ps l)) ∧ Below w.heap.size w w' := by
  have HPR := Lib.hid (fun w' h1 h2 => implProb b ad c xs sa cs ps w' hn hnp hl h1 h2)
  have HC := Lib.hid hc
  have HCP := Lib.hid hcp
  have HCL := Lib.hid hcl
  have HT := Lib.hid hT
  clear hc hcp hT hcl
  obtain ⟨wA, hwA⟩ : ∃ wA, wA = w.alloc (.cells #[.int .i64 b, .slice ad xs.length c] 26) := ⟨_, rfl⟩
  have hbA : Below w.heap.size w wA := by rw [hwA]; exact (Below.refl _ _).alloc (Nat.le_refl _) _
  have hzA : wA.heap.size = w.heap.size + 1 := by rw [hwA]; simp
  have hblkA : wA.heap[w.heap.size]? = some (.cells #[.int .i64 b, .slice ad xs.length c] 26 (0, 0)) := by rw [hwA]; exact heap_alloc_new w _
  have HBA := Lib.hid hbA
  have HBLKA := Lib.hid hblkA
  have HWA := Lib.hid hwA
  have hszA := hbA.size
  clear hbA hblkA hwA
  by_cases hok : Reg b xs ∧ Pcs ps
  · obtain ⟨hr, hp⟩ := hok
    have hbn : b = (b.toNat : Int) := by have := hr.1.1; omega
    obtain ⟨B, hB⟩ : ∃ B, B = b.toNat := ⟨_, rfl⟩
    rw [← hB] at hbn
    rw [decide_eq_true hr, decide_eq_true hp] at HPR
    simp only [Bool.true_and] at HPR
    have hrB : Reg (B : Int) xs := by rw [← hbn]; exact hr
    have hal0 := fun w' h1 h2 => implAll B ad c xs sa cs ps w' hrB hp h1 h2
    have hmk0 := fun w' h1 => implMask B ad c xs w' hrB h1
    rw [← hbn] at hal0 hmk0
    have HAL := Lib.hid hal0
    have HMK := Lib.hid hmk0
    have hlen := allL_length hrB hp
    have HSM := Lib.hid (allL_mk hrB hp)
    have hf : tilR b xs ps l = covL (allL B xs ps) (regMask b xs) l := by rw [hbn]; exact tilR_yes hrB hp
    have hml : regMask b xs < 68719476736 := by have := regMask_lt hr; omega
    rw [hf]
    clear hal0 hmk0 hrB hr hp hbn hB hl hf
    generalize allL B xs ps = A at HAL hlen HSM ⊢
    generalize regMask b xs = M at HMK hml ⊢
    have HCU := Lib.hid (fun aa ca w1 h1 h2 h3 => implCover aa ca A M al cl l w1 (by omega) HSM.out hnl h1 h2 h3)
    generalize covL A M l = r0 at HCU ⊢
    have x10 : wA.cell? ⟨w.heap.size, 0, none⟩ = some (.int .i64 b) := by rw [cell_of_row wA _ 0 _ _ _ HBLKA.out]; rfl
    have x11 : wA.cell? ⟨w.heap.size, 1, none⟩ = some (.slice ad xs.length c) := by rw [cell_of_row wA _ 1 _ _ _ HBLKA.out]; rfl
    have HTA := Lib.hid (HT.out.below HBA.out)
    have hwlt : w.heap.size < wA.heap.size := by omega
    have HCA := Lib.hid (HC.out.below HBA.out)
    have HCPA := Lib.hid (HCP.out.below HBA.out)
    have HCLA := Lib.hid (HCL.out.below HBA.out)
    go_enter Tryz.func65, Tryz.ntmps65
    go_wp2
    rw [← HWA.out]
    go_region_held3 (fun w' => w'.cell? ⟨w.heap.size, 0, none⟩ = some (.int .i64 b) ∧ w'.cell? ⟨w.heap.size, 1, none⟩ = some (.slice ad xs.length c)) (first | (go_keep; done) | exact ⟨(hA5.cell (p := ⟨w.heap.size, 0, none⟩) (by show w.heap.size < _; omega)).trans x10, (hA5.cell (p := ⟨w.heap.size, 1, none⟩) (by show w.heap.size < _; omega)).trans x11⟩ | exact ⟨(hA4.cell (p := ⟨w.heap.size, 0, none⟩) (by show w.heap.size < _; omega)).trans x10, (hA4.cell (p := ⟨w.heap.size, 1, none⟩) (by show w.heap.size < _; omega)).trans x11⟩ | exact ⟨(hA3.cell (p := ⟨w.heap.size, 0, none⟩) (by show w.heap.size < _; omega)).trans x10, (hA3.cell (p := ⟨w.heap.size, 1, none⟩) (by show w.heap.size < _; omega)).trans x11⟩ | exact ⟨(hA1.cell (p := ⟨w.heap.size, 0, none⟩) (by show w.heap.size < _; omega)).trans x10, (hA1.cell (p := ⟨w.heap.size, 1, none⟩) (by show w.heap.size < _; omega)).trans x11⟩)
      (first
        | (go_at_call 72; refine (HPR.out _ (by exact HCA.out) (by exact HCPA.out)).mono ?_; rintro e w1 ⟨rfl, hb1⟩; have hA1 : Below wA.heap.size wA w1 := (by first | exact hb1 | exact (Below.refl _ _).drew.trans hb1); have hs1 := hA1.size; have HC1 := Lib.hid (HCA.out.below hA1); have HCP1 := Lib.hid (HCPA.out.below hA1))
        | (go_at_call 76; refine (HAL.out _ (by exact HC1.out) (by exact HCP1.out)).mono ?_; rintro e w3 ⟨a3, c3, rfl, ho3, hb3⟩; have hb3' : Below w1.heap.size w1 w3 := (by first | exact hb3 | exact (Below.refl _ _).drew.trans hb3); have hA3 := hA1.trans (hb3'.mono hs1); have hs3 := hA3.size; have hsz3 := hb3'.size; have HA3 := Lib.hid (ownsRow_cellsAt ho3); have HC3 := Lib.hid (HC1.out.below hb3'))
        | (go_at_call 77; refine (HMK.out _ (by exact HC3.out)).mono ?_; rintro e w4 ⟨rfl, hb4⟩; have hb4' : Below w3.heap.size w3 w4 := (by first | exact hb4 | exact (Below.refl _ _).drew.trans hb4); have hA4 := hA3.trans (hb4'.mono hs3); have hs4 := hA4.size; have HA4 := Lib.hid (HA3.out.below hb4'))
        | (go_at_call 94; refine (HCU.out a3 c3 _ (by exact HTA.out.below hA4) (by exact HA4.out) (by exact HCLA.out.below hA4)).mono ?_; rintro e w5 ⟨rfl, hb5⟩; have hb5' : Below w4.heap.size w4 w5 := (by first | exact hb5 | exact (Below.refl _ _).drew.trans hb5); have hA5 := hA4.trans (hb5'.mono hs4)))
    have HB5 := Lib.hid (HBA.out.trans (hA5.mono hszA))
    go_wp2
    go_ret
    exact ⟨rfl, HB5.out⟩
  · have hf2 : (decide (Reg b xs) && decide (Pcs ps)) = false := by
      by_cases h1 : Reg b xs
      · have h2 : ¬ Pcs ps := fun q => hok ⟨h1, q⟩
        rw [decide_eq_false h2]
        simp
      · rw [decide_eq_false h1]
        rfl
    rw [hf2] at HPR
    rw [tilR_no hok]
    clear hf2 hok hl
    have x10 : wA.cell? ⟨w.heap.size, 0, none⟩ = some (.int .i64 b) := by rw [cell_of_row wA _ 0 _ _ _ HBLKA.out]; rfl
    have x11 : wA.cell? ⟨w.heap.size, 1, none⟩ = some (.slice ad xs.length c) := by rw [cell_of_row wA _ 1 _ _ _ HBLKA.out]; rfl
    have X10 := cell_regrown x10
    have X11 := cell_regrown x11
    have HCALL := Lib.hid (fun d os => Calls.regrown_of (d := d) (os := os) (HPR.out (Go.Sort.grow (redrawn wA d) os) (HC.out.below (HBA.out.trans ((below_regrown wA d os).mono hszA))) (HCP.out.below (HBA.out.trans ((below_regrown wA d os).mono hszA)))))
    clear x10 x11
    go_enter Tryz.func65, Tryz.ntmps65
    go_wp2
    rw [← HWA.out]
    refine wp_region_quiet_below (by kernel_rfl) (by kernel_rfl) ?_
    repeat (go_big_quiet_step (exact HCALL.out _ _))
    refine wpQuiet_nil ?_
    intro _ hw'
    obtain ⟨⟨dq, osq⟩, hw''⟩ := hw'
    subst hw''
    have hbr := below_regrown wA dq osq
    generalize Go.Sort.grow (redrawn wA dq) osq = w1 at hbr ⊢
    have HB1 := Lib.hid (HBA.out.trans (hbr.mono hszA))
    clear hbr X10 X11
    go_wp2
    go_ret
    exact ⟨rfl, HB1.out⟩

set_option maxRecDepth 100000 in
set_option maxHeartbeats 3200000 in
theorem implIFF (b : Int) (ad : Option Addr) (c : Nat) (xs : List Int) (sa : Option Addr) (cs : Nat) (ps : List (List Cl)) (al : Option Addr) (cl : Nat) (l : List Int) (w : World) (hn : xs.length ≤ 1048576) (hnp : ps.length ≤ 1048576) (hl : ∀ p ∈ ps, p.length ≤ 1048576) (hnl : l.length ≤ 1048576) (hwl : ∀ x ∈ l, (Lit.int .i64 x).wf = true) (hT : Tab w) (hc : CellsAt w ad (ints xs)) (hcp : ShpsAt w sa ps) (hcl : CellsAt w al (ints l)) :
    Calls Tryz.prog 13 #[.agg #[.int .i64 b, .slice ad xs.length c], .slice sa ps.length cs, .slice al l.length cl] w fun e w' => e = .returned (.bool (iffR b xs ps l)) ∧ Below w.heap.size w w' := by
  have HTL := Lib.hid (fun w' h1 h2 h3 h4 => implTil b ad c xs sa cs ps al cl l w' hn hnp hl hnl h1 h2 h3 h4)
  have HFL := Lib.hid (fun w' h1 h2 => implFaults b ad al c cl xs l w' hn hnl hwl h1 h2)
  have hdef : iffR b xs ps l = (tilR b xs ps l && decide ((faultsL b xs l).length = 0)) := rfl
  have HC := Lib.hid hc
  have HCP := Lib.hid hcp
  have HCL := Lib.hid hcl
  have HT := Lib.hid hT
  rw [hdef]
  clear hc hcp hT hcl hl hwl hdef
  generalize faultsL b xs l = fl at HFL ⊢
  generalize tilR b xs ps l = tb at HTL ⊢
  obtain ⟨wA, hwA⟩ : ∃ wA, wA = w.alloc (.cells #[.int .i64 b, .slice ad xs.length c] 26) := ⟨_, rfl⟩
  have hbA : Below w.heap.size w wA := by rw [hwA]; exact (Below.refl _ _).alloc (Nat.le_refl _) _
  have hzA : wA.heap.size = w.heap.size + 1 := by rw [hwA]; simp
  have hblkA : wA.heap[w.heap.size]? = some (.cells #[.int .i64 b, .slice ad xs.length c] 26 (0, 0)) := by rw [hwA]; exact heap_alloc_new w _
  have HBA := Lib.hid hbA
  have HBLKA := Lib.hid hblkA
  have HWA := Lib.hid hwA
  have hszA := hbA.size
  clear hbA hblkA hwA
  cases tb with
  | false =>
    go_enter Tryz.func13, Tryz.ntmps13
    go_wp2_with fail
    rw [← HWA.out]
    refine (HTL.out wA (HT.out.below HBA.out) (HC.out.below HBA.out) (HCP.out.below HBA.out) (HCL.out.below HBA.out)).mono ?_
    rintro e w1 ⟨rfl, hb1⟩
    have HB1 := Lib.hid (HBA.out.trans (hb1.mono hszA))
    clear hb1
    go_wp2
    go_ret
    exact ⟨rfl, HB1.out⟩
  | true =>
    rw [Bool.true_and]
    go_enter Tryz.func13, Tryz.ntmps13
    go_wp2_with fail
    rw [← HWA.out]
    refine (HTL.out wA (HT.out.below HBA.out) (HC.out.below HBA.out) (HCP.out.below HBA.out) (HCL.out.below HBA.out)).mono ?_
    rintro e w1 ⟨rfl, hb1⟩
    have HB1 := Lib.hid (HBA.out.trans (hb1.mono hszA))
    have hsz1 := HB1.out.size
    have hs1A := hb1.size
    have hblk1 := (hb1.block w.heap.size (by omega)).trans HBLKA.out
    have x10 : w1.cell? ⟨w.heap.size, 0, none⟩ = some (.int .i64 b) := by rw [cell_of_row w1 _ 0 _ _ _ hblk1]; rfl
    have x11 : w1.cell? ⟨w.heap.size, 1, none⟩ = some (.slice ad xs.length c) := by rw [cell_of_row w1 _ 1 _ _ _ hblk1]; rfl
    clear hblk1 hb1
    go_wp2_with fail
    refine (HFL.out w1 (HC.out.below HB1.out) (HCL.out.below HB1.out)).mono ?_
    rintro e w2 ⟨a2, c2, rfl, _, hb2⟩
    have HB2 := Lib.hid (HB1.out.trans (hb2.mono hsz1))
    clear hb2 x10 x11
    go_wp2
    go_ret
    refine ⟨?_, HB2.out⟩
    by_cases h0 : fl.length = 0
    · simp [h0]
    · rw [decide_eq_false h0]
      have e0 : ((fl.length : Int) == 0) = false := by rw [beq_eq_false_iff_ne]; omega
      first | (simp [h0]; done) | (rw [e0]; rfl) | rw [e0]
set_option maxRecDepth 100000 in
set_option maxHeartbeats 3200000 in
theorem implFFF (b : Int) (ad : Option Addr) (c : Nat) (xs : List Int) (sa : Option Addr) (cs : Nat) (ps : List (List Cl)) (w : World) (hn : xs.length ≤ 1048576) (hnp : ps.length ≤ 1048576) (hl : ∀ p ∈ ps, p.length ≤ 1048576) (hT : Tab w) (hc : CellsAt w ad (ints xs)) (hcp : ShpsAt w sa ps) :
    Calls Tryz.prog 16 #[.agg #[.int .i64 b, .slice ad xs.length c], .slice sa ps.length cs] w (FoundAt w (ffL b xs ps)) := by
  have HPR := Lib.hid (fun w' h1 h2 => implProb b ad c xs sa cs ps w' hn hnp hl h1 h2)
  have HC := Lib.hid hc
  have HCP := Lib.hid hcp
  have HT := Lib.hid hT
  clear hc hcp hT
  obtain ⟨wA, hwA⟩ : ∃ wA, wA = w.alloc (.cells #[.int .i64 b, .slice ad xs.length c] 26) := ⟨_, rfl⟩
  have hbA : Below w.heap.size w wA := by rw [hwA]; exact (Below.refl _ _).alloc (Nat.le_refl _) _
  have hzA : wA.heap.size = w.heap.size + 1 := by rw [hwA]; simp
  have hblkA : wA.heap[w.heap.size]? = some (.cells #[.int .i64 b, .slice ad xs.length c] 26 (0, 0)) := by rw [hwA]; exact heap_alloc_new w _
  have HBA := Lib.hid hbA
  have HBLKA := Lib.hid hblkA
  have HWA := Lib.hid hwA
  have hszA := hbA.size
  clear hbA hblkA hwA
  unfold FoundAt
  by_cases hok : Reg b xs ∧ Pcs ps
  · obtain ⟨hr, hp⟩ := hok
    have hbn : b = (b.toNat : Int) := by have := hr.1.1; omega
    obtain ⟨B, hB⟩ : ∃ B, B = b.toNat := ⟨_, rfl⟩
    rw [← hB] at hbn
    rw [decide_eq_true hr, decide_eq_true hp] at HPR
    simp only [Bool.true_and] at HPR
    have hrB : Reg (B : Int) xs := by rw [← hbn]; exact hr
    have hff := fun w' h1 h2 h3 => implFF B ad c xs sa cs ps w' hrB hp h1 h2 h3
    rw [← hbn] at hff
    have HFF := Lib.hid hff
    clear hff hrB hr hp hbn hB hl
    generalize ffL b xs ps = Fs at HFF ⊢
    go_enter Tryz.func16, Tryz.ntmps16
    go_wp2_with fail
    rw [← HWA.out]
    refine (HPR.out wA (HC.out.below HBA.out) (HCP.out.below HBA.out)).mono ?_
    rintro e w1 ⟨rfl, hb1⟩
    have HB1 := Lib.hid (HBA.out.trans (hb1.mono hszA))
    have hsz1 := HB1.out.size
    have hs1A := hb1.size
    have hblk1 := (hb1.block w.heap.size (by omega)).trans HBLKA.out
    have x10 : w1.cell? ⟨w.heap.size, 0, none⟩ = some (.int .i64 b) := by rw [cell_of_row w1 _ 0 _ _ _ hblk1]; rfl
    have x11 : w1.cell? ⟨w.heap.size, 1, none⟩ = some (.slice ad xs.length c) := by rw [cell_of_row w1 _ 1 _ _ _ hblk1]; rfl
    clear hblk1 hb1
    go_wp2_with fail
    refine (HFF.out w1 (HT.out.below HB1.out) (HC.out.below HB1.out) (HCP.out.below HB1.out)).mono ?_
    rintro e w2 ⟨a2, c2, rfl, ho2, hb2⟩
    have HB2 := Lib.hid (HB1.out.trans (hb2.mono hsz1))
    have HO2 := Lib.hid (ho2.rebase hsz1)
    clear hb2 x10 x11 ho2
    rcases Nat.eq_zero_or_pos Fs.length with h0 | h0
    · have e0 : ((Fs.length : Int) == 0) = true := by simp [h0]
      obtain rfl := List.eq_nil_of_length_eq_zero h0
      clear h0
      go_wp2
      go_ret2
      exact ⟨none, 0, rfl, World.ownsRow_nil _ _ _ _, HB2.out⟩
    · have e0 : ((Fs.length : Int) == 0) = false := by rw [beq_eq_false_iff_ne]; omega
      have hsm : someT Fs = true := by
        unfold someT
        cases Fs with
        | nil => simp at h0
        | cons _ _ => rfl
      have hft : firstT Fs = Fs[0] := by
        unfold firstT
        cases Fs with
        | nil => simp at h0
        | cons _ _ => rfl
      obtain ⟨g, ai, ci, rfl, hg, y0, hrow⟩ := HO2.out.row h0
      have i0 : (0 : Int) < (Fs.length : Int) := by omega
      have HRW := Lib.hid hrow
      have HFM := Lib.hid hsm
      have HFT := Lib.hid hft
      clear hrow hsm hft
      go_wp2
      go_ret2
      rw [HFM.out, HFT.out]
      exact ⟨ai, ci, rfl, HRW.out, HB2.out⟩
  · have hf2 : (decide (Reg b xs) && decide (Pcs ps)) = false := by
      by_cases h1 : Reg b xs
      · have h2 : ¬ Pcs ps := fun q => hok ⟨h1, q⟩
        rw [decide_eq_false h2]
        simp
      · rw [decide_eq_false h1]
        rfl
    rw [hf2] at HPR
    rw [ffL_no hok]
    clear hf2 hok hl
    go_enter Tryz.func16, Tryz.ntmps16
    go_wp2_with fail
    rw [← HWA.out]
    refine (HPR.out wA (HC.out.below HBA.out) (HCP.out.below HBA.out)).mono ?_
    rintro e w1 ⟨rfl, hb1⟩
    have HB1 := Lib.hid (HBA.out.trans (hb1.mono hszA))
    clear hb1
    go_wp2
    go_ret2
    exact ⟨none, 0, rfl, World.ownsRow_nil _ _ _ _, HB1.out⟩

set_option maxRecDepth 100000 in
set_option maxHeartbeats 3200000 in
theorem implCFF (b : Int) (ad : Option Addr) (c : Nat) (xs : List Int) (sa : Option Addr) (cs : Nat) (ps : List (List Cl)) (w : World) (hn : xs.length ≤ 1048576) (hnp : ps.length ≤ 1048576) (hl : ∀ p ∈ ps, p.length ≤ 1048576) (hT : Tab w) (hc : CellsAt w ad (ints xs)) (hcp : ShpsAt w sa ps) :
    Calls Tryz.prog 18 #[.agg #[.int .i64 b, .slice ad xs.length c], .slice sa ps.length cs] w fun e w' => e = .returned (.int .i64 (cffR b xs ps)) ∧ Below w.heap.size w w' := by
  have HPR := Lib.hid (fun w' h1 h2 => implProb b ad c xs sa cs ps w' hn hnp hl h1 h2)
  have HC := Lib.hid hc
  have HCP := Lib.hid hcp
  have HT := Lib.hid hT
  clear hc hcp hT
  obtain ⟨wA, hwA⟩ : ∃ wA, wA = w.alloc (.cells #[.int .i64 b, .slice ad xs.length c] 26) := ⟨_, rfl⟩
  have hbA : Below w.heap.size w wA := by rw [hwA]; exact (Below.refl _ _).alloc (Nat.le_refl _) _
  have hzA : wA.heap.size = w.heap.size + 1 := by rw [hwA]; simp
  have hblkA : wA.heap[w.heap.size]? = some (.cells #[.int .i64 b, .slice ad xs.length c] 26 (0, 0)) := by rw [hwA]; exact heap_alloc_new w _
  have HBA := Lib.hid hbA
  have HBLKA := Lib.hid hblkA
  have HWA := Lib.hid hwA
  have hszA := hbA.size
  clear hbA hblkA hwA
  by_cases hok : Reg b xs ∧ Pcs ps
  · obtain ⟨hr, hp⟩ := hok
    have hbn : b = (b.toNat : Int) := by have := hr.1.1; omega
    obtain ⟨B, hB⟩ : ∃ B, B = b.toNat := ⟨_, rfl⟩
    rw [← hB] at hbn
    rw [decide_eq_true hr, decide_eq_true hp] at HPR
    simp only [Bool.true_and] at HPR
    have hrB : Reg (B : Int) xs := by rw [← hbn]; exact hr
    have hff := fun w' h1 h2 h3 => implFF B ad c xs sa cs ps w' hrB hp h1 h2 h3
    rw [← hbn] at hff
    have HFF := Lib.hid hff
    have hv : cffR b xs ps = ((ffL b xs ps).length : Nat) := if_pos ⟨hr, hp⟩
    rw [hv]
    clear hv
    clear hff hrB hr hp hbn hB hl
    generalize ffL b xs ps = Fs at HFF ⊢
    go_enter Tryz.func18, Tryz.ntmps18
    go_wp2_with fail
    rw [← HWA.out]
    refine (HPR.out wA (HC.out.below HBA.out) (HCP.out.below HBA.out)).mono ?_
    rintro e w1 ⟨rfl, hb1⟩
    have HB1 := Lib.hid (HBA.out.trans (hb1.mono hszA))
    have hsz1 := HB1.out.size
    have hs1A := hb1.size
    have hblk1 := (hb1.block w.heap.size (by omega)).trans HBLKA.out
    have x10 : w1.cell? ⟨w.heap.size, 0, none⟩ = some (.int .i64 b) := by rw [cell_of_row w1 _ 0 _ _ _ hblk1]; rfl
    have x11 : w1.cell? ⟨w.heap.size, 1, none⟩ = some (.slice ad xs.length c) := by rw [cell_of_row w1 _ 1 _ _ _ hblk1]; rfl
    clear hblk1 hb1
    go_wp2_with fail
    refine (HFF.out w1 (HT.out.below HB1.out) (HC.out.below HB1.out) (HCP.out.below HB1.out)).mono ?_
    rintro e w2 ⟨a2, c2, rfl, ho2, hb2⟩
    have HB2 := Lib.hid (HB1.out.trans (hb2.mono hsz1))
    have HO2 := Lib.hid (ho2.rebase hsz1)
    clear hb2 x10 x11 ho2
    go_wp2
    go_ret
    exact ⟨rfl, HB2.out⟩
  · have hf2 : (decide (Reg b xs) && decide (Pcs ps)) = false := by
      by_cases h1 : Reg b xs
      · have h2 : ¬ Pcs ps := fun q => hok ⟨h1, q⟩
        rw [decide_eq_false h2]
        simp
      · rw [decide_eq_false h1]
        rfl
    rw [hf2] at HPR
    rw [show cffR b xs ps = -1 from if_neg hok]
    clear hf2 hok hl
    go_enter Tryz.func18, Tryz.ntmps18
    go_wp2_with fail
    rw [← HWA.out]
    refine (HPR.out wA (HC.out.below HBA.out) (HCP.out.below HBA.out)).mono ?_
    rintro e w1 ⟨rfl, hb1⟩
    have HB1 := Lib.hid (HBA.out.trans (hb1.mono hszA))
    clear hb1
    go_wp2
    go_ret
    exact ⟨rfl, HB1.out⟩
end Go.Proofs.YtajmdgcnnipdoaaGreatDoor
