/- FFP: the walks of the program's IsFaultFree, FindFaultFree and CountFaultFree. -/
import Derived.Test.YtomaihbaffoplaaGreatDoorFFI
import Derived.Test.YtomaihbaffoplaaGreatDoorCovI
import Derived.Lib.QuietBelow
import Derived.BigQuiet
import Derived.BigRegion
import Derived.Deep.RegionHeld3
namespace Go.Proofs.YtomaihbaffoplaaGreatDoor
open Go.RowKit

attribute [local go_sem ↓] Go.wp_at_zero Go.wp_at_succ

/-- Whether masks tile a region. -/
def tilR (b : Int) (xs : List Int) (ps : List (List Cl)) (l : List Int) : Bool := decide (Reg b xs ∧ Pcs ps) && covL (allL b.toNat xs ps) (regMask b xs) l
theorem tilR_yes {B : Nat} {xs : List Int} {ps : List (List Cl)} {l : List Int} (hr : Reg (B : Int) xs) (hp : Pcs ps) : tilR B xs ps l = covL (allL B xs ps) (regMask B xs) l := by
  unfold tilR
  rw [decide_eq_true ⟨hr, hp⟩, Int.toNat_natCast, Bool.true_and]
theorem tilR_no {b : Int} {xs : List Int} {ps : List (List Cl)} {l : List Int} (h : ¬ (Reg b xs ∧ Pcs ps)) : tilR b xs ps l = false := by
  unfold tilR
  rw [decide_eq_false h, Bool.false_and]
def iffR (b : Int) (xs : List Int) (ps : List (List Cl)) (l : List Int) : Bool := tilR b xs ps l && decide ((faultsL b xs l).length = 0)
def cffR (b : Int) (xs : List Int) (ps : List (List Cl)) : Int := if Reg b xs ∧ Pcs ps then ((ffL b xs ps).length : Nat) else -1

set_option maxRecDepth 100000 in
set_option maxHeartbeats 3200000 in
theorem implTil (b : Int) (ad : Option Addr) (c : Nat) (xs : List Int) (sa : Option Addr) (cs : Nat) (ps : List (List Cl)) (al : Option Addr) (cl : Nat) (l : List Int) (w : World) (hn : xs.length ≤ 1048576) (hnp : ps.length ≤ 1048576) (hl : ∀ p ∈ ps, p.length ≤ 1048576) (hnl : l.length ≤ 1048576) (hT : Tab w) (hc : CellsAt w ad (ints xs)) (hcp : ShpsAt w sa ps) (hcl : CellsAt w al (ints l)) :
    Calls Tryz.prog 29 #[.agg #[.int .i64 b, .slice ad xs.length c], .slice sa ps.length cs, .slice al l.length cl] w fun e w' => e = .returned (.bool (tilR b xs ps l)) ∧ Below w.heap.size w w' := by
  have HPR := Lib.hid (fun w' h1 h2 => implProb b ad c xs sa cs ps w' hn hnp hl h1 h2)
  have HC := Lib.hid hc
  have HCP := Lib.hid hcp
  have HCL := Lib.hid hcl
  have HT := Lib.hid hT
  clear hc hcp hT hcl
  obtain ⟨wA, hwA⟩ : ∃ wA, wA = w.alloc (.cells #[.int .i64 b, .slice ad xs.length c] 29) := ⟨_, rfl⟩
  have hbA : Below w.heap.size w wA := by rw [hwA]; exact (Below.refl _ _).alloc (Nat.le_refl _) _
  have hzA : wA.heap.size = w.heap.size + 1 := by rw [hwA]; simp
  have hblkA : wA.heap[w.heap.size]? = some (.cells #[.int .i64 b, .slice ad xs.length c] 29 (0, 0)) := by rw [hwA]; exact heap_alloc_new w _
  have HBA := Lib.hid hbA
  have HBLKA := Lib.hid hblkA
  have HWA := Lib.hid hwA
  have hszA := hbA.size
  clear hbA hblkA hwA
  by_cases hok : Reg b xs ∧ Pcs ps
  · obtain ⟨hr, hp⟩ := hok
    have hbn : b = (b.toNat : Int) := by have := hr.1.1; omega
    obtain ⟨B, hB⟩ : ∃ B, B = b.toNat := ⟨_, rfl⟩
    rw [← hB] at hbn
    rw [decide_eq_true hr, decide_eq_true hp] at HPR
    simp only [Bool.true_and] at HPR
    have hrB : Reg (B : Int) xs := by rw [← hbn]; exact hr
    have hal0 := fun w' h1 h2 => implAll B ad c xs sa cs ps w' hrB hp h1 h2
    have hmk0 := fun w' h1 => implMask B ad c xs w' hrB h1
    rw [← hbn] at hal0 hmk0
    have HAL := Lib.hid hal0
    have HMK := Lib.hid hmk0
    have hlen := allL_length hrB hp
    have HSM := Lib.hid (allL_mk hrB hp)
    have hf : tilR b xs ps l = covL (allL B xs ps) (regMask b xs) l := by rw [hbn]; exact tilR_yes hrB hp
    have hml : regMask b xs < 68719476736 := by have := regMask_lt hr; omega
    rw [hf]
    clear hal0 hmk0 hrB hr hp hbn hB hl hf
    generalize allL B xs ps = A at HAL hlen HSM ⊢
    generalize regMask b xs = M at HMK hml ⊢
    have HCU := Lib.hid (fun aa ca w1 h1 h2 h3 => implCover aa ca A M al cl l w1 (by omega) HSM.out hnl h1 h2 h3)
    generalize covL A M l = r0 at HCU ⊢
    have x10 : wA.cell? ⟨w.heap.size, 0, none⟩ = some (.int .i64 b) := by rw [cell_of_row wA _ 0 _ _ _ HBLKA.out]; rfl
    have x11 : wA.cell? ⟨w.heap.size, 1, none⟩ = some (.slice ad xs.length c) := by rw [cell_of_row wA _ 1 _ _ _ HBLKA.out]; rfl
    have HTA := Lib.hid (HT.out.below HBA.out)
    have hwlt : w.heap.size < wA.heap.size := by omega
    have HCA := Lib.hid (HC.out.below HBA.out)
    have HCPA := Lib.hid (HCP.out.below HBA.out)
    have HCLA := Lib.hid (HCL.out.below HBA.out)
    go_enter Tryz.func29, Tryz.ntmps29
    go_wp2
    rw [← HWA.out]
    go_region_held3 (fun w' => w'.cell? ⟨w.heap.size, 0, none⟩ = some (.int .i64 b) ∧ w'.cell? ⟨w.heap.size, 1, none⟩ = some (.slice ad xs.length c)) (first | (go_keep; done) | exact ⟨(hA5.cell (p := ⟨w.heap.size, 0, none⟩) (by show w.heap.size < _; omega)).trans x10, (hA5.cell (p := ⟨w.heap.size, 1, none⟩) (by show w.heap.size < _; omega)).trans x11⟩ | exact ⟨(hA4.cell (p := ⟨w.heap.size, 0, none⟩) (by show w.heap.size < _; omega)).trans x10, (hA4.cell (p := ⟨w.heap.size, 1, none⟩) (by show w.heap.size < _; omega)).trans x11⟩ | exact ⟨(hA3.cell (p := ⟨w.heap.size, 0, none⟩) (by show w.heap.size < _; omega)).trans x10, (hA3.cell (p := ⟨w.heap.size, 1, none⟩) (by show w.heap.size < _; omega)).trans x11⟩ | exact ⟨(hA1.cell (p := ⟨w.heap.size, 0, none⟩) (by show w.heap.size < _; omega)).trans x10, (hA1.cell (p := ⟨w.heap.size, 1, none⟩) (by show w.heap.size < _; omega)).trans x11⟩)
      (first
        | (go_at_call 35; refine (HPR.out _ (by exact HCA.out) (by exact HCPA.out)).mono ?_; rintro e w1 ⟨rfl, hb1⟩; have hA1 : Below wA.heap.size wA w1 := (by first | exact hb1 | exact (Below.refl _ _).drew.trans hb1); have hs1 := hA1.size; have HC1 := Lib.hid (HCA.out.below hA1); have HCP1 := Lib.hid (HCPA.out.below hA1))
        | (go_at_call 45; refine (HAL.out _ (by exact HC1.out) (by exact HCP1.out)).mono ?_; rintro e w3 ⟨a3, c3, rfl, ho3, hb3⟩; have hb3' : Below w1.heap.size w1 w3 := (by first | exact hb3 | exact (Below.refl _ _).drew.trans hb3); have hA3 := hA1.trans (hb3'.mono hs1); have hs3 := hA3.size; have hsz3 := hb3'.size; have HA3 := Lib.hid (ownsRow_cellsAt ho3); have HC3 := Lib.hid (HC1.out.below hb3'))
        | (go_at_call 46; refine (HMK.out _ (by exact HC3.out)).mono ?_; rintro e w4 ⟨rfl, hb4⟩; have hb4' : Below w3.heap.size w3 w4 := (by first | exact hb4 | exact (Below.refl _ _).drew.trans hb4); have hA4 := hA3.trans (hb4'.mono hs3); have hs4 := hA4.size; have HA4 := Lib.hid (HA3.out.below hb4'))
        | (go_at_call 44; refine (HCU.out a3 c3 _ (by exact HTA.out.below hA4) (by exact HA4.out) (by exact HCLA.out.below hA4)).mono ?_; rintro e w5 ⟨rfl, hb5⟩; have hb5' : Below w4.heap.size w4 w5 := (by first | exact hb5 | exact (Below.refl _ _).drew.trans hb5); have hA5 := hA4.trans (hb5'.mono hs4)))
    have HB5 := Lib.hid (HBA.out.trans (hA5.mono hszA))
    go_wp2
    go_ret
    exact ⟨rfl, HB5.out⟩
  · have hf2 : (decide (Reg b xs) && decide (Pcs ps)) = false := by
      by_cases h1 : Reg b xs
      · have h2 : ¬ Pcs ps := fun q => hok ⟨h1, q⟩
        rw [decide_eq_false h2]
        simp
      · rw [decide_eq_false h1]
        rfl
    rw [hf2] at HPR
    rw [tilR_no hok]
    clear hf2 hok hl
    have x10 : wA.cell? ⟨w.heap.size, 0, none⟩ = some (.int .i64 b) := by rw [cell_of_row wA _ 0 _ _ _ HBLKA.out]; rfl
    have x11 : wA.cell? ⟨w.heap.size, 1, none⟩ = some (.slice ad xs.length c) := by rw [cell_of_row wA _ 1 _ _ _ HBLKA.out]; rfl
    have X10 := cell_regrown x10
    have X11 := cell_regrown x11
    have HCALL := Lib.hid (fun d os => Calls.regrown_of (d := d) (os := os) (HPR.out (Go.Sort.grow (redrawn wA d) os) (HC.out.below (HBA.out.trans ((below_regrown wA d os).mono hszA))) (HCP.out.below (HBA.out.trans ((below_regrown wA d os).mono hszA)))))
    clear x10 x11
    go_enter Tryz.func29, Tryz.ntmps29
    go_wp2
    rw [← HWA.out]
    refine wp_region_quiet_below (by kernel_rfl) (by kernel_rfl) ?_
    repeat (go_big_quiet_step (exact HCALL.out _ _))
    refine wpQuiet_nil ?_
    intro _ hw'
    obtain ⟨⟨dq, osq⟩, hw''⟩ := hw'
    subst hw''
    have hbr := below_regrown wA dq osq
    generalize Go.Sort.grow (redrawn wA dq) osq = w1 at hbr ⊢
    have HB1 := Lib.hid (HBA.out.trans (hbr.mono hszA))
    clear hbr X10 X11
    go_wp2
    go_ret
    exact ⟨rfl, HB1.out⟩

set_option maxRecDepth 100000 in
set_option maxHeartbeats 3200000 in
theorem implIFF (b : Int) (ad : Option Addr) (c : Nat) (xs : List Int) (sa : Option Addr) (cs : Nat) (ps : List (List Cl)) (al : Option Addr) (cl : Nat) (l : List Int) (w : World) (hn : xs.length ≤ 1048576) (hnp : ps.length ≤ 1048576) (hl : ∀ p ∈ ps, p.length ≤ 1048576) (hnl : l.length ≤ 1048576) (hwl : ∀ x ∈ l, (Lit.int .i64 x).wf = true) (hT : Tab w) (hc : CellsAt w ad (ints xs)) (hcp : ShpsAt w sa ps) (hcl : CellsAt w al (ints l)) :
    Calls Tryz.prog 12 #[.agg #[.int .i64 b, .slice ad xs.length c], .slice sa ps.length cs, .slice al l.length cl] w fun e w' => e = .returned (.bool (iffR b xs ps l)) ∧ Below w.heap.size w w' := by
  have HTL := Lib.hid (fun w' h1 h2 h3 h4 => implTil b ad c xs sa cs ps al cl l w' hn hnp hl hnl h1 h2 h3 h4)
  have HFL := Lib.hid (fun w' h1 h2 => implFaults b ad al c cl xs l w' hn hnl hwl h1 h2)
  have hdef : iffR b xs ps l = (tilR b xs ps l && decide ((faultsL b xs l).length = 0)) := rfl
  have HC := Lib.hid hc
  have HCP := Lib.hid hcp
  have HCL := Lib.hid hcl
  have HT := Lib.hid hT
  rw [hdef]
  clear hc hcp hT hcl hl hwl hdef
  generalize faultsL b xs l = fl at HFL ⊢
  generalize tilR b xs ps l = tb at HTL ⊢
  obtain ⟨wA, hwA⟩ : ∃ wA, wA = w.alloc (.cells #[.int .i64 b, .slice ad xs.length c] 29) := ⟨_, rfl⟩
  have hbA : Below w.heap.size w wA := by rw [hwA]; exact (Below.refl _ _).alloc (Nat.le_refl _) _
  have hzA : wA.heap.size = w.heap.size + 1 := by rw [hwA]; simp
  have hblkA : wA.heap[w.heap.size]? = some (.cells #[.int .i64 b, .slice ad xs.length c] 29 (0, 0)) := by rw [hwA]; exact heap_alloc_new w _
  have HBA := Lib.hid hbA
  have HBLKA := Lib.hid hblkA
  have HWA := Lib.hid hwA
  have hszA := hbA.size
  clear hbA hblkA hwA
  cases tb with
  | false =>
    go_enter Tryz.func12, Tryz.ntmps12
    go_wp2_with fail
    rw [← HWA.out]
    refine (HTL.out wA (HT.out.below HBA.out) (HC.out.below HBA.out) (HCP.out.below HBA.out) (HCL.out.below HBA.out)).mono ?_
    rintro e w1 ⟨rfl, hb1⟩
    have HB1 := Lib.hid (HBA.out.trans (hb1.mono hszA))
    clear hb1
    go_wp2
    go_ret
    exact ⟨rfl, HB1.out⟩
  | true =>
    rw [Bool.true_and]
    go_enter Tryz.func12, Tryz.ntmps12
    go_wp2_with fail
    rw [← HWA.out]
    refine (HTL.out wA (HT.out.below HBA.out) (HC.out.below HBA.out) (HCP.out.below HBA.out) (HCL.out.below HBA.out)).mono ?_
    rintro e w1 ⟨rfl, hb1⟩
    have HB1 := Lib.hid (HBA.out.trans (hb1.mono hszA))
    have hsz1 := HB1.out.size
    have hs1A := hb1.size
    have hblk1 := (hb1.block w.heap.size (by omega)).trans HBLKA.out
    have x10 : w1.cell? ⟨w.heap.size, 0, none⟩ = some (.int .i64 b) := by rw [cell_of_row w1 _ 0 _ _ _ hblk1]; rfl
    have x11 : w1.cell? ⟨w.heap.size, 1, none⟩ = some (.slice ad xs.length c) := by rw [cell_of_row w1 _ 1 _ _ _ hblk1]; rfl
    clear hblk1 hb1
    go_wp2_with fail
    refine (HFL.out w1 (HC.out.below HB1.out) (HCL.out.below HB1.out)).mono ?_
    rintro e w2 ⟨a2, c2, rfl, _, hb2⟩
    have HB2 := Lib.hid (HB1.out.trans (hb2.mono hsz1))
    clear hb2 x10 x11
    go_wp2
    go_ret
    refine ⟨?_, HB2.out⟩
    by_cases h0 : fl.length = 0
    · simp [h0]
    · rw [decide_eq_false h0]
      have e0 : ((fl.length : Int) == 0) = false := by rw [beq_eq_false_iff_ne]; omega
      first | (simp [h0]; done) | (rw [e0]; rfl) | rw [e0]
set_option maxRecDepth 100000 in
set_option maxHeartbeats 3200000 in
theorem implFFF (b : Int) (ad : Option Addr) (c : Nat) (xs : List Int) (sa : Option Addr) (cs : Nat) (ps : List (List Cl)) (w : World) (hn : xs.length ≤ 1048576) (hnp : ps.length ≤ 1048576) (hl : ∀ p ∈ ps, p.length ≤ 1048576) (hT : Tab w) (hc : CellsAt w ad (ints xs)) (hcp : ShpsAt w sa ps) :
    Calls Tryz.prog 19 #[.agg #[.int .i64 b, .slice ad xs.length c], .slice sa ps.length cs] w (FoundAt w (ffL b xs ps)) := by
  have HPR := Lib.hid (fun w' h1 h2 => implProb b ad c xs sa cs ps w' hn hnp hl h1 h2)
  have HC := Lib.hid hc
  have HCP := Lib.hid hcp
  have HT := Lib.hid hT
  clear hc hcp hT
  obtain ⟨wA, hwA⟩ : ∃ wA, wA = w.alloc (.cells #[.int .i64 b, .slice ad xs.length c] 29) := ⟨_, rfl⟩
  have hbA : Below w.heap.size w wA := by rw [hwA]; exact (Below.refl _ _).alloc (Nat.le_refl _) _
  have hzA : wA.heap.size = w.heap.size + 1 := by rw [hwA]; simp
  have hblkA : wA.heap[w.heap.size]? = some (.cells #[.int .i64 b, .slice ad xs.length c] 29 (0, 0)) := by rw [hwA]; exact heap_alloc_new w _
  have HBA := Lib.hid hbA
  have HBLKA := Lib.hid hblkA
  have HWA := Lib.hid hwA
  have hszA := hbA.size
  clear hbA hblkA hwA
  unfold FoundAt
  by_cases hok : Reg b xs ∧ Pcs ps
  · obtain ⟨hr, hp⟩ := hok
    have hbn : b = (b.toNat : Int) := by have := hr.1.1; omega
    obtain ⟨B, hB⟩ : ∃ B, B = b.toNat := ⟨_, rfl⟩
    rw [← hB] at hbn
    rw [decide_eq_true hr, decide_eq_true hp] at HPR
    simp only [Bool.true_and] at HPR
    have hrB : Reg (B : Int) xs := by rw [← hbn]; exact hr
    have hff := fun w' h1 h2 h3 => implFF B ad c xs sa cs ps w' hrB hp h1 h2 h3
    rw [← hbn] at hff
    have HFF := Lib.hid hff
    clear hff hrB hr hp hbn hB hl
    generalize ffL b xs ps = Fs at HFF ⊢
    go_enter Tryz.func19, Tryz.ntmps19
    go_wp2_with fail
    rw [← HWA.out]
    refine (HPR.out wA (HC.out.below HBA.out) (HCP.out.below HBA.out)).mono ?_
    rintro e w1 ⟨rfl, hb1⟩
    have HB1 := Lib.hid (HBA.out.trans (hb1.mono hszA))
    have hsz1 := HB1.out.size
    have hs1A := hb1.size
    have hblk1 := (hb1.block w.heap.size (by omega)).trans HBLKA.out
    have x10 : w1.cell? ⟨w.heap.size, 0, none⟩ = some (.int .i64 b) := by rw [cell_of_row w1 _ 0 _ _ _ hblk1]; rfl
    have x11 : w1.cell? ⟨w.heap.size, 1, none⟩ = some (.slice ad xs.length c) := by rw [cell_of_row w1 _ 1 _ _ _ hblk1]; rfl
    clear hblk1 hb1
    go_wp2_with fail
    refine (HFF.out w1 (HT.out.below HB1.out) (HC.out.below HB1.out) (HCP.out.below HB1.out)).mono ?_
    rintro e w2 ⟨a2, c2, rfl, ho2, hb2⟩
    have HB2 := Lib.hid (HB1.out.trans (hb2.mono hsz1))
    have HO2 := Lib.hid (ho2.rebase hsz1)
    clear hb2 x10 x11 ho2
    rcases Nat.eq_zero_or_pos Fs.length with h0 | h0
    · have e0 : ((Fs.length : Int) == 0) = true := by simp [h0]
      obtain rfl := List.eq_nil_of_length_eq_zero h0
      clear h0
      go_wp2
      go_ret2
      exact ⟨none, 0, rfl, World.ownsRow_nil _ _ _ _, HB2.out⟩
    · have e0 : ((Fs.length : Int) == 0) = false := by rw [beq_eq_false_iff_ne]; omega
      have hsm : someT Fs = true := by
        unfold someT
        cases Fs with
        | nil => simp at h0
        | cons _ _ => rfl
      have hft : firstT Fs = Fs[0] := by
        unfold firstT
        cases Fs with
        | nil => simp at h0
        | cons _ _ => rfl
      obtain ⟨g, ai, ci, rfl, hg, y0, hrow⟩ := HO2.out.row h0
      have i0 : (0 : Int) < (Fs.length : Int) := by omega
      have HRW := Lib.hid hrow
      have HFM := Lib.hid hsm
      have HFT := Lib.hid hft
      clear hrow hsm hft
      go_wp2
      go_ret2
      rw [HFM.out, HFT.out]
      exact ⟨ai, ci, rfl, HRW.out, HB2.out⟩
  · have hf2 : (decide (Reg b xs) && decide (Pcs ps)) = false := by
      by_cases h1 : Reg b xs
      · have h2 : ¬ Pcs ps := fun q => hok ⟨h1, q⟩
        rw [decide_eq_false h2]
        simp
      · rw [decide_eq_false h1]
        rfl
    rw [hf2] at HPR
    rw [ffL_no hok]
    clear hf2 hok hl
    go_enter Tryz.func19, Tryz.ntmps19
    go_wp2_with fail
    rw [← HWA.out]
    refine (HPR.out wA (HC.out.below HBA.out) (HCP.out.below HBA.out)).mono ?_
    rintro e w1 ⟨rfl, hb1⟩
    have HB1 := Lib.hid (HBA.out.trans (hb1.mono hszA))
    clear hb1
    go_wp2
    go_ret2
    exact ⟨none, 0, rfl, World.ownsRow_nil _ _ _ _, HB1.out⟩

set_option maxRecDepth 100000 in
set_option maxHeartbeats 3200000 in
theorem implCFF (b : Int) (ad : Option Addr) (c : Nat) (xs : List Int) (sa : Option Addr) (cs : Nat) (ps : List (List Cl)) (w : World) (hn : xs.length ≤ 1048576) (hnp : ps.length ≤ 1048576) (hl : ∀ p ∈ ps, p.length ≤ 1048576) (hT : Tab w) (hc : CellsAt w ad (ints xs)) (hcp : ShpsAt w sa ps) :
    Calls Tryz.prog 17 #[.agg #[.int .i64 b, .slice ad xs.length c], .slice sa ps.length cs] w fun e w' => e = .returned (.int .i64 (cffR b xs ps)) ∧ Below w.heap.size w w' := by
  have HPR := Lib.hid (fun w' h1 h2 => implProb b ad c xs sa cs ps w' hn hnp hl h1 h2)
  have HC := Lib.hid hc
  have HCP := Lib.hid hcp
  have HT := Lib.hid hT
  clear hc hcp hT
  obtain ⟨wA, hwA⟩ : ∃ wA, wA = w.alloc (.cells #[.int .i64 b, .slice ad xs.length c] 29) := ⟨_, rfl⟩
  have hbA : Below w.heap.size w wA := by rw [hwA]; exact (Below.refl _ _).alloc (Nat.le_refl _) _
  have hzA : wA.heap.size = w.heap.size + 1 := by rw [hwA]; simp
  have hblkA : wA.heap[w.heap.size]? = some (.cells #[.int .i64 b, .slice ad xs.length c] 29 (0, 0)) := by rw [hwA]; exact heap_alloc_new w _
  have HBA := Lib.hid hbA
  have HBLKA := Lib.hid hblkA
  have HWA := Lib.hid hwA
  have hszA := hbA.size
  clear hbA hblkA hwA
  by_cases hok : Reg b xs ∧ Pcs ps
  · obtain ⟨hr, hp⟩ := hok
    have hbn : b = (b.toNat : Int) := by have := hr.1.1; omega
    obtain ⟨B, hB⟩ : ∃ B, B = b.toNat := ⟨_, rfl⟩
    rw [← hB] at hbn
    rw [decide_eq_true hr, decide_eq_true hp] at HPR
    simp only [Bool.true_and] at HPR
    have hrB : Reg (B : Int) xs := by rw [← hbn]; exact hr
    have hff := fun w' h1 h2 h3 => implFF B ad c xs sa cs ps w' hrB hp h1 h2 h3
    rw [← hbn] at hff
    have HFF := Lib.hid hff
    have hv : cffR b xs ps = ((ffL b xs ps).length : Nat) := if_pos ⟨hr, hp⟩
    rw [hv]
    clear hv
    clear hff hrB hr hp hbn hB hl
    generalize ffL b xs ps = Fs at HFF ⊢
    go_enter Tryz.func17, Tryz.ntmps17
    go_wp2_with fail
    rw [← HWA.out]
    refine (HPR.out wA (HC.out.below HBA.out) (HCP.out.below HBA.out)).mono ?_
    rintro e w1 ⟨rfl, hb1⟩
    have HB1 := Lib.hid (HBA.out.trans (hb1.mono hszA))
    have hsz1 := HB1.out.size
    have hs1A := hb1.size
    have hblk1 := (hb1.block w.heap.size (by omega)).trans HBLKA.out
    have x10 : w1.cell? ⟨w.heap.size, 0, none⟩ = some (.int .i64 b) := by rw [cell_of_row w1 _ 0 _ _ _ hblk1]; rfl
    have x11 : w1.cell? ⟨w.heap.size, 1, none⟩ = some (.slice ad xs.length c) := by rw [cell_of_row w1 _ 1 _ _ _ hblk1]; rfl
    clear hblk1 hb1
    go_wp2_with fail
    refine (HFF.out w1 (HT.out.below HB1.out) (HC.out.below HB1.out) (HCP.out.below HB1.out)).mono ?_
    rintro e w2 ⟨a2, c2, rfl, ho2, hb2⟩
    have HB2 := Lib.hid (HB1.out.trans (hb2.mono hsz1))
    have HO2 := Lib.hid (ho2.rebase hsz1)
    clear hb2 x10 x11 ho2
    go_wp2
    go_ret
    exact ⟨rfl, HB2.out⟩
  · have hf2 : (decide (Reg b xs) && decide (Pcs ps)) = false := by
      by_cases h1 : Reg b xs
      · have h2 : ¬ Pcs ps := fun q => hok ⟨h1, q⟩
        rw [decide_eq_false h2]
        simp
      · rw [decide_eq_false h1]
        rfl
    rw [hf2] at HPR
    rw [show cffR b xs ps = -1 from if_neg hok]
    clear hf2 hok hl
    go_enter Tryz.func17, Tryz.ntmps17
    go_wp2_with fail
    rw [← HWA.out]
    refine (HPR.out wA (HC.out.below HBA.out) (HCP.out.below HBA.out)).mono ?_
    rintro e w1 ⟨rfl, hb1⟩
    have HB1 := Lib.hid (HBA.out.trans (hb1.mono hszA))
    clear hb1
    go_wp2
    go_ret
    exact ⟨rfl, HB1.out⟩
end Go.Proofs.YtomaihbaffoplaaGreatDoor
