/- AllCT: parts laid together: CountTil, CovF. -/
import Derived.Test.YtajmdgcnnipdoaaGreatDoorAllPl
import Derived.Test.YtajmdgcnnipdoaaGreatDoorAllArea
import Derived.Test.YtajmdgcnnipdoaaGreatDoorAllSS
import Derived.Test.YtajmdgcnnipdoaaGreatDoorAllFill
import Derived.Deep.RegionHeld3
import Derived.BigRegion
import Derived.Deep.DrawnRows
import Derived.Test.YtajmdgcnnipdoaaGreatDoorAllCov
import Derived.Test.YtajmdgcnnipdoaaGreatDoorFFS

/- CountTil: the walk of the program's CountTilings. -/
namespace Go.Proofs.YtajmdgcnnipdoaaGreatDoor
open Go.RowKit

attribute [local go_sem ↓] Go.wp_at_zero Go.wp_at_succ

/-- How many tilings, as far as the program counts. -/
def ctlR (b : Int) (xs : List Int) (ps : List (List Cl)) : Int := if Reg b xs ∧ Pcs ps then ((min 2000 (regF b xs ps).length : Nat) : Int) else -1

set_option maxRecDepth 100000 in
set_option maxHeartbeats 3200000 in
theorem implCTil (b : Int) (ad : Option Addr) (c : Nat) (xs : List Int) (sa : Option Addr) (cs : Nat) (ps : List (List Cl)) (w : World) (hn : xs.length ≤ 1048576) (hnp : ps.length ≤ 1048576) (hl : ∀ p ∈ ps, p.length ≤ 1048576) (hT : Tab w) (hc : CellsAt w ad (ints xs)) (hcp : ShpsAt w sa ps) :
    Calls Tryz.prog 20 #[.agg #[.int .i64 b, .slice ad xs.length c], .slice sa ps.length cs] w fun e w' => e = .returned (.int .i64 (ctlR b xs ps)) ∧ Below w.heap.size w w' := by
  have HPR := Lib.hid (fun w' h1 h2 => implProb b ad c xs sa cs ps w' hn hnp hl h1 h2)
  have HC := Lib.hid hc
  have HCP := Lib.hid hcp
  have HT := Lib.hid hT
  clear hc hcp hT
  obtain ⟨wA, hwA⟩ : ∃ wA, wA = w.alloc (.cells #[.int .i64 b, .slice ad xs.length c] 26) := ⟨_, rfl⟩
  have hbA : Below w.heap.size w wA := by rw [hwA]; exact (Below.refl _ _).alloc (Nat.le_refl _) _
  have hzA : wA.heap.size = w.heap.size + 1 := by rw [hwA]; simp
  have hblkA : wA.heap[w.heap.size]? = some (.cells #[.int .i64 b, .slice ad xs.length c] 26 (0, 0)) := by rw [hwA]; exact heap_alloc_new w _
  have HBA := Lib.hid hbA
  have HBLKA := Lib.hid hblkA
  have HWA := Lib.hid hwA
  have hszA := hbA.size
  clear hbA hblkA hwA
  by_cases hok : Reg b xs ∧ Pcs ps
  · obtain ⟨hr, hp⟩ := hok
    have hbn : b = (b.toNat : Int) := by have := hr.1.1; omega
    obtain ⟨B, hB⟩ : ∃ B, B = b.toNat := ⟨_, rfl⟩
    rw [← hB] at hbn
    rw [decide_eq_true hr, decide_eq_true hp] at HPR
    simp only [Bool.true_and] at HPR
    have hrB : Reg (B : Int) xs := by rw [← hbn]; exact hr
    have hal0 := fun w' h1 h2 => implAll B ad c xs sa cs ps w' hrB hp h1 h2
    have hmk0 := fun w' h1 => implMask B ad c xs w' hrB h1
    rw [← hbn] at hal0 hmk0
    have HAL := Lib.hid hal0
    have HMK := Lib.hid hmk0
    have hlen := allL_length hrB hp
    have HSM := Lib.hid (allL_mk hrB hp)
    have hf : ctlR b xs ps = ((min 2000 (srchF (allL B xs ps) (regMask b xs) (regMask b xs)).length : Nat) : Int) := by rw [ctlR, if_pos ⟨hr, hp⟩, hbn, regF_yes hrB hp]
    have hml : regMask b xs < 68719476736 := by have := regMask_lt hr; omega
    rw [hf]
    clear hal0 hmk0 hrB hr hp hbn hB hl hf
    generalize allL B xs ps = A at HAL hlen HSM ⊢
    generalize regMask b xs = M at HMK hml ⊢
    have hcn : min 2000 (srchF A M M).length ≤ 2000 := Nat.min_le_left _ _
    have HCU := Lib.hid (fun aa ca w1 h1 h2 => implCountUpTo aa ca A M 2000 w1 (by omega) HSM.out hml (by omega) (by omega) h1 h2)
    generalize min 2000 (srchF A M M).length = cn at HCU hcn ⊢
    go_enter Tryz.func20, Tryz.ntmps20
    go_wp2_with fail
    rw [← HWA.out]
    refine (HPR.out wA (HC.out.below HBA.out) (HCP.out.below HBA.out)).mono ?_
    rintro e w1 ⟨rfl, hb1⟩
    have HB1 := Lib.hid (HBA.out.trans (hb1.mono hszA))
    have HBX1 := Lib.hid hb1
    have hsz1 := HB1.out.size
    have hs1A := hb1.size
    have hblk1 := (HBX1.out.block w.heap.size (by omega)).trans HBLKA.out
    have x10 : w1.cell? ⟨w.heap.size, 0, none⟩ = some (.int .i64 b) := by rw [cell_of_row w1 _ 0 _ _ _ hblk1]; rfl
    have x11 : w1.cell? ⟨w.heap.size, 1, none⟩ = some (.slice ad xs.length c) := by rw [cell_of_row w1 _ 1 _ _ _ hblk1]; rfl
    clear hblk1
    clear hb1
    have HT1 := Lib.hid (HT.out.below HB1.out)
    have hwlt : w.heap.size < w1.heap.size := by omega
    have HC1 := Lib.hid (HC.out.below HB1.out)
    have HCP1 := Lib.hid (HCP.out.below HB1.out)
    go_wp2
    go_region_held3 (fun w' => w'.cell? ⟨w.heap.size, 0, none⟩ = some (.int .i64 b) ∧ w'.cell? ⟨w.heap.size, 1, none⟩ = some (.slice ad xs.length c)) (first | (go_keep; done) | exact ⟨((hb3'.trans (hb4'.mono hsz3)).cell (p := ⟨w.heap.size, 0, none⟩) (by show w.heap.size < _; omega)).trans x10, ((hb3'.trans (hb4'.mono hsz3)).cell (p := ⟨w.heap.size, 1, none⟩) (by show w.heap.size < _; omega)).trans x11⟩ | exact ⟨(hb3'.cell (p := ⟨w.heap.size, 0, none⟩) (by show w.heap.size < _; omega)).trans x10, (hb3'.cell (p := ⟨w.heap.size, 1, none⟩) (by show w.heap.size < _; omega)).trans x11⟩ | exact ⟨((hb3'.trans ((hb4'.trans (hb5'.mono hsz4)).mono hsz3)).cell (p := ⟨w.heap.size, 0, none⟩) (by show w.heap.size < _; omega)).trans x10, ((hb3'.trans ((hb4'.trans (hb5'.mono hsz4)).mono hsz3)).cell (p := ⟨w.heap.size, 1, none⟩) (by show w.heap.size < _; omega)).trans x11⟩)
      (first
        | (go_at_call 76; refine (HAL.out _ (by exact HC1.out) (by exact HCP1.out)).mono ?_; rintro e w3 ⟨a3, c3, rfl, ho3, hb3⟩; have hb3' : Below w1.heap.size w1 w3 := (by first | exact hb3 | exact (Below.refl _ _).drew.trans hb3); have hsz3 := hb3'.size; have HA3 := Lib.hid (ownsRow_cellsAt ho3); have HC3 := Lib.hid (HC1.out.below hb3'))
        | (go_at_call 77; refine (HMK.out _ (by exact HC3.out)).mono ?_; rintro e w4 ⟨rfl, hb4⟩; have hb4' : Below w3.heap.size w3 w4 := (by first | exact hb4 | exact (Below.refl _ _).drew.trans hb4); have hsz4 := hb4'.size; have HA4 := Lib.hid (HA3.out.below hb4'))
        | (go_at_call 75; refine (HCU.out a3 c3 _ (by exact HT1.out.below (hb3'.trans (hb4'.mono hsz3))) (by exact HA4.out)).mono ?_; rintro e w5 ⟨rfl, hb5⟩; have hb5' : Below w4.heap.size w4 w5 := (by first | exact hb5 | exact (Below.refl _ _).drew.trans hb5)))
    have HB5 := Lib.hid (HB1.out.trans ((hb3'.trans ((hb4'.trans (hb5'.mono hsz4)).mono hsz3)).mono hsz1))
    go_wp2
    go_ret
    exact ⟨rfl, HB5.out⟩
  · have hf2 : (decide (Reg b xs) && decide (Pcs ps)) = false := by
      by_cases h1 : Reg b xs
      · have h2 : ¬ Pcs ps := fun q => hok ⟨h1, q⟩
        rw [decide_eq_false h2]
        simp
      · rw [decide_eq_false h1]
        rfl
    rw [hf2] at HPR
    rw [show ctlR b xs ps = -1 from if_neg hok]
    clear hf2 hok hl
    go_enter Tryz.func20, Tryz.ntmps20
    go_wp2_with fail
    rw [← HWA.out]
    refine (HPR.out wA (HC.out.below HBA.out) (HCP.out.below HBA.out)).mono ?_
    rintro e w1 ⟨rfl, hb1⟩
    have HB1 := Lib.hid (HBA.out.trans (hb1.mono hszA))
    clear hb1
    go_wp2
    go_ret
    exact ⟨rfl, HB1.out⟩
end Go.Proofs.YtajmdgcnnipdoaaGreatDoor

/- CovF: what the search finds covers: plain. -/
namespace Go.Proofs.YtajmdgcnnipdoaaGreatDoor
open Go.RowKit

theorem regF_til {b : Int} {xs : List Int} {ps : List (List Cl)} {l : List Int} (h : l ∈ regF b xs ps) : tilR b xs ps l = true := by
  by_cases hok : Reg b xs ∧ Pcs ps
  · obtain ⟨B, rfl⟩ := Int.eq_ofNat_of_zero_le (by have := hok.1.1.1; omega : 0 ≤ b)
    have hM := regMask_lt hok.1
    rw [regF_yes hok.1 hok.2] at h
    rw [tilR_yes hok.1 hok.2]
    exact srchF_cov (by omega) h
  · rw [regF_no hok] at h
    exact absurd h List.not_mem_nil
theorem firstT_mem {Fs : List (List Int)} (h : someT Fs = true) : firstT Fs ∈ Fs := by
  cases Fs with
  | nil => cases h
  | cons f Fs => exact List.mem_cons_self
theorem ffL_mem {b : Int} {xs : List Int} {ps : List (List Cl)} {l : List Int} (h : l ∈ ffL b xs ps) : l ∈ regF b xs ps ∧ (faultsL b xs l).length = 0 := by
  unfold ffL ffTo at h
  rw [List.mem_filter] at h
  exact ⟨List.mem_of_mem_take (List.mem_of_mem_take h.1), of_decide_eq_true h.2⟩
/-- What the law says of tilings without faults. -/
theorem ff_law (b : Int) (xs : List Int) (ps : List (List Cl)) : decide (0 < cffR b xs ps) = someT (ffL b xs ps) ∧ (someT (ffL b xs ps) = true → iffR b xs ps (firstT (ffL b xs ps)) = true) ∧ cffR b xs ps ≤ ctlR b xs ps ∧ -1 ≤ cffR b xs ps ∧ cffR b xs ps ≤ 500 := by
  by_cases hok : Reg b xs ∧ Pcs ps
  · have e1 : cffR b xs ps = ((ffL b xs ps).length : Nat) := if_pos hok
    have e2 : ctlR b xs ps = ((min 2000 (regF b xs ps).length : Nat) : Int) := if_pos hok
    have hle : (ffL b xs ps).length ≤ min 500 (regF b xs ps).length := by
      unfold ffL
      refine Nat.le_trans (ffTo_le _ _ _ _) ?_
      rw [List.length_take]
      exact Nat.le_refl _
    refine ⟨?_, fun h => ?_, ?_, ?_, ?_⟩
    · rw [e1]
      generalize ffL b xs ps = F
      cases F with
      | nil => rfl
      | cons f F => rw [decide_eq_true (by rw [List.length_cons]; omega)]; rfl
    · have hm := ffL_mem (firstT_mem h)
      unfold iffR
      rw [regF_til hm.1, decide_eq_true hm.2]
      rfl
    · rw [e1, e2]; omega
    · rw [e1]; omega
    · rw [e1]; omega
  · have e1 : cffR b xs ps = -1 := if_neg hok
    have e2 : ctlR b xs ps = -1 := if_neg hok
    have e3 : ffL b xs ps = [] := ffL_no hok
    rw [e1, e2, e3]
    exact ⟨rfl, fun h => (by cases h), Int.le_refl _, Int.le_refl _, by decide⟩
theorem zerosTo_len (l : List Int) (o1 o2 : Int) : ∀ k, (zerosTo l o1 k).length = (zerosTo l o2 k).length
  | 0 => rfl
  | k + 1 => by
    have := zerosTo_len l o1 o2 k
    rw [zerosTo, zerosTo]
    split
    · rw [List.length_append, List.length_append, this]
      rfl
    · exact this
theorem ff_wf (b : Int) (xs : List Int) (ps : List (List Cl)) : ∀ v ∈ firstT (ffL b xs ps), (Lit.int .i64 v).wf = true := by
  intro v hv
  cases hs : someT (ffL b xs ps) with
  | false =>
    rcases take_one_first (ffL b xs ps) with ⟨h, _⟩ | ⟨_, _, h⟩
    · rw [hs] at h; cases h
    · rw [h] at hv; exact absurd hv List.not_mem_nil
  | true =>
    have hm := firstT_mem hs
    unfold ffL ffTo at hm
    rw [List.mem_filter] at hm
    exact (regT_facts b xs ps _ (List.mem_of_mem_take hm.1)).1 v hv
end Go.Proofs.YtajmdgcnnipdoaaGreatDoor
