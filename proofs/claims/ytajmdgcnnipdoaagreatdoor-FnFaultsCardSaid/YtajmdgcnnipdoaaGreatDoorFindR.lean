/- FindR: the walks of FindTiling, the reference's and the program's. -/
import Derived.Test.YtajmdgcnnipdoaaGreatDoorAllPl
import Derived.Test.YtajmdgcnnipdoaaGreatDoorAllArea
import Derived.Test.YtajmdgcnnipdoaaGreatDoorAllSS
import Derived.Test.YtajmdgcnnipdoaaGreatDoorAllFill
import Derived.Deep.RegionHeld3
import Derived.BigRegion
import Derived.Deep.DrawnRows
namespace Go.Proofs.YtajmdgcnnipdoaaGreatDoor
open Go.RowKit

attribute [local go_sem ↓] Go.wp_at_zero Go.wp_at_succ

set_option maxRecDepth 100000 in
set_option maxHeartbeats 3200000 in
theorem implFR (b : Int) (ad : Option Addr) (c : Nat) (xs : List Int) (sa : Option Addr) (cs : Nat) (ps : List (List Cl)) (w : World) (hn : xs.length ≤ 1048576) (hnp : ps.length ≤ 1048576) (hl : ∀ p ∈ ps, p.length ≤ 1048576) (hT : Tab w) (hc : CellsAt w ad (ints xs)) (hcp : ShpsAt w sa ps) :
    Calls Tryz.prog 83 #[.agg #[.int .i64 b, .slice ad xs.length c], .slice sa ps.length cs] w (FoundAt w (regF b xs ps)) := by
  have HPR := Lib.hid (fun w' h1 h2 => implProb b ad c xs sa cs ps w' hn hnp hl h1 h2)
  have HC := Lib.hid hc
  have HCP := Lib.hid hcp
  have HT := Lib.hid hT
  clear hc hcp hT
  obtain ⟨wA, hwA⟩ : ∃ wA, wA = w.alloc (.cells #[.int .i64 b, .slice ad xs.length c] 26) := ⟨_, rfl⟩
  have hbA : Below w.heap.size w wA := by rw [hwA]; exact (Below.refl _ _).alloc (Nat.le_refl _) _
  have hzA : wA.heap.size = w.heap.size + 1 := by rw [hwA]; simp
  have hblkA : wA.heap[w.heap.size]? = some (.cells #[.int .i64 b, .slice ad xs.length c] 26 (0, 0)) := by rw [hwA]; exact heap_alloc_new w _
  have HBA := Lib.hid hbA
  have HBLKA := Lib.hid hblkA
  have HWA := Lib.hid hwA
  have hszA := hbA.size
  clear hbA hblkA hwA
  unfold FoundAt
  by_cases hok : Reg b xs ∧ Pcs ps
  · obtain ⟨hr, hp⟩ := hok
    have hbn : b = (b.toNat : Int) := by have := hr.1.1; omega
    obtain ⟨B, hB⟩ : ∃ B, B = b.toNat := ⟨_, rfl⟩
    rw [← hB] at hbn
    rw [decide_eq_true hr, decide_eq_true hp] at HPR
    simp only [Bool.true_and] at HPR
    have hrB : Reg (B : Int) xs := by rw [← hbn]; exact hr
    have hal0 := fun w' h1 h2 => implAll B ad c xs sa cs ps w' hrB hp h1 h2
    have hmk0 := fun w' h1 => implMask B ad c xs w' hrB h1
    rw [← hbn] at hal0 hmk0
    have HAL := Lib.hid hal0
    have HMK := Lib.hid hmk0
    have hlen := allL_length hrB hp
    have HSM := Lib.hid (allL_mk hrB hp)
    have hf : regF b xs ps = srchF (allL B xs ps) (regMask b xs) (regMask b xs) := by rw [hbn]; exact regF_yes hrB hp
    have hml : regMask b xs < 68719476736 := by have := regMask_lt hr; omega
    rw [hf]
    clear hal0 hmk0 hrB hr hp hbn hB hl hf
    generalize allL B xs ps = A at HAL hlen HSM ⊢
    generalize regMask b xs = M at HMK hml ⊢
    have HCU := Lib.hid (fun aa ca w1 h1 h2 => implOrdinal aa ca A M w1 (by omega) HSM.out hml h1 h2)
    generalize firstT (srchF A M M) = r0 at HCU ⊢
    generalize someT (srchF A M M) = r1 at HCU ⊢
    go_enter Tryz.func83, Tryz.ntmps83
    go_wp2_with fail
    rw [← HWA.out]
    refine (HPR.out wA (HC.out.below HBA.out) (HCP.out.below HBA.out)).mono ?_
    rintro e w1 ⟨rfl, hb1⟩
    have HB1 := Lib.hid (HBA.out.trans (hb1.mono hszA))
    have HBX1 := Lib.hid hb1
    have hsz1 := HB1.out.size
    have hs1A := hb1.size
    have hblk1 := (HBX1.out.block w.heap.size (by omega)).trans HBLKA.out
    have x10 : w1.cell? ⟨w.heap.size, 0, none⟩ = some (.int .i64 b) := by rw [cell_of_row w1 _ 0 _ _ _ hblk1]; rfl
    have x11 : w1.cell? ⟨w.heap.size, 1, none⟩ = some (.slice ad xs.length c) := by rw [cell_of_row w1 _ 1 _ _ _ hblk1]; rfl
    clear hblk1
    clear hb1
    have HT1 := Lib.hid (HT.out.below HB1.out)
    have hwlt : w.heap.size < w1.heap.size := by omega
    have HC1 := Lib.hid (HC.out.below HB1.out)
    have HCP1 := Lib.hid (HCP.out.below HB1.out)
    go_wp2
    go_region_held3 (fun w' => w'.cell? ⟨w.heap.size, 0, none⟩ = some (.int .i64 b) ∧ w'.cell? ⟨w.heap.size, 1, none⟩ = some (.slice ad xs.length c)) (first | (go_keep; done) | exact ⟨((hb3'.trans (hb4'.mono hsz3)).cell (p := ⟨w.heap.size, 0, none⟩) (by show w.heap.size < _; omega)).trans x10, ((hb3'.trans (hb4'.mono hsz3)).cell (p := ⟨w.heap.size, 1, none⟩) (by show w.heap.size < _; omega)).trans x11⟩ | exact ⟨(hb3'.cell (p := ⟨w.heap.size, 0, none⟩) (by show w.heap.size < _; omega)).trans x10, (hb3'.cell (p := ⟨w.heap.size, 1, none⟩) (by show w.heap.size < _; omega)).trans x11⟩ | exact ⟨((hb3'.trans ((hb4'.trans (hb5'.mono hsz4)).mono hsz3)).cell (p := ⟨w.heap.size, 0, none⟩) (by show w.heap.size < _; omega)).trans x10, ((hb3'.trans ((hb4'.trans (hb5'.mono hsz4)).mono hsz3)).cell (p := ⟨w.heap.size, 1, none⟩) (by show w.heap.size < _; omega)).trans x11⟩)
      (first
        | (go_at_call 76; refine (HAL.out _ (by exact HC1.out) (by exact HCP1.out)).mono ?_; rintro e w3 ⟨a3, c3, rfl, ho3, hb3⟩; have hb3' : Below w1.heap.size w1 w3 := (by first | exact hb3 | exact (Below.refl _ _).drew.trans hb3); have hsz3 := hb3'.size; have HA3 := Lib.hid (ownsRow_cellsAt ho3); have HC3 := Lib.hid (HC1.out.below hb3'))
        | (go_at_call 77; refine (HMK.out _ (by exact HC3.out)).mono ?_; rintro e w4 ⟨rfl, hb4⟩; have hb4' : Below w3.heap.size w3 w4 := (by first | exact hb4 | exact (Below.refl _ _).drew.trans hb4); have hsz4 := hb4'.size; have HA4 := Lib.hid (HA3.out.below hb4'))
        | (go_at_call 100; refine (HCU.out a3 c3 _ (by exact HT1.out.below (hb3'.trans (hb4'.mono hsz3))) (by exact HA4.out)).mono ?_; rintro e w5 ⟨a5, c5, rfl, ho5, hb5⟩; have hb5' : Below w4.heap.size w4 w5 := (by first | exact hb5 | exact (Below.refl _ _).drew.trans hb5); have ho5' : w5.ownsRow w4.heap.size _ _ _ _ _ := ho5))
    have HB5 := Lib.hid (HB1.out.trans ((hb3'.trans ((hb4'.trans (hb5'.mono hsz4)).mono hsz3)).mono hsz1))
    have HO5 := Lib.hid (ownsRow_rebase ho5' (show w.heap.size ≤ w4.heap.size by omega))
    go_wp2
    go_ret2
    exact ⟨a5, c5, rfl, HO5.out, HB5.out⟩
  · have hf2 : (decide (Reg b xs) && decide (Pcs ps)) = false := by
      by_cases h1 : Reg b xs
      · have h2 : ¬ Pcs ps := fun q => hok ⟨h1, q⟩
        rw [decide_eq_false h2]
        simp
      · rw [decide_eq_false h1]
        rfl
    rw [hf2] at HPR
    rw [regF_no hok]
    clear hf2 hok hl
    go_enter Tryz.func83, Tryz.ntmps83
    go_wp2_with fail
    rw [← HWA.out]
    refine (HPR.out wA (HC.out.below HBA.out) (HCP.out.below HBA.out)).mono ?_
    rintro e w1 ⟨rfl, hb1⟩
    have HB1 := Lib.hid (HBA.out.trans (hb1.mono hszA))
    clear hb1
    go_wp2
    go_ret2
    exact ⟨none, 0, rfl, World.ownsRow_nil _ _ _ _, HB1.out⟩

set_option maxRecDepth 100000 in
set_option maxHeartbeats 3200000 in
theorem specFR (b : Int) (ad : Option Addr) (c : Nat) (xs : List Int) (sa : Option Addr) (cs : Nat) (ps : List (List Cl)) (w : World) (hn : xs.length ≤ 1048576) (hnp : ps.length ≤ 1048576) (hl : ∀ p ∈ ps, p.length ≤ 1048576) (hc : CellsAt w ad (ints xs)) (hcp : ShpsAt w sa ps) :
    Calls Tryz.prog 103 #[.agg #[.int .i64 b, .slice ad xs.length c], .slice sa ps.length cs] w (FoundAt w (regF b xs ps)) := by
  have HREG := Lib.hid (fun w' h => specReg b ad c xs w' hn h)
  have HPC := Lib.hid (fun w' h => specPieces sa cs ps w' hnp hl h)
  have HC := Lib.hid hc
  have HCP := Lib.hid hcp
  clear hc hcp hl
  obtain ⟨wA, hwA⟩ : ∃ wA, wA = w.alloc (.cells #[.int .i64 b, .slice ad xs.length c] 26) := ⟨_, rfl⟩
  have hbA : Below w.heap.size w wA := by rw [hwA]; exact (Below.refl _ _).alloc (Nat.le_refl _) _
  have hzA : wA.heap.size = w.heap.size + 1 := by rw [hwA]; simp
  have hblkA : wA.heap[w.heap.size]? = some (.cells #[.int .i64 b, .slice ad xs.length c] 26 (0, 0)) := by rw [hwA]; exact heap_alloc_new w _
  have HBA := Lib.hid hbA
  have HBLKA := Lib.hid hblkA
  have HWA := Lib.hid hwA
  have hszA := hbA.size
  clear hbA hblkA hwA
  unfold FoundAt
  by_cases hr : Reg b xs
  · by_cases hp : Pcs ps
    · have hbn : b = (b.toNat : Int) := by have := hr.1.1; omega
      obtain ⟨B, hB⟩ : ∃ B, B = b.toNat := ⟨_, rfl⟩
      rw [← hB] at hbn
      rw [decide_eq_true hr] at HREG
      rw [decide_eq_true hp] at HPC
      have hrB : Reg (B : Int) xs := by rw [← hbn]; exact hr
      have hal0 := fun w' h1 h2 => specAll B ad c xs sa cs ps w' hrB hp h1 h2
      have hmk0 := fun w' h1 => specMask B ad c xs w' hrB h1
      rw [← hbn] at hal0 hmk0
      have HAL := Lib.hid hal0
      have HMK := Lib.hid hmk0
      have hlen := allL_length hrB hp
      have HSM := Lib.hid (allL_mk hrB hp)
      have hf : regF b xs ps = srchF (allL B xs ps) (regMask b xs) (regMask b xs) := by rw [hbn]; exact regF_yes hrB hp
      have hml : regMask b xs < 68719476736 := by have := regMask_lt hr; omega
      rw [hf]
      clear hal0 hmk0 hrB hr hp hbn hB hf
      generalize allL B xs ps = A at HAL hlen HSM ⊢
      generalize regMask b xs = M at HMK hml ⊢
      have hcu := fun aa ca w1 h1 => specSearch aa ca A (by omega) HSM.out M M 1 w1 (Nat.le_refl _) hml (by omega) (by omega) h1
      rcases take_one_first (srchF A M M) with ⟨hs, ht⟩ | ⟨hs, ht, hf⟩
      · rw [ht] at hcu
        rw [hs]
        have HCU := Lib.hid hcu
        clear hcu ht hs
        generalize firstT (srchF A M M) = r0 at HCU ⊢
        go_enter Tryz.func103, Tryz.ntmps103
        go_wp2_with fail
        rw [← HWA.out]
        refine (HREG.out wA (HC.out.below HBA.out)).mono ?_
        rintro e w1 ⟨rfl, hb1⟩
        have HB1 := Lib.hid (HBA.out.trans (hb1.mono hszA))
        have HBX1 := Lib.hid hb1
        have hsz1 := HB1.out.size
        have hs1A := hb1.size
        have hblk1 := (HBX1.out.block w.heap.size (by omega)).trans HBLKA.out
        have x10 : w1.cell? ⟨w.heap.size, 0, none⟩ = some (.int .i64 b) := by rw [cell_of_row w1 _ 0 _ _ _ hblk1]; rfl
        have x11 : w1.cell? ⟨w.heap.size, 1, none⟩ = some (.slice ad xs.length c) := by rw [cell_of_row w1 _ 1 _ _ _ hblk1]; rfl
        clear hblk1
        clear hb1
        go_wp2_with fail
        refine (HPC.out w1 (HCP.out.below HB1.out)).mono ?_
        rintro e w2 ⟨rfl, hb2⟩
        have HB2 := Lib.hid (HB1.out.trans (hb2.mono hsz1))
        have hsz2 := HB2.out.size
        have hs21 := hb2.size
        have y0 := (hb2.cell (p := ⟨w.heap.size, 0, none⟩) (by simp; omega)).trans x10
        have y1 := (hb2.cell (p := ⟨w.heap.size, 1, none⟩) (by simp; omega)).trans x11
        clear hb2 x10 x11
        have hwlt : w.heap.size < w2.heap.size := by omega
        have HC1 := Lib.hid (HC.out.below HB2.out)
        have HCP1 := Lib.hid (HCP.out.below HB2.out)
        go_wp2
        go_region_held3 (fun w' => w'.cell? ⟨w.heap.size, 0, none⟩ = some (.int .i64 b) ∧ w'.cell? ⟨w.heap.size, 1, none⟩ = some (.slice ad xs.length c)) (first | (go_keep; done) | exact ⟨((hb3'.trans (hb4'.mono hsz3)).cell (p := ⟨w.heap.size, 0, none⟩) (by show w.heap.size < _; omega)).trans y0, ((hb3'.trans (hb4'.mono hsz3)).cell (p := ⟨w.heap.size, 1, none⟩) (by show w.heap.size < _; omega)).trans y1⟩ | exact ⟨(hb3'.cell (p := ⟨w.heap.size, 0, none⟩) (by show w.heap.size < _; omega)).trans y0, (hb3'.cell (p := ⟨w.heap.size, 1, none⟩) (by show w.heap.size < _; omega)).trans y1⟩ | exact ⟨((hb3'.trans ((hb4'.trans (hb5'.mono hsz4)).mono hsz3)).cell (p := ⟨w.heap.size, 0, none⟩) (by show w.heap.size < _; omega)).trans y0, ((hb3'.trans ((hb4'.trans (hb5'.mono hsz4)).mono hsz3)).cell (p := ⟨w.heap.size, 1, none⟩) (by show w.heap.size < _; omega)).trans y1⟩)
          (first
            | (go_at_call 67; refine (HAL.out _ (by exact HC1.out) (by exact HCP1.out)).mono ?_; rintro e w3 ⟨a3, c3, rfl, ho3, hb3⟩; have hb3' : Below w2.heap.size w2 w3 := (by first | exact hb3 | exact (Below.refl _ _).drew.trans hb3); have hsz3 := hb3'.size; have HA3 := Lib.hid (ownsRow_cellsAt ho3); have HC3 := Lib.hid (HC1.out.below hb3'))
            | (go_at_call 70; refine (HMK.out _ (by exact HC3.out)).mono ?_; rintro e w4 ⟨rfl, hb4⟩; have hb4' : Below w3.heap.size w3 w4 := (by first | exact hb4 | exact (Below.refl _ _).drew.trans hb4); have hsz4 := hb4'.size; have HA4 := Lib.hid (HA3.out.below hb4'))
            | (go_at_call 101; refine (HCU.out a3 c3 _ (by exact HA4.out)).mono ?_; rintro e w5 ⟨a5, c5, rfl, hm5, hb5⟩; have hb5' : Below w4.heap.size w4 w5 := (by first | exact hb5 | exact (Below.refl _ _).drew.trans hb5); have hm5' : OwnMat w5 w4.heap.size _ _ := hm5))
        have HB5 := Lib.hid (HB2.out.trans ((hb3'.trans ((hb4'.trans (hb5'.mono hsz4)).mono hsz3)).mono hsz2))
        obtain ⟨g, ai, ci, rfl, z0, ho⟩ := OwnMat.one hm5'
        have HO := Lib.hid (ownsRow_rebase ho (show w.heap.size ≤ w4.heap.size by omega))
        go_wp2
        go_ret2
        exact ⟨ai, ci, rfl, HO.out, HB5.out⟩
      · rw [ht] at hcu
        rw [hs, hf]
        have HCU := Lib.hid hcu
        clear hcu ht hs hf
        go_enter Tryz.func103, Tryz.ntmps103
        go_wp2_with fail
        rw [← HWA.out]
        refine (HREG.out wA (HC.out.below HBA.out)).mono ?_
        rintro e w1 ⟨rfl, hb1⟩
        have HB1 := Lib.hid (HBA.out.trans (hb1.mono hszA))
        have HBX1 := Lib.hid hb1
        have hsz1 := HB1.out.size
        have hs1A := hb1.size
        have hblk1 := (HBX1.out.block w.heap.size (by omega)).trans HBLKA.out
        have x10 : w1.cell? ⟨w.heap.size, 0, none⟩ = some (.int .i64 b) := by rw [cell_of_row w1 _ 0 _ _ _ hblk1]; rfl
        have x11 : w1.cell? ⟨w.heap.size, 1, none⟩ = some (.slice ad xs.length c) := by rw [cell_of_row w1 _ 1 _ _ _ hblk1]; rfl
        clear hblk1
        clear hb1
        go_wp2_with fail
        refine (HPC.out w1 (HCP.out.below HB1.out)).mono ?_
        rintro e w2 ⟨rfl, hb2⟩
        have HB2 := Lib.hid (HB1.out.trans (hb2.mono hsz1))
        have hsz2 := HB2.out.size
        have hs21 := hb2.size
        have y0 := (hb2.cell (p := ⟨w.heap.size, 0, none⟩) (by simp; omega)).trans x10
        have y1 := (hb2.cell (p := ⟨w.heap.size, 1, none⟩) (by simp; omega)).trans x11
        clear hb2 x10 x11
        have hwlt : w.heap.size < w2.heap.size := by omega
        have HC1 := Lib.hid (HC.out.below HB2.out)
        have HCP1 := Lib.hid (HCP.out.below HB2.out)
        go_wp2
        go_region_held3 (fun w' => w'.cell? ⟨w.heap.size, 0, none⟩ = some (.int .i64 b) ∧ w'.cell? ⟨w.heap.size, 1, none⟩ = some (.slice ad xs.length c)) (first | (go_keep; done) | exact ⟨((hb3'.trans (hb4'.mono hsz3)).cell (p := ⟨w.heap.size, 0, none⟩) (by show w.heap.size < _; omega)).trans y0, ((hb3'.trans (hb4'.mono hsz3)).cell (p := ⟨w.heap.size, 1, none⟩) (by show w.heap.size < _; omega)).trans y1⟩ | exact ⟨(hb3'.cell (p := ⟨w.heap.size, 0, none⟩) (by show w.heap.size < _; omega)).trans y0, (hb3'.cell (p := ⟨w.heap.size, 1, none⟩) (by show w.heap.size < _; omega)).trans y1⟩ | exact ⟨((hb3'.trans ((hb4'.trans (hb5'.mono hsz4)).mono hsz3)).cell (p := ⟨w.heap.size, 0, none⟩) (by show w.heap.size < _; omega)).trans y0, ((hb3'.trans ((hb4'.trans (hb5'.mono hsz4)).mono hsz3)).cell (p := ⟨w.heap.size, 1, none⟩) (by show w.heap.size < _; omega)).trans y1⟩)
          (first
            | (go_at_call 67; refine (HAL.out _ (by exact HC1.out) (by exact HCP1.out)).mono ?_; rintro e w3 ⟨a3, c3, rfl, ho3, hb3⟩; have hb3' : Below w2.heap.size w2 w3 := (by first | exact hb3 | exact (Below.refl _ _).drew.trans hb3); have hsz3 := hb3'.size; have HA3 := Lib.hid (ownsRow_cellsAt ho3); have HC3 := Lib.hid (HC1.out.below hb3'))
            | (go_at_call 70; refine (HMK.out _ (by exact HC3.out)).mono ?_; rintro e w4 ⟨rfl, hb4⟩; have hb4' : Below w3.heap.size w3 w4 := (by first | exact hb4 | exact (Below.refl _ _).drew.trans hb4); have hsz4 := hb4'.size; have HA4 := Lib.hid (HA3.out.below hb4'))
            | (go_at_call 101; refine (HCU.out a3 c3 _ (by exact HA4.out)).mono ?_; rintro e w5 ⟨a5, c5, rfl, hm5, hb5⟩; have hb5' : Below w4.heap.size w4 w5 := (by first | exact hb5 | exact (Below.refl _ _).drew.trans hb5); have hm5' : OwnMat w5 w4.heap.size _ _ := hm5))
        have HB5 := Lib.hid (HB2.out.trans ((hb3'.trans ((hb4'.trans (hb5'.mono hsz4)).mono hsz3)).mono hsz2))
        have hsz5 := HB5.out.size
        have HE := Lib.hid (ownsRow_rebase (ownsRow_empty w5 3 1) hsz5)
        go_wp2
        go_ret2
        exact ⟨_, _, rfl, HE.out, HB5.out.alloc hsz5 _⟩
    · rw [decide_eq_true hr] at HREG
      rw [decide_eq_false hp] at HPC
      rw [regF_no (fun q => hp q.2)]
      clear hr hp
      go_enter Tryz.func103, Tryz.ntmps103
      go_wp2_with fail
      rw [← HWA.out]
      refine (HREG.out wA (HC.out.below HBA.out)).mono ?_
      rintro e w1 ⟨rfl, hb1⟩
      have HB1 := Lib.hid (HBA.out.trans (hb1.mono hszA))
      have hsz1 := HB1.out.size
      clear hb1
      go_wp2_with fail
      refine (HPC.out w1 (HCP.out.below HB1.out)).mono ?_
      rintro e w2 ⟨rfl, hb2⟩
      have HB2 := Lib.hid (HB1.out.trans (hb2.mono hsz1))
      have hsz2 := HB2.out.size
      have HE := Lib.hid (ownsRow_rebase (ownsRow_empty w2 3 1) hsz2)
      clear hb2
      go_wp2
      go_ret2
      exact ⟨_, _, rfl, HE.out, HB2.out.alloc hsz2 _⟩
  · rw [decide_eq_false hr] at HREG
    rw [regF_no (fun q => hr q.1)]
    clear hr
    go_enter Tryz.func103, Tryz.ntmps103
    go_wp2_with fail
    rw [← HWA.out]
    refine (HREG.out wA (HC.out.below HBA.out)).mono ?_
    rintro e w1 ⟨rfl, hb1⟩
    have HB1 := Lib.hid (HBA.out.trans (hb1.mono hszA))
    have hsz1 := HB1.out.size
    have HE := Lib.hid (ownsRow_rebase (ownsRow_empty w1 3 1) hsz1)
    clear hb1
    go_wp2
    go_ret2
    exact ⟨_, _, rfl, HE.out, HB1.out.alloc hsz1 _⟩
end Go.Proofs.YtajmdgcnnipdoaaGreatDoor
