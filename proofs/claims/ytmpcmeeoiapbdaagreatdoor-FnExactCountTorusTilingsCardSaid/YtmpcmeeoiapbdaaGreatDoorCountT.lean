/- CountT: the walks of CountTorusTilings, the reference's and the program's. -/
import Derived.Test.YtmpcmeeoiapbdaaGreatDoorTorN
import Derived.Test.YtmpcmeeoiapbdaaGreatDoorTorAll
import Derived.Test.YtmpcmeeoiapbdaaGreatDoorSCount
import Derived.Test.YtmpcmeeoiapbdaaGreatDoorCountI
import Derived.Deep.RegionHeld3
import Derived.BigRegion
namespace Go.Proofs.YtmpcmeeoiapbdaaGreatDoor
open Go.RowKit

attribute [local go_sem ↓] Go.wp_at_zero Go.wp_at_succ

set_option maxRecDepth 100000 in
set_option maxHeartbeats 3200000 in
theorem implCT_yes (W H : Nat) (hW : 1 ≤ W ∧ W ≤ 5) (hH : 1 ≤ H ∧ H ≤ 5) (sa : Option Addr) (cs : Nat) (ps : List (List Cl)) (w : World) (hp : Pcs ps) (hT : Tab w) (hcp : ShpsAt w sa ps) :
    Calls Tryz.prog 15 #[.int .i64 W, .int .i64 H, .slice sa ps.length cs] w fun e w' => e = .returned (.int .i64 (ctR W H ps)) ∧ Below w.heap.size w w' := by
  have hd : ctR W H ps = ((min 2000 (torF W H ps).length : Nat) : Int) := if_pos ⟨⟨by omega, by omega, by omega, by omega⟩, hp⟩
  rw [hd, torF_yes hW hH hp]
  obtain ⟨n, pn, n1, ⟨hn1, hn25, hpn, hn1p⟩, t1, t2, t3, t4, t5, t6, t7⟩ := tor_all2 hW hH
  rw [← hn1]
  have hmk : ∀ v ∈ torAll W H ps, Mk v := fun v hv => (torAll_mk (by omega) (by omega) ps v hv).mk (by omega)
  have hlen := torAll_length (by omega : W * H ≤ 25) hp.2.2
  have HSM := Lib.hid hmk
  have HAL := Lib.hid (implTAll_yes W H hW hH sa cs ps w hp hcp)
  have HT := Lib.hid hT
  clear hmk hcp hp hd hn1 hT
  generalize torAll W H ps = A at HSM HAL hlen ⊢
  have HN1 := Lib.hid (show n1 < 68719476736 by omega)
  have hcn : min 2000 (srchF A n1 n1).length ≤ 2000 := Nat.min_le_left _ _
  have HCU := Lib.hid (fun aa ca w1 h1 h2 => implCountUpTo aa ca A n1 2000 w1 (by omega) HSM.out HN1.out (by omega) (by omega) h1 h2)
  generalize min 2000 (srchF A n1 n1).length = cn at HCU hcn ⊢
  go_enter Tryz.func15, Tryz.ntmps15
  go_wp2_with fail
  refine HAL.out.mono ?_
  rintro e w1 ⟨aa, ca, rfl, ho1, hb1⟩
  have HB1 := Lib.hid hb1
  have hsz1 := hb1.size
  have HCV := Lib.hid (HCU.out aa ca w1 (HT.out.below hb1) (ownsRow_cellsAt ho1))
  clear ho1 hb1
  go_wp2_with fail
  refine HCV.out.mono ?_
  rintro e w2 ⟨rfl, hb2⟩
  have HB2 := Lib.hid (HB1.out.trans (hb2.mono hsz1))
  clear hb2
  go_wp2
  go_ret
  exact ⟨rfl, HB2.out⟩

set_option maxRecDepth 100000 in
set_option maxHeartbeats 3200000 in
theorem implCT_no (x y : Int) (sa : Option Addr) (cs : Nat) (ps : List (List Cl)) (w : World) (h : ¬ TorOk x y ps) (hnp : ps.length ≤ 1048576) (hl : ∀ p ∈ ps, p.length ≤ 1048576) (hcp : ShpsAt w sa ps) :
    Calls Tryz.prog 15 #[.int .i64 x, .int .i64 y, .slice sa ps.length cs] w fun e w' => e = .returned (.int .i64 (ctR x y ps)) ∧ Below w.heap.size w w' := by
  rw [show ctR x y ps = -1 from if_neg h]
  have HAL := Lib.hid (implTAll_no x y sa cs ps w h hnp hl hcp)
  clear hcp hl h
  go_enter Tryz.func15, Tryz.ntmps15
  go_wp2_with fail
  refine HAL.out.mono ?_
  rintro e w1 ⟨rfl, hb1⟩
  have HB1 := Lib.hid hb1
  clear hb1
  go_wp2
  go_ret
  exact ⟨rfl, HB1.out⟩

set_option maxRecDepth 100000 in
set_option maxHeartbeats 3200000 in
theorem specCT_yes (W H : Nat) (hW : 1 ≤ W ∧ W ≤ 5) (hH : 1 ≤ H ∧ H ≤ 5) (sa : Option Addr) (cs : Nat) (ps : List (List Cl)) (w : World) (hp : Pcs ps) (hnp : ps.length ≤ 1048576) (hl : ∀ p ∈ ps, p.length ≤ 1048576) (hcp : ShpsAt w sa ps) :
    Calls Tryz.prog 13 #[.int .i64 W, .int .i64 H, .slice sa ps.length cs] w fun e w' => e = .returned (.int .i64 (ctR W H ps)) ∧ Below w.heap.size w w' := by
  have hd : ctR W H ps = ((min 2000 (torF W H ps).length : Nat) : Int) := if_pos ⟨⟨by omega, by omega, by omega, by omega⟩, hp⟩
  rw [hd, torF_yes hW hH hp]
  obtain ⟨n, pn, n1, ⟨hn1, hn25, hpn, hn1p⟩, t1, t2, t3, t4, t5, t6, t7⟩ := tor_all2 hW hH
  rw [← hn1]
  have hmk : ∀ v ∈ torAll W H ps, Mk v := fun v hv => (torAll_mk (by omega) (by omega) ps v hv).mk (by omega)
  have hlen := torAll_length (by omega : W * H ≤ 25) hp.2.2
  have HSM := Lib.hid hmk
  have HCP := Lib.hid hcp
  have hpc := specPieces sa cs ps w hnp hl hcp
  rw [decide_eq_true hp] at hpc
  have HPC := Lib.hid hpc
  have HAL := Lib.hid (fun w' h => specTAll W H hW hH sa cs ps w' hp h)
  have HF := Lib.hid (l16Fine_yes (W : Int) (H : Int) w (by omega) (by omega) (by omega) (by omega))
  clear hmk hcp hp hl hd hn1 hpc
  generalize torAll W H ps = A at HSM HAL hlen ⊢
  have HN1 := Lib.hid (show n1 < 68719476736 by omega)
  have hcn : min 2000 (srchF A n1 n1).length ≤ 2000 := Nat.min_le_left _ _
  have HCU := Lib.hid (fun aa ca w1 h1 => specCount aa ca A (by omega) HSM.out n1 n1 2000 w1 (Nat.le_refl _) HN1.out (by omega) (by omega) h1)
  generalize min 2000 (srchF A n1 n1).length = cn at HCU hcn ⊢
  go_enter Tryz.func13, Tryz.ntmps13
  go_wp2_with fail
  refine HF.out.mono ?_
  rintro e w' ⟨rfl, rfl⟩
  go_wp2_with fail
  refine HPC.out.mono ?_
  rintro e w1 ⟨rfl, hb1⟩
  have HB1 := Lib.hid hb1
  have hsz1 := hb1.size
  clear hb1
  have HCP1 := Lib.hid (HCP.out.below HB1.out)
  go_wp2
  go_region_held3 (fun _ => True) (trivial)
    (first
      | (go_at_call 44; refine (HAL.out _ (by exact HCP1.out)).mono ?_; rintro e w3 ⟨aa, ca, rfl, ho3, hb3⟩; have hb3' : Below w1.heap.size w1 w3 := (by first | exact hb3 | exact (Below.refl _ _).drew.trans hb3); have hsz3 := hb3'.size; have HA3 := Lib.hid (ownsRow_cellsAt ho3))
      | (go_at_call 43; refine (HCU.out aa ca _ (by exact HA3.out)).mono ?_; rintro e w4 ⟨rfl, hb4⟩; have hb4' : Below w3.heap.size w3 w4 := (by first | exact hb4 | exact (Below.refl _ _).drew.trans hb4)))
  all_goals go_wp2
  all_goals go_ret
  all_goals exact ⟨rfl, HB1.out.trans ((hb3'.trans (hb4'.mono hsz3)).mono hsz1)⟩

set_option maxRecDepth 100000 in
set_option maxHeartbeats 3200000 in
theorem specCT_no (x y : Int) (sa : Option Addr) (cs : Nat) (ps : List (List Cl)) (w : World) (h : ¬ TorOk x y ps) (hnp : ps.length ≤ 1048576) (hl : ∀ p ∈ ps, p.length ≤ 1048576) (hcp : ShpsAt w sa ps) :
    Calls Tryz.prog 13 #[.int .i64 x, .int .i64 y, .slice sa ps.length cs] w fun e w' => e = .returned (.int .i64 (ctR x y ps)) ∧ Below w.heap.size w w' := by
  rw [show ctR x y ps = -1 from if_neg h]
  by_cases hf : 1 ≤ x ∧ x ≤ 5 ∧ 1 ≤ y ∧ y ≤ 5
  · have hs : ¬ Pcs ps := fun q => h ⟨hf, q⟩
    obtain ⟨h1, h2, h3, h4⟩ := hf
    have hpc := specPieces sa cs ps w hnp hl hcp
    rw [decide_eq_false hs] at hpc
    have HPC := Lib.hid hpc
    have HF := Lib.hid (l16Fine_yes x y w (by omega) (by omega) (by omega) (by omega))
    clear hs h hcp hpc hl
    go_enter Tryz.func13, Tryz.ntmps13
    go_wp2_with fail
    refine HF.out.mono ?_
    rintro e w' ⟨rfl, rfl⟩
    go_wp2_with fail
    refine HPC.out.mono ?_
    rintro e w1 ⟨rfl, hb1⟩
    have HB1 := Lib.hid hb1
    clear hb1
    go_wp2
    go_ret
    exact ⟨rfl, HB1.out⟩
  · have HF := Lib.hid (l16Fine_no x y w hf)
    clear h hcp hf hl
    go_enter Tryz.func13, Tryz.ntmps13
    go_wp2_with fail
    refine HF.out.mono ?_
    rintro e w' ⟨rfl, rfl⟩
    go_wp2
    go_ret
    exact ⟨rfl, Below.refl _ _⟩
end Go.Proofs.YtmpcmeeoiapbdaaGreatDoor
