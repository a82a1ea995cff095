/- FindT: the walks of FindTorusTiling, the reference's and the program's. -/
import Derived.Test.YtajmdgcnnipdoaaGreatDoorAllPl
import Derived.Test.YtajmdgcnnipdoaaGreatDoorAllTor
import Derived.Test.YtajmdgcnnipdoaaGreatDoorAllSS
import Derived.Test.YtajmdgcnnipdoaaGreatDoorAllFill
import Derived.Deep.RegionHeld3
import Derived.BigRegion
import Derived.Deep.DrawnRows
namespace Go.Proofs.YtajmdgcnnipdoaaGreatDoor
open Go.RowKit

attribute [local go_sem ↓] Go.wp_at_zero Go.wp_at_succ


set_option maxRecDepth 100000 in
set_option maxHeartbeats 3200000 in
theorem implFT_yes (W H : Nat) (hW : 1 ≤ W ∧ W ≤ 5) (hH : 1 ≤ H ∧ H ≤ 5) (sa : Option Addr) (cs : Nat) (ps : List (List Cl)) (w : World) (hp : Pcs ps) (hT : Tab w) (hcp : ShpsAt w sa ps) :
    Calls Tryz.prog 48 #[.int .i64 W, .int .i64 H, .slice sa ps.length cs] w (FoundAt w (torF W H ps)) := by
  rw [torF_yes hW hH hp]
  obtain ⟨n, pn, n1, ⟨hn1, hn25, hpn, hn1p⟩, t1, t2, t3, t4, t5, t6, t7⟩ := tor_all2 hW hH
  rw [← hn1]
  have hmk : ∀ v ∈ torAll W H ps, Mk v := fun v hv => (torAll_mk (by omega) (by omega) ps v hv).mk (by omega)
  have hlen := torAll_length (by omega : W * H ≤ 25) hp.2.2
  have HSM := Lib.hid hmk
  have HAL := Lib.hid (implTAll_yes W H hW hH sa cs ps w hp hcp)
  have HT := Lib.hid hT
  clear hmk hcp hp hn1 hT
  generalize torAll W H ps = A at HSM HAL hlen ⊢
  have HN1 := Lib.hid (show n1 < 68719476736 by omega)
  have HCU := Lib.hid (fun aa ca w1 h1 h2 => implOrdinal aa ca A n1 w1 (by omega) HSM.out HN1.out h1 h2)
  unfold FoundAt
  generalize firstT (srchF A n1 n1) = r0 at HCU ⊢
  generalize someT (srchF A n1 n1) = r1 at HCU ⊢
  go_enter Tryz.func48, Tryz.ntmps48
  go_wp2_with fail
  refine HAL.out.mono ?_
  rintro e w1 ⟨aa, ca, rfl, ho1, hb1⟩
  have HB1 := Lib.hid hb1
  have hsz1 := hb1.size
  have HCV := Lib.hid (HCU.out aa ca w1 (HT.out.below hb1) (ownsRow_cellsAt ho1))
  clear ho1 hb1
  go_wp2_with fail
  refine HCV.out.mono ?_
  rintro e w2 ⟨a2, c2, rfl, ho2, hb2⟩
  have HB2 := Lib.hid (HB1.out.trans (hb2.mono hsz1))
  have HO2 := Lib.hid (ownsRow_rebase ho2 hsz1)
  clear hb2 ho2
  go_wp2
  go_ret2
  exact ⟨a2, c2, rfl, HO2.out, HB2.out⟩

set_option maxRecDepth 100000 in
set_option maxHeartbeats 3200000 in
theorem implFT_no (x y : Int) (sa : Option Addr) (cs : Nat) (ps : List (List Cl)) (w : World) (h : ¬ TorOk x y ps) (hnp : ps.length ≤ 1048576) (hl : ∀ p ∈ ps, p.length ≤ 1048576) (hcp : ShpsAt w sa ps) :
    Calls Tryz.prog 48 #[.int .i64 x, .int .i64 y, .slice sa ps.length cs] w (FoundAt w (torF x y ps)) := by
  rw [torF_no h]
  unfold FoundAt
  have HAL := Lib.hid (implTAll_no x y sa cs ps w h hnp hl hcp)
  clear hcp hl h
  go_enter Tryz.func48, Tryz.ntmps48
  go_wp2_with fail
  refine HAL.out.mono ?_
  rintro e w1 ⟨rfl, hb1⟩
  have HB1 := Lib.hid hb1
  clear hb1
  go_wp2
  go_ret2
  exact ⟨none, 0, rfl, World.ownsRow_nil _ _ _ _, HB1.out⟩

set_option maxRecDepth 100000 in
set_option maxHeartbeats 3200000 in
theorem specFT_yes (W H : Nat) (hW : 1 ≤ W ∧ W ≤ 5) (hH : 1 ≤ H ∧ H ≤ 5) (sa : Option Addr) (cs : Nat) (ps : List (List Cl)) (w : World) (hp : Pcs ps) (hnp : ps.length ≤ 1048576) (hl : ∀ p ∈ ps, p.length ≤ 1048576) (hcp : ShpsAt w sa ps) :
    Calls Tryz.prog 49 #[.int .i64 W, .int .i64 H, .slice sa ps.length cs] w (FoundAt w (torF W H ps)) := by
  rw [torF_yes hW hH hp]
  obtain ⟨n, pn, n1, ⟨hn1, hn25, hpn, hn1p⟩, t1, t2, t3, t4, t5, t6, t7⟩ := tor_all2 hW hH
  rw [← hn1]
  have hmk : ∀ v ∈ torAll W H ps, Mk v := fun v hv => (torAll_mk (by omega) (by omega) ps v hv).mk (by omega)
  have hlen := torAll_length (by omega : W * H ≤ 25) hp.2.2
  have HSM := Lib.hid hmk
  have HCP := Lib.hid hcp
  have hpc := specPieces sa cs ps w hnp hl hcp
  rw [decide_eq_true hp] at hpc
  have HPC := Lib.hid hpc
  have HAL := Lib.hid (fun w' h => specTAll W H hW hH sa cs ps w' hp h)
  have HF := Lib.hid (l16Fine_yes (W : Int) (H : Int) w (by omega) (by omega) (by omega) (by omega))
  clear hmk hcp hp hl hn1 hpc
  generalize torAll W H ps = A at HSM HAL hlen ⊢
  have HN1 := Lib.hid (show n1 < 68719476736 by omega)
  have hcu := fun aa ca w1 h1 => specSearch aa ca A (by omega) HSM.out n1 n1 1 w1 (Nat.le_refl _) HN1.out (by omega) (by omega) h1
  unfold FoundAt
  rcases take_one_first (srchF A n1 n1) with ⟨hs, ht⟩ | ⟨hs, ht, hf⟩
  · rw [ht] at hcu
    rw [hs]
    have HCU := Lib.hid hcu
    clear hcu ht hs
    generalize firstT (srchF A n1 n1) = r0 at HCU ⊢
    go_enter Tryz.func49, Tryz.ntmps49
    go_wp2_with fail
    refine HF.out.mono ?_
    rintro e w' ⟨rfl, rfl⟩
    go_wp2_with fail
    refine HPC.out.mono ?_
    rintro e w1 ⟨rfl, hb1⟩
    have HB1 := Lib.hid hb1
    have hsz1 := hb1.size
    clear hb1
    have HCP1 := Lib.hid (HCP.out.below HB1.out)
    go_wp2
    go_region_held3 (fun _ => True) (trivial)
      (first
        | (go_at_call 96; refine (HAL.out _ (by exact HCP1.out)).mono ?_; rintro e w3 ⟨aa, ca, rfl, ho3, hb3⟩; have hb3' : Below w1.heap.size w1 w3 := (by first | exact hb3 | exact (Below.refl _ _).drew.trans hb3); have hsz3 := hb3'.size; have HA3 := Lib.hid (ownsRow_cellsAt ho3))
        | (go_at_call 101; refine (HCU.out aa ca _ (by exact HA3.out)).mono ?_; rintro e w4 ⟨a4, c4, rfl, hm4, hb4⟩; have hm4' : OwnMat w4 w3.heap.size _ _ := hm4; have hb4' : Below w3.heap.size w3 w4 := (by first | exact hb4 | exact (Below.refl _ _).drew.trans hb4)))
    have HB4 := Lib.hid (HB1.out.trans ((hb3'.trans (hb4'.mono hsz3)).mono hsz1))
    have hsz30 : w.heap.size ≤ w3.heap.size := Nat.le_trans hsz1 hsz3
    obtain ⟨g, ai, ci, rfl, x0, ho⟩ := OwnMat.one hm4'
    have HO := Lib.hid (ownsRow_rebase ho hsz30)
    clear hb4 hb4' hm4 hm4' ho hb3 hb3' ho3
    go_wp2
    go_ret2
    exact ⟨ai, ci, rfl, HO.out, HB4.out⟩
  · rw [ht] at hcu
    rw [hs, hf]
    have HCU := Lib.hid hcu
    clear hcu ht hs hf
    go_enter Tryz.func49, Tryz.ntmps49
    go_wp2_with fail
    refine HF.out.mono ?_
    rintro e w' ⟨rfl, rfl⟩
    go_wp2_with fail
    refine HPC.out.mono ?_
    rintro e w1 ⟨rfl, hb1⟩
    have HB1 := Lib.hid hb1
    have hsz1 := hb1.size
    clear hb1
    have HCP1 := Lib.hid (HCP.out.below HB1.out)
    go_wp2
    go_region_held3 (fun _ => True) (trivial)
      (first
        | (go_at_call 96; refine (HAL.out _ (by exact HCP1.out)).mono ?_; rintro e w3 ⟨aa, ca, rfl, ho3, hb3⟩; have hb3' : Below w1.heap.size w1 w3 := (by first | exact hb3 | exact (Below.refl _ _).drew.trans hb3); have hsz3 := hb3'.size; have HA3 := Lib.hid (ownsRow_cellsAt ho3))
        | (go_at_call 101; refine (HCU.out aa ca _ (by exact HA3.out)).mono ?_; rintro e w4 ⟨a4, c4, rfl, hm4, hb4⟩; have hm4' : OwnMat w4 w3.heap.size _ _ := hm4; have hb4' : Below w3.heap.size w3 w4 := (by first | exact hb4 | exact (Below.refl _ _).drew.trans hb4)))
    have HB4 := Lib.hid (HB1.out.trans ((hb3'.trans (hb4'.mono hsz3)).mono hsz1))
    have hsz30 : w.heap.size ≤ w3.heap.size := Nat.le_trans hsz1 hsz3
    have hsz4 := HB4.out.size
    clear hb4 hb4' hm4 hm4' hb3 hb3' ho3
    have HE := Lib.hid (ownsRow_rebase (ownsRow_empty w4 3 1) hsz4)
    go_wp2
    go_ret2
    exact ⟨_, _, rfl, HE.out, HB4.out.alloc hsz4 _⟩

set_option maxRecDepth 100000 in
set_option maxHeartbeats 3200000 in
theorem specFT_no (x y : Int) (sa : Option Addr) (cs : Nat) (ps : List (List Cl)) (w : World) (h : ¬ TorOk x y ps) (hnp : ps.length ≤ 1048576) (hl : ∀ p ∈ ps, p.length ≤ 1048576) (hcp : ShpsAt w sa ps) :
    Calls Tryz.prog 49 #[.int .i64 x, .int .i64 y, .slice sa ps.length cs] w (FoundAt w (torF x y ps)) := by
  rw [torF_no h]
  unfold FoundAt
  by_cases hf : 1 ≤ x ∧ x ≤ 5 ∧ 1 ≤ y ∧ y ≤ 5
  · have hs : ¬ Pcs ps := fun q => h ⟨hf, q⟩
    obtain ⟨h1, h2, h3, h4⟩ := hf
    have hpc := specPieces sa cs ps w hnp hl hcp
    rw [decide_eq_false hs] at hpc
    have HPC := Lib.hid hpc
    have HF := Lib.hid (l16Fine_yes x y w (by omega) (by omega) (by omega) (by omega))
    clear hs h hcp hpc hl
    go_enter Tryz.func49, Tryz.ntmps49
    go_wp2_with fail
    refine HF.out.mono ?_
    rintro e w' ⟨rfl, rfl⟩
    go_wp2_with fail
    refine HPC.out.mono ?_
    rintro e w1 ⟨rfl, hb1⟩
    have HB1 := Lib.hid hb1
    have hsz1 := hb1.size
    have HE := Lib.hid (ownsRow_rebase (ownsRow_empty w1 3 1) hsz1)
    clear hb1
    go_wp2
    go_ret2
    exact ⟨_, _, rfl, HE.out, HB1.out.alloc hsz1 _⟩
  · have HF := Lib.hid (l16Fine_no x y w hf)
    have HE := Lib.hid (ownsRow_empty w 3 1)
    clear h hcp hf hl
    go_enter Tryz.func49, Tryz.ntmps49
    go_wp2_with fail
    refine HF.out.mono ?_
    rintro e w' ⟨rfl, rfl⟩
    go_wp2
    go_ret2
    exact ⟨_, _, rfl, HE.out, (Below.refl _ _).alloc (Nat.le_refl _) _⟩
/-- Both, whatever the arguments. -/
theorem specFT (x y : Int) (sa : Option Addr) (cs : Nat) (ps : List (List Cl)) (w : World) (hnp : ps.length ≤ 1048576) (hl : ∀ p ∈ ps, p.length ≤ 1048576) (hcp : ShpsAt w sa ps) :
    Calls Tryz.prog 49 #[.int .i64 x, .int .i64 y, .slice sa ps.length cs] w (FoundAt w (torF x y ps)) := by
  by_cases h : TorOk x y ps
  · obtain ⟨⟨h1, h2, h3, h4⟩, hp⟩ := h
    obtain ⟨W, rfl⟩ := Int.eq_ofNat_of_zero_le (by omega : 0 ≤ x)
    obtain ⟨H, rfl⟩ := Int.eq_ofNat_of_zero_le (by omega : 0 ≤ y)
    exact specFT_yes W H (by omega) (by omega) sa cs ps w hp hnp hl hcp
  · exact specFT_no x y sa cs ps w h hnp hl hcp
theorem implFT (x y : Int) (sa : Option Addr) (cs : Nat) (ps : List (List Cl)) (w : World) (hnp : ps.length ≤ 1048576) (hl : ∀ p ∈ ps, p.length ≤ 1048576) (hT : Tab w) (hcp : ShpsAt w sa ps) :
    Calls Tryz.prog 48 #[.int .i64 x, .int .i64 y, .slice sa ps.length cs] w (FoundAt w (torF x y ps)) := by
  by_cases h : TorOk x y ps
  · obtain ⟨⟨h1, h2, h3, h4⟩, hp⟩ := h
    obtain ⟨W, rfl⟩ := Int.eq_ofNat_of_zero_le (by omega : 0 ≤ x)
    obtain ⟨H, rfl⟩ := Int.eq_ofNat_of_zero_le (by omega : 0 ≤ y)
    exact implFT_yes W H (by omega) (by omega) sa cs ps w hp hT hcp
  · exact implFT_no x y sa cs ps w h hnp hl hcp
end Go.Proofs.YtajmdgcnnipdoaaGreatDoor
