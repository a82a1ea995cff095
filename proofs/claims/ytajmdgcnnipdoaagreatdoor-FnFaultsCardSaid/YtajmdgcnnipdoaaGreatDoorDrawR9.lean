/- DrawR9: DrawFindFaultFree, DrawIsTiling, l15Tiling, DrawIsFaultFree. -/
import Derived.Test.YtajmdgcnnipdoaaGreatDoorAllPlac
import Derived.Test.YtajmdgcnnipdoaaGreatDoorAllD5
import Derived.Test.YtajmdgcnnipdoaaGreatDoorFindR
import Derived.Test.YtajmdgcnnipdoaaGreatDoorFFS
namespace Go.Proofs.YtajmdgcnnipdoaaGreatDoor
open Go.RowKit

attribute [local go_sem ↓] Go.wp_at_zero Go.wp_at_succ

theorem someT_dec (Fs : List (List Int)) : someT Fs = decide (Fs ≠ []) := by
  cases Fs with
  | nil => rfl
  | cons f Fs => rw [decide_eq_true (by simp)]; rfl
theorem specFRd (b : Int) (ad : Option Addr) (c : Nat) (xs : List Int) (sa : Option Addr) (cs : Nat) (ps : List (List Cl)) (w : World) (hn : xs.length ≤ 1048576) (hnp : ps.length ≤ 1048576) (hl : ∀ p ∈ ps, p.length ≤ 1048576) (hc : CellsAt w ad (ints xs)) (hcp : ShpsAt w sa ps) :
    Calls Tryz.prog 103 #[.agg #[.int .i64 b, .slice ad xs.length c], .slice sa ps.length cs] w fun e w' => ∃ ad' cap', e = .returned (.tuple #[.slice ad' (firstT (regF b xs ps)).length cap', .bool (decide (regF b xs ps ≠ []))]) ∧
      w'.ownsRow w.heap.size 3 1 (.slice ad' (firstT (regF b xs ps)).length cap') (firstT (regF b xs ps)).length (ints (firstT (regF b xs ps))) ∧ Below w.heap.size w w' := by
  have h := specFR b ad c xs sa cs ps w hn hnp hl hc hcp
  unfold FoundAt at h
  rw [someT_dec] at h
  exact h
theorem regF_facts (b : Int) (xs : List Int) (ps : List (List Cl)) : (firstT (regF b xs ps)).length ≤ 1500 ∧ ∀ v ∈ firstT (regF b xs ps), (Lit.int .i64 v).wf = true := by
  refine ⟨Nat.le_trans (firstT_len (regF_len b xs ps)) (by decide), ?_⟩
  have h := regT_facts b xs ps
  generalize regF b xs ps = F at h
  cases F with
  | nil => intro v hv; exact absurd hv List.not_mem_nil
  | cons f F => exact (h f (by simp)).1

set_option maxRecDepth 100000 in
set_option maxHeartbeats 3200000 in
theorem drawFF_any (ad : Option Addr) (cap : Nat) (bs : List Nat) (w : World) (hn : bs.length ≤ 1048576) (hb : ∀ b ∈ bs, b < 256) (hc : CellsAt w ad (bts bs)) : RegPcs 15 #[.slice ad bs.length cap] w := by
  unfold RegPcs
  have hbA : Below w.heap.size w (w.alloc (.cells #[.int .i64 0, .slice none 0 0] 26)) := (Below.refl _ _).alloc (Nat.le_refl _) _
  have hzA : (w.alloc (.cells #[.int .i64 0, .slice none 0 0] 26)).heap.size = w.heap.size + 1 := by simp
  have hkA : (w.alloc (.cells #[.int .i64 0, .slice none 0 0] 26)).heap[w.heap.size]? = some (.cells #[.int .i64 0, .slice none 0 0] 26 (0, 0)) := heap_alloc_new w _
  have hN := l8Both_any ad cap bs (w.alloc (.cells #[.int .i64 0, .slice none 0 0] 26)) hn hb (hc.below hbA)
  unfold RegPcs at hN
  have HN := Lib.hid hN
  have HBA := Lib.hid hbA
  clear hn hb hc hbA hN
  go_enter Tryz.func15, Tryz.ntmps15
  go_upto_region 1 with (fail)
  generalize w.alloc (.cells #[.int .i64 0, .slice none 0 0] 26) = wA at hzA hkA HN HBA ⊢
  go_wp2_with fail
  refine HN.out.mono ?_
  rintro e w1 ⟨b, a, c, xs, va, cv, ps, rfl, hb7, hl9, hp1, hp3, hp80, ho1, hf1, hb1⟩
  have hk1 := (hb1.block w.heap.size (by omega)).trans hkA
  have hs1 := hb1.size
  have hb3 : Below w1.heap.size w1 (w1.alloc (.cells #[.int .i64 b, .slice a xs.length c] 26)) := (Below.refl _ _).alloc (Nat.le_refl _) _
  have hk3 : (w1.alloc (.cells #[.int .i64 b, .slice a xs.length c] 26)).heap[w1.heap.size]? = some (.cells #[.int .i64 b, .slice a xs.length c] 26 (0, 0)) := heap_alloc_new w1 _
  have hk3b := (hb3.block w.heap.size (by omega)).trans hk1
  have hz3 : (w1.alloc (.cells #[.int .i64 b, .slice a xs.length c] 26)).heap.size = w1.heap.size + 1 := by simp
  have HO3 := Lib.hid (ownsRow_far_below ho1 hb3 (Nat.le_refl _))
  have HF3 := Lib.hid (hf1.below hb3)
  have HB3 := Lib.hid (HBA.out.trans ((hb1.trans (hb3.mono hb1.size)).mono (by omega)))
  have HB7 := Lib.hid hb7
  have HP80 := Lib.hid hp80
  clear ho1 hf1 hb1 hb3 hk1 hkA hb7 hp80
  go_upto_region 2 with (fail)
  generalize w1.alloc (.cells #[.int .i64 b, .slice a xs.length c] 26) = w3 at hk3 hk3b hz3 HO3 HF3 HB3 ⊢
  obtain ⟨y0, y1, y2, y3⟩ := boxAt hk3
  obtain ⟨u0, u1, f0, f1⟩ := boxAt hk3b
  have hbx : Below w.heap.size w3 ((w3.setCell ⟨w.heap.size, 0, none⟩ (.int .i64 b)).setCell ⟨w.heap.size, 1, none⟩ (.slice a xs.length c)) := box_below (Nat.le_refl _) _ _
  have ho5 := Lib.hid (row_box HO3.out (b := w.heap.size) (by omega) (.int .i64 b) (.slice a xs.length c))
  have hs5 := Lib.hid (far_box (b := w.heap.size) HF3.out (by omega) (.int .i64 b) (.slice a xs.length c))
  have HBX := Lib.hid hbx
  clear hbx
  go_wp2
  have e0 : ((w3.setCell ⟨w.heap.size, 0, none⟩ (.int .i64 b)).setCell ⟨w.heap.size, 1, none⟩ (.slice a xs.length c)).cell? ⟨w.heap.size, 0, none⟩ = some (.int .i64 b) := (by rw [World.cell?_setCell_other _ _ _ _ (by simp)]; exact World.cell?_setCell_same _ _ _ u0)
  have e1 : ((w3.setCell ⟨w.heap.size, 0, none⟩ (.int .i64 b)).setCell ⟨w.heap.size, 1, none⟩ (.slice a xs.length c)).cell? ⟨w.heap.size, 1, none⟩ = some (.slice a xs.length c) := World.cell?_setCell_same _ _ _ ((World.cell?_setCell_other _ _ _ _ (by simp)).trans u1)
  refine bodyPost_ret (v := .tuple #[.agg #[.int .i64 b, .slice a xs.length c], .slice va ps.length cv]) (by simp [results, Tryz.results15, go_sem, e0, e1]) rfl ⟨b, a, c, xs, va, cv, ps, rfl, HB7.out, hl9, hp1, hp3, HP80.out, ownsRow_rebase ho5.out (by omega), hs5.out.rebase (by omega), HB3.out.trans HBX.out⟩

set_option maxRecDepth 100000 in
set_option maxHeartbeats 3200000 in
theorem drawTil_any (ad : Option Addr) (cap : Nat) (bs : List Nat) (w : World) (hn : bs.length ≤ 1048576) (hb : ∀ b ∈ bs, b < 256) (hc : CellsAt w ad (bts bs)) : RegPcsL 109 #[.slice ad bs.length cap] w := by
  unfold RegPcsL
  have hbA : Below w.heap.size w (w.alloc (.cells #[.int .i64 0, .slice none 0 0] 26)) := (Below.refl _ _).alloc (Nat.le_refl _) _
  have hzA : (w.alloc (.cells #[.int .i64 0, .slice none 0 0] 26)).heap.size = w.heap.size + 1 := by simp
  have hkA : (w.alloc (.cells #[.int .i64 0, .slice none 0 0] 26)).heap[w.heap.size]? = some (.cells #[.int .i64 0, .slice none 0 0] 26 (0, 0)) := heap_alloc_new w _
  have hN := l8Both_any ad cap bs (w.alloc (.cells #[.int .i64 0, .slice none 0 0] 26)) hn hb (hc.below hbA)
  unfold RegPcs at hN
  have HN := Lib.hid hN
  have HBA := Lib.hid hbA
  clear hn hb hc hbA hN
  go_enter Tryz.func109, Tryz.ntmps109
  go_upto_region 1 with (fail)
  generalize w.alloc (.cells #[.int .i64 0, .slice none 0 0] 26) = wA at hzA hkA HN HBA ⊢
  go_wp2_with fail
  refine HN.out.mono ?_
  rintro e w1 ⟨b, a, c, xs, va, cv, ps, rfl, hb7, hl9, hp1, hp3, hp80, ho1, hf1, hb1⟩
  have hk1 := (hb1.block w.heap.size (by omega)).trans hkA
  have hs1 := hb1.size
  have hb3 : Below w1.heap.size w1 (w1.alloc (.cells #[.int .i64 b, .slice a xs.length c] 26)) := (Below.refl _ _).alloc (Nat.le_refl _) _
  have hk3 : (w1.alloc (.cells #[.int .i64 b, .slice a xs.length c] 26)).heap[w1.heap.size]? = some (.cells #[.int .i64 b, .slice a xs.length c] 26 (0, 0)) := heap_alloc_new w1 _
  have hk3b := (hb3.block w.heap.size (by omega)).trans hk1
  have hz3 : (w1.alloc (.cells #[.int .i64 b, .slice a xs.length c] 26)).heap.size = w1.heap.size + 1 := by simp
  have HO3 := Lib.hid (ownsRow_far_below ho1 hb3 (Nat.le_refl _))
  have HF3 := Lib.hid (hf1.below hb3)
  have HB3 := Lib.hid (HBA.out.trans ((hb1.trans (hb3.mono hb1.size)).mono (by omega)))
  have HB7 := Lib.hid hb7
  have HP80 := Lib.hid hp80
  clear ho1 hf1 hb1 hb3 hk1 hkA hb7 hp80
  go_upto_region 2 with (fail)
  generalize w1.alloc (.cells #[.int .i64 b, .slice a xs.length c] 26) = w3 at hk3 hk3b hz3 HO3 HF3 HB3 ⊢
  obtain ⟨y0, y1, y2, y3⟩ := boxAt hk3
  obtain ⟨va', cv', hv, hsa⟩ := HF3.out.form
  injection hv with hv1 _ hv2
  subst hv1 hv2
  have hn9 : xs.length ≤ 1048576 := by omega
  have hp9 : ps.length ≤ 1048576 := by omega
  have hl9b : ∀ p ∈ ps, p.length ≤ 1048576 := fun p h => by have := HP80.out p h; omega
  have HFI := Lib.hid (specFRd b a c xs va cv ps w3 hn9 hp9 hl9b (ownsRow_cellsAt HO3.out) hsa)
  have HALL := Lib.hid (fun w' h1 h2 => specAllR b a c xs va cv ps w' hn9 hp9 hl9b h1 h2)
  have HFA := Lib.hid (regF_facts b xs ps)
  clear hsa hn9 hp9 hl9b
  go_wp2_with fail
  refine HFI.out.mono ?_
  rintro e w4 ⟨la, cl, rfl, hol, hb4⟩
  have hs4 := hb4.size
  have hk4 := (hb4.block w1.heap.size (by omega)).trans hk3
  have hk4b := (hb4.block w.heap.size (by omega)).trans hk3b
  have HO4 := Lib.hid (ownsRow_far_below HO3.out hb4 (Nat.le_refl _))
  have HF4 := Lib.hid (HF3.out.below hb4)
  have HL4 := Lib.hid hol
  have HB4 := Lib.hid (HB3.out.trans (hb4.mono (by omega)))
  have hmod := Nat.mod_lt bs.length (show 0 < 5 by decide)
  obtain ⟨q, hq⟩ : ∃ q, q = bs.length % 5 := ⟨_, rfl⟩
  have hm : (bs.length : Int).tmod 5 = (q : Int) := by rw [hq]; norm_cast
  clear hol hb4 y0 y1 y2 y3 hk3 hk3b hq hmod
  obtain ⟨y0, y1, y2, y3⟩ := boxAt hk4
  obtain ⟨u0, u1, f0, f1⟩ := boxAt hk4b
  generalize hLL : firstT (regF b xs ps) = L at HL4 HFA ⊢
  clear hLL
  by_cases hs : regF b xs ps ≠ [] ∧ 0 < q
  · have hq0 : (0 : Int) < (q : Int) := by omega
    rw [decide_eq_true hs.1]
    clear hs
    have hbx : Below w.heap.size w4 ((w4.setCell ⟨w.heap.size, 0, none⟩ (.int .i64 b)).setCell ⟨w.heap.size, 1, none⟩ (.slice a xs.length c)) := box_below (Nat.le_refl _) _ _
    have ho5 := Lib.hid (row_box HO4.out (b := w.heap.size) (by omega) (.int .i64 b) (.slice a xs.length c))
    have hs5 := Lib.hid (far_box (b := w.heap.size) HF4.out (by omega) (.int .i64 b) (.slice a xs.length c))
    have hl5 := Lib.hid (row_box HL4.out (b := w.heap.size) (by omega) (.int .i64 b) (.slice a xs.length c))
    have HBX := Lib.hid hbx
    clear hbx
    go_wp2
    have e0 : ((w4.setCell ⟨w.heap.size, 0, none⟩ (.int .i64 b)).setCell ⟨w.heap.size, 1, none⟩ (.slice a xs.length c)).cell? ⟨w.heap.size, 0, none⟩ = some (.int .i64 b) := (by rw [World.cell?_setCell_other _ _ _ _ (by simp)]; exact World.cell?_setCell_same _ _ _ u0)
    have e1 : ((w4.setCell ⟨w.heap.size, 0, none⟩ (.int .i64 b)).setCell ⟨w.heap.size, 1, none⟩ (.slice a xs.length c)).cell? ⟨w.heap.size, 1, none⟩ = some (.slice a xs.length c) := World.cell?_setCell_same _ _ _ ((World.cell?_setCell_other _ _ _ _ (by simp)).trans u1)
    refine bodyPost_ret (v := .tuple #[.agg #[.int .i64 b, .slice a xs.length c], .slice va ps.length cv, .slice la L.length cl]) (by simp [results, Tryz.results109, go_sem, e0, e1]) rfl ⟨b, a, c, xs, va, cv, ps, la, cl, L, rfl, HB7.out, hl9, hp1, hp3, HP80.out, by have := HFA.out.1; omega, HFA.out.2, ownsRow_rebase ho5.out (by omega), hs5.out.rebase (by omega), ownsRow_rebase hl5.out (by omega), HB4.out.trans HBX.out⟩
  · have hrs : (decide (regF b xs ps ≠ []) = false) ∨ (decide (regF b xs ps ≠ []) = true ∧ ¬(0 : Int) < (q : Int)) := by
      by_cases h2 : regF b xs ps ≠ []
      · exact Or.inr ⟨decide_eq_true h2, fun h3 => hs ⟨h2, by omega⟩⟩
      · exact Or.inl (decide_eq_false h2)
    clear hs
    have hRf := allR_facts b xs ps
    have hHA := HALL.out w4.drew (ownsRow_cellsAt (show w4.drew.ownsRow wA.heap.size 3 1 (.slice a xs.length c) xs.length (ints xs) from HO4.out)) (by obtain ⟨va', cv', hv, hsa⟩ := (HF4.out.below (Below.refl _ _).drew).form; injection hv with hv1 _ hv2; subst hv1 hv2; exact hsa)
    generalize allR b xs ps = R at hRf hHA
    have HA := Lib.hid hHA
    have HRF := Lib.hid hRf
    have d0 : w4.drew.cell? ⟨w1.heap.size, 0, none⟩ = some (.int .i64 b) := y0
    have d1 : w4.drew.cell? ⟨w1.heap.size, 1, none⟩ = some (.slice a xs.length c) := y1
    clear hRf hHA
    rcases hrs with hd | ⟨hd, hq0⟩
    · rw [hd]
      go_wp2
      go_region_with (first
        | (go_at_call 67; refine HA.out.mono ?_; rintro e w5 ⟨ra, rc, rfl, hor, hb5⟩; have hk5 := (hb5.block w1.heap.size (lt_of_block hk4)).trans hk4; have hk5b := (hb5.block w.heap.size (lt_of_block hk4b)).trans hk4b; obtain ⟨k0, k1, k2, k3⟩ := boxAt hk5; clear u0 u1 f0 f1; obtain ⟨u0, u1, f0, f1⟩ := boxAt hk5b))
      all_goals have hb5w : Below w4.heap.size w4 w5 := (Below.refl _ _).drew.trans (hb5.mono (Nat.le_refl _))
      all_goals have HL5 := Lib.hid (show w5.ownsRow w4.heap.size 3 1 (.slice ra R.length rc) R.length (ints R) from hor)
      all_goals have HO5 := Lib.hid (ownsRow_far_below HO4.out hb5w (Nat.le_refl _))
      all_goals have HF5 := Lib.hid (HF4.out.below hb5w)
      all_goals have HB5 := Lib.hid (HB4.out.trans (hb5w.mono (by omega)))
      all_goals clear hb5w hor hb5 k0 k1 k2 k3 hk5 hk5b
      all_goals have hbx : Below w.heap.size w5 ((w5.setCell ⟨w.heap.size, 0, none⟩ (.int .i64 b)).setCell ⟨w.heap.size, 1, none⟩ (.slice a xs.length c)) := box_below (Nat.le_refl _) _ _
      all_goals have ho5 := Lib.hid (row_box HO5.out (b := w.heap.size) (by omega) (.int .i64 b) (.slice a xs.length c))
      all_goals have hs5 := Lib.hid (far_box (b := w.heap.size) HF5.out (by omega) (.int .i64 b) (.slice a xs.length c))
      all_goals have hl5 := Lib.hid (row_box HL5.out (b := w.heap.size) (by omega) (.int .i64 b) (.slice a xs.length c))
      all_goals have HBX := Lib.hid hbx
      all_goals clear hbx
      all_goals go_wp2
      all_goals have e0 : ((w5.setCell ⟨w.heap.size, 0, none⟩ (.int .i64 b)).setCell ⟨w.heap.size, 1, none⟩ (.slice a xs.length c)).cell? ⟨w.heap.size, 0, none⟩ = some (.int .i64 b) := (by rw [World.cell?_setCell_other _ _ _ _ (by simp)]; exact World.cell?_setCell_same _ _ _ u0)
      all_goals have e1 : ((w5.setCell ⟨w.heap.size, 0, none⟩ (.int .i64 b)).setCell ⟨w.heap.size, 1, none⟩ (.slice a xs.length c)).cell? ⟨w.heap.size, 1, none⟩ = some (.slice a xs.length c) := World.cell?_setCell_same _ _ _ ((World.cell?_setCell_other _ _ _ _ (by simp)).trans u1)
      all_goals refine bodyPost_ret (v := .tuple #[.agg #[.int .i64 b, .slice a xs.length c], .slice va ps.length cv, .slice ra R.length rc]) (by simp [results, Tryz.results109, go_sem, e0, e1]) rfl ⟨b, a, c, xs, va, cv, ps, ra, rc, R, rfl, HB7.out, hl9, hp1, hp3, HP80.out, HRF.out.1, HRF.out.2, ownsRow_rebase ho5.out (by omega), hs5.out.rebase (by omega), ownsRow_rebase hl5.out (by omega), HB5.out.trans HBX.out⟩
    · rw [hd]
      go_wp2
      go_region_with (first
        | (go_at_call 67; refine HA.out.mono ?_; rintro e w5 ⟨ra, rc, rfl, hor, hb5⟩; have hk5 := (hb5.block w1.heap.size (lt_of_block hk4)).trans hk4; have hk5b := (hb5.block w.heap.size (lt_of_block hk4b)).trans hk4b; obtain ⟨k0, k1, k2, k3⟩ := boxAt hk5; clear u0 u1 f0 f1; obtain ⟨u0, u1, f0, f1⟩ := boxAt hk5b))
      all_goals have hb5w : Below w4.heap.size w4 w5 := (Below.refl _ _).drew.trans (hb5.mono (Nat.le_refl _))
      all_goals have HL5 := Lib.hid (show w5.ownsRow w4.heap.size 3 1 (.slice ra R.length rc) R.length (ints R) from hor)
      all_goals have HO5 := Lib.hid (ownsRow_far_below HO4.out hb5w (Nat.le_refl _))
      all_goals have HF5 := Lib.hid (HF4.out.below hb5w)
      all_goals have HB5 := Lib.hid (HB4.out.trans (hb5w.mono (by omega)))
      all_goals clear hb5w hor hb5 k0 k1 k2 k3 hk5 hk5b
      all_goals have hbx : Below w.heap.size w5 ((w5.setCell ⟨w.heap.size, 0, none⟩ (.int .i64 b)).setCell ⟨w.heap.size, 1, none⟩ (.slice a xs.length c)) := box_below (Nat.le_refl _) _ _
      all_goals have ho5 := Lib.hid (row_box HO5.out (b := w.heap.size) (by omega) (.int .i64 b) (.slice a xs.length c))
      all_goals have hs5 := Lib.hid (far_box (b := w.heap.size) HF5.out (by omega) (.int .i64 b) (.slice a xs.length c))
      all_goals have hl5 := Lib.hid (row_box HL5.out (b := w.heap.size) (by omega) (.int .i64 b) (.slice a xs.length c))
      all_goals have HBX := Lib.hid hbx
      all_goals clear hbx
      all_goals go_wp2
      all_goals have e0 : ((w5.setCell ⟨w.heap.size, 0, none⟩ (.int .i64 b)).setCell ⟨w.heap.size, 1, none⟩ (.slice a xs.length c)).cell? ⟨w.heap.size, 0, none⟩ = some (.int .i64 b) := (by rw [World.cell?_setCell_other _ _ _ _ (by simp)]; exact World.cell?_setCell_same _ _ _ u0)
      all_goals have e1 : ((w5.setCell ⟨w.heap.size, 0, none⟩ (.int .i64 b)).setCell ⟨w.heap.size, 1, none⟩ (.slice a xs.length c)).cell? ⟨w.heap.size, 1, none⟩ = some (.slice a xs.length c) := World.cell?_setCell_same _ _ _ ((World.cell?_setCell_other _ _ _ _ (by simp)).trans u1)
      all_goals refine bodyPost_ret (v := .tuple #[.agg #[.int .i64 b, .slice a xs.length c], .slice va ps.length cv, .slice ra R.length rc]) (by simp [results, Tryz.results109, go_sem, e0, e1]) rfl ⟨b, a, c, xs, va, cv, ps, ra, rc, R, rfl, HB7.out, hl9, hp1, hp3, HP80.out, HRF.out.1, HRF.out.2, ownsRow_rebase ho5.out (by omega), hs5.out.rebase (by omega), ownsRow_rebase hl5.out (by omega), HB5.out.trans HBX.out⟩

set_option maxRecDepth 100000 in
set_option maxHeartbeats 3200000 in
theorem drawL15_any (ad : Option Addr) (cap : Nat) (bs : List Nat) (w : World) (hn : bs.length ≤ 1048576) (hb : ∀ b ∈ bs, b < 256) (hc : CellsAt w ad (bts bs)) : RegPcsL 60 #[.slice ad bs.length cap] w := by
  unfold RegPcsL
  have hbA : Below w.heap.size w (w.alloc (.cells #[.int .i64 0, .slice none 0 0] 26)) := (Below.refl _ _).alloc (Nat.le_refl _) _
  have hzA : (w.alloc (.cells #[.int .i64 0, .slice none 0 0] 26)).heap.size = w.heap.size + 1 := by simp
  have hkA : (w.alloc (.cells #[.int .i64 0, .slice none 0 0] 26)).heap[w.heap.size]? = some (.cells #[.int .i64 0, .slice none 0 0] 26 (0, 0)) := heap_alloc_new w _
  have hN := drawTil_any ad cap bs (w.alloc (.cells #[.int .i64 0, .slice none 0 0] 26)) hn hb (hc.below hbA)
  unfold RegPcsL at hN
  have HN := Lib.hid hN
  have HBA := Lib.hid hbA
  clear hn hb hc hbA hN
  go_enter Tryz.func60, Tryz.ntmps60
  go_upto_region 1 with (fail)
  generalize w.alloc (.cells #[.int .i64 0, .slice none 0 0] 26) = wA at hzA hkA HN HBA ⊢
  go_wp2_with fail
  refine HN.out.mono ?_
  rintro e w1 ⟨b, a, c, xs, va, cv, ps, la, cl, ls, rfl, hb7, hl9, hp1, hp3, hp80, hll, hlw, ho1, hf1, hol, hb1⟩
  have hk1 := (hb1.block w.heap.size (by omega)).trans hkA
  have hs1 := hb1.size
  have hb3 : Below w1.heap.size w1 (w1.alloc (.cells #[.int .i64 b, .slice a xs.length c] 26)) := (Below.refl _ _).alloc (Nat.le_refl _) _
  have hk3 : (w1.alloc (.cells #[.int .i64 b, .slice a xs.length c] 26)).heap[w1.heap.size]? = some (.cells #[.int .i64 b, .slice a xs.length c] 26 (0, 0)) := heap_alloc_new w1 _
  have hk3b := (hb3.block w.heap.size (by omega)).trans hk1
  have hz3 : (w1.alloc (.cells #[.int .i64 b, .slice a xs.length c] 26)).heap.size = w1.heap.size + 1 := by simp
  have HO3 := Lib.hid (ownsRow_far_below ho1 hb3 (Nat.le_refl _))
  have HF3 := Lib.hid (hf1.below hb3)
  have HB3 := Lib.hid (HBA.out.trans ((hb1.trans (hb3.mono hb1.size)).mono (by omega)))
  have HB7 := Lib.hid hb7
  have HP80 := Lib.hid hp80
  have HL3 := Lib.hid (ownsRow_far_below hol hb3 (Nat.le_refl _))
  have HLW := Lib.hid hlw
  clear ho1 hf1 hb1 hb3 hk1 hkA hb7 hp80 hol hlw
  go_upto_region 2 with (fail)
  generalize w1.alloc (.cells #[.int .i64 b, .slice a xs.length c] 26) = w3 at hk3 hk3b hz3 HO3 HF3 HB3 HL3 ⊢
  obtain ⟨y0, y1, y2, y3⟩ := boxAt hk3
  obtain ⟨u0, u1, f0, f1⟩ := boxAt hk3b
  have hbx : Below w.heap.size w3 ((w3.setCell ⟨w.heap.size, 0, none⟩ (.int .i64 b)).setCell ⟨w.heap.size, 1, none⟩ (.slice a xs.length c)) := box_below (Nat.le_refl _) _ _
  have ho5 := Lib.hid (row_box HO3.out (b := w.heap.size) (by omega) (.int .i64 b) (.slice a xs.length c))
  have hs5 := Lib.hid (far_box (b := w.heap.size) HF3.out (by omega) (.int .i64 b) (.slice a xs.length c))
  have hl5 := Lib.hid (row_box HL3.out (b := w.heap.size) (by omega) (.int .i64 b) (.slice a xs.length c))
  have HBX := Lib.hid hbx
  clear hbx
  go_wp2
  have e0 : ((w3.setCell ⟨w.heap.size, 0, none⟩ (.int .i64 b)).setCell ⟨w.heap.size, 1, none⟩ (.slice a xs.length c)).cell? ⟨w.heap.size, 0, none⟩ = some (.int .i64 b) := (by rw [World.cell?_setCell_other _ _ _ _ (by simp)]; exact World.cell?_setCell_same _ _ _ u0)
  have e1 : ((w3.setCell ⟨w.heap.size, 0, none⟩ (.int .i64 b)).setCell ⟨w.heap.size, 1, none⟩ (.slice a xs.length c)).cell? ⟨w.heap.size, 1, none⟩ = some (.slice a xs.length c) := World.cell?_setCell_same _ _ _ ((World.cell?_setCell_other _ _ _ _ (by simp)).trans u1)
  refine bodyPost_ret (v := .tuple #[.agg #[.int .i64 b, .slice a xs.length c], .slice va ps.length cv, .slice la ls.length cl]) (by simp [results, Tryz.results60, go_sem, e0, e1]) rfl ⟨b, a, c, xs, va, cv, ps, la, cl, ls, rfl, HB7.out, hl9, hp1, hp3, HP80.out, hll, HLW.out, ownsRow_rebase ho5.out (by omega), hs5.out.rebase (by omega), ownsRow_rebase hl5.out (by omega), HB3.out.trans HBX.out⟩

set_option maxRecDepth 100000 in
set_option maxHeartbeats 3200000 in
theorem drawIFF_any (ad : Option Addr) (cap : Nat) (bs : List Nat) (w : World) (hn : bs.length ≤ 1048576) (hb : ∀ b ∈ bs, b < 256) (hc : CellsAt w ad (bts bs)) : RegPcsL 7 #[.slice ad bs.length cap] w := by
  unfold RegPcsL
  have hbA : Below w.heap.size w (w.alloc (.cells #[.int .i64 0, .slice none 0 0] 26)) := (Below.refl _ _).alloc (Nat.le_refl _) _
  have hzA : (w.alloc (.cells #[.int .i64 0, .slice none 0 0] 26)).heap.size = w.heap.size + 1 := by simp
  have hkA : (w.alloc (.cells #[.int .i64 0, .slice none 0 0] 26)).heap[w.heap.size]? = some (.cells #[.int .i64 0, .slice none 0 0] 26 (0, 0)) := heap_alloc_new w _
  have hN := drawL15_any ad cap bs (w.alloc (.cells #[.int .i64 0, .slice none 0 0] 26)) hn hb (hc.below hbA)
  unfold RegPcsL at hN
  have HN := Lib.hid hN
  have HBA := Lib.hid hbA
  clear hn hb hc hbA hN
  go_enter Tryz.func7, Tryz.ntmps7
  go_upto_region 1 with (fail)
  generalize w.alloc (.cells #[.int .i64 0, .slice none 0 0] 26) = wA at hzA hkA HN HBA ⊢
  go_wp2_with fail
  refine HN.out.mono ?_
  rintro e w1 ⟨b, a, c, xs, va, cv, ps, la, cl, ls, rfl, hb7, hl9, hp1, hp3, hp80, hll, hlw, ho1, hf1, hol, hb1⟩
  have hk1 := (hb1.block w.heap.size (by omega)).trans hkA
  have hs1 := hb1.size
  have hb3 : Below w1.heap.size w1 (w1.alloc (.cells #[.int .i64 b, .slice a xs.length c] 26)) := (Below.refl _ _).alloc (Nat.le_refl _) _
  have hk3 : (w1.alloc (.cells #[.int .i64 b, .slice a xs.length c] 26)).heap[w1.heap.size]? = some (.cells #[.int .i64 b, .slice a xs.length c] 26 (0, 0)) := heap_alloc_new w1 _
  have hk3b := (hb3.block w.heap.size (by omega)).trans hk1
  have hz3 : (w1.alloc (.cells #[.int .i64 b, .slice a xs.length c] 26)).heap.size = w1.heap.size + 1 := by simp
  have HO3 := Lib.hid (ownsRow_far_below ho1 hb3 (Nat.le_refl _))
  have HF3 := Lib.hid (hf1.below hb3)
  have HB3 := Lib.hid (HBA.out.trans ((hb1.trans (hb3.mono hb1.size)).mono (by omega)))
  have HB7 := Lib.hid hb7
  have HP80 := Lib.hid hp80
  have HL3 := Lib.hid (ownsRow_far_below hol hb3 (Nat.le_refl _))
  have HLW := Lib.hid hlw
  clear ho1 hf1 hb1 hb3 hk1 hkA hb7 hp80 hol hlw
  go_upto_region 2 with (fail)
  generalize w1.alloc (.cells #[.int .i64 b, .slice a xs.length c] 26) = w3 at hk3 hk3b hz3 HO3 HF3 HB3 HL3 ⊢
  obtain ⟨y0, y1, y2, y3⟩ := boxAt hk3
  obtain ⟨u0, u1, f0, f1⟩ := boxAt hk3b
  have hbx : Below w.heap.size w3 ((w3.setCell ⟨w.heap.size, 0, none⟩ (.int .i64 b)).setCell ⟨w.heap.size, 1, none⟩ (.slice a xs.length c)) := box_below (Nat.le_refl _) _ _
  have ho5 := Lib.hid (row_box HO3.out (b := w.heap.size) (by omega) (.int .i64 b) (.slice a xs.length c))
  have hs5 := Lib.hid (far_box (b := w.heap.size) HF3.out (by omega) (.int .i64 b) (.slice a xs.length c))
  have hl5 := Lib.hid (row_box HL3.out (b := w.heap.size) (by omega) (.int .i64 b) (.slice a xs.length c))
  have HBX := Lib.hid hbx
  clear hbx
  go_wp2
  have e0 : ((w3.setCell ⟨w.heap.size, 0, none⟩ (.int .i64 b)).setCell ⟨w.heap.size, 1, none⟩ (.slice a xs.length c)).cell? ⟨w.heap.size, 0, none⟩ = some (.int .i64 b) := (by rw [World.cell?_setCell_other _ _ _ _ (by simp)]; exact World.cell?_setCell_same _ _ _ u0)
  have e1 : ((w3.setCell ⟨w.heap.size, 0, none⟩ (.int .i64 b)).setCell ⟨w.heap.size, 1, none⟩ (.slice a xs.length c)).cell? ⟨w.heap.size, 1, none⟩ = some (.slice a xs.length c) := World.cell?_setCell_same _ _ _ ((World.cell?_setCell_other _ _ _ _ (by simp)).trans u1)
  refine bodyPost_ret (v := .tuple #[.agg #[.int .i64 b, .slice a xs.length c], .slice va ps.length cv, .slice la ls.length cl]) (by simp [results, Tryz.results7, go_sem, e0, e1]) rfl ⟨b, a, c, xs, va, cv, ps, la, cl, ls, rfl, HB7.out, hl9, hp1, hp3, HP80.out, hll, HLW.out, ownsRow_rebase ho5.out (by omega), hs5.out.rebase (by omega), ownsRow_rebase hl5.out (by omega), HB3.out.trans HBX.out⟩
end Go.Proofs.YtajmdgcnnipdoaaGreatDoor
