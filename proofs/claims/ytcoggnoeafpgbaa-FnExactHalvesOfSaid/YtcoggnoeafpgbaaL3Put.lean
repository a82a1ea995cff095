/- L3Put: the walk of the reference's l3Put: a shape put into an ascending list of shapes, once. -/
import Derived.Test.YtcoggnoeafpgbaaShapeCmp
import Derived.Test.YtcoggnoeafpgbaaShapes
import Derived.Deep.DrawnRows
namespace Go.Proofs.Ytcoggnoeafpgbaa
open Go.RowKit

attribute [local go_sem ↓] Go.wp_at_zero Go.wp_at_succ

theorem putKS_succ (l : List (List Cl)) (n : List Cl) (k : Nat) : putKG ltS l n (k + 1) = if ltS n (l.getD k default) = true then putKG ltS l n k else k + 1 := rfl

set_option maxRecDepth 100000 in
set_option maxHeartbeats 6400000 in
theorem l3Put_any (base gp c : Nat) (rows : List (List Cl)) (vals : List Value) (sa : Option Addr) (cs : Nat) (s : List Cl) (w : World) (hl : rows.length ≤ 1000) (hrl : ∀ r ∈ rows, r.length ≤ 1000) (hs1 : s.length ≤ 1000) (hbase : base ≤ w.heap.size)
    (hown : w.ownsRow base 36 1 (.slice (some ⟨gp, 0, none⟩) rows.length c) rows.length vals) (hin : ShapesIn w base vals rows) (hso : w.ownsRow base 39 2 (.slice sa s.length cs) s.length (cls s)) :
    Calls Try.prog 51 #[.slice (some ⟨gp, 0, none⟩) rows.length c, .slice sa s.length cs] w fun e w' => ∃ g' c', e = .returned (.slice (some ⟨g', 0, none⟩) (putG ltS rows s).length c') ∧ ∃ vals', w'.ownsRow base 36 1 (.slice (some ⟨g', 0, none⟩) (putG ltS rows s).length c') (putG ltS rows s).length vals' ∧ ShapesIn w' base vals' (putG ltS rows s) ∧ Below w.heap.size w w' := by
  obtain ⟨hcap, _⟩ := ownsRow_le_cap hown
  have hgp := (hown.lt gp rfl).2
  have hvl := All2.length hin
  obtain ⟨n, hn⟩ : ∃ n, n = rows.length := ⟨_, rfl⟩
  rw [← hn] at hl hown hcap hvl ⊢
  have HPL := Lib.hid hn.symm
  have HVL := Lib.hid hvl
  have HRL := Lib.hid hrl
  have HOW := Lib.hid hown
  have HPC := Lib.hid (ownsRow_cellsAt hown)
  have HIN := Lib.hid hin
  have HONE := Lib.hid (shps_one hin)
  have HSO := Lib.hid hso
  have HSC := Lib.hid (ownsRow_cellsAt hso)
  have hstart : putKG ltS rows s rows.length = putKG ltS rows s n := by rw [hn]
  have HSTA := Lib.hid hstart
  clear hown hn hstart hvl hin hso hrl
  go_enter Try.func51, Try.ntmps51
  go_wp2
  go_loopw [5] (fun i wr => ∃ j : Nat, j ≤ n ∧ i = .int .i64 j ∧ putKG ltS rows s rows.length = putKG ltS rows s j ∧ Below w.heap.size w wr) (fun i _ => (intOf i).toNat)
  case atStart => exact ⟨n, Nat.le_refl _, rfl, HSTA.out, Below.refl _ _⟩
  case round =>
    obtain ⟨j, hj, rfl, hput, hbx⟩ := hrel
    have hszx := hbx.size
    have HPUT := Lib.hid hput
    have HBR := Lib.hid hbx
    clear hput hbx
    by_cases hj0 : 1 ≤ j
    · obtain ⟨m, hm⟩ : ∃ m, m = j - 1 := ⟨_, rfl⟩
      have hmP : m < rows.length := by rw [HPL.out]; omega
      have hs := putKS_succ rows s m
      rw [show m + 1 = j by omega, getDG hmP] at hs
      obtain ⟨v, hv1, ai, ci, rfl, hv2⟩ := All2.at HIN.out hmP
      have hx1 := HRL.out _ (List.getElem_mem hmP)
      have hcell := HOW.out.cellAt m (by omega)
      rw [hv1] at hcell
      have x0 := (HBR.out.cell (p := ⟨gp, m, none⟩) (by simp; omega)).trans hcell
      obtain ⟨x, hx⟩ : ∃ x, x = rows[m] := ⟨_, rfl⟩
      rw [← hx] at x0 hs hv2 hx1
      have HQ := Lib.hid hx
      have HXC := Lib.hid (ownsRow_cellsAt hv2)
      have d1 : decide ((0 : Int) < (j : Int)) = true := by simp; omega
      have d2 : decide (0 < j) = true := by simp; omega
      have i2 : (j : Int) - 1 = (m : Int) := by omega
      have i3 : IntKind.i64.wrap (m : Int) = (m : Int) := IntWalk.i64_in _ (by omega)
      have i4 : (m : Int) < (n : Int) := by omega
      have hjm : j = m + 1 := by omega
      have HJM := Lib.hid hjm
      have hmj : m < j := by omega
      have HS := Lib.hid hs
      have hcmp := specCmp sa ai cs ci s x wr hs1 (HSC.out.below HBR.out) (HXC.out.below HBR.out)
      have hneg := cmpS_neg (a := s) (b := x)
      generalize cmpS s x = cv at hcmp hneg
      have HCMP := Lib.hid hcmp
      clear hm hjm hs hx hv1 hv2 hcell hcmp
      cases hlt2 : ltS s x with
      | true =>
        have hc0 := hneg.2 hlt2
        have dc : decide (cv < 0) = true := decide_eq_true hc0
        clear hneg
        go_wp2_with fail
        refine HCMP.out.mono ?_
        rintro e wx ⟨rfl, hbx⟩
        have HBX := Lib.hid (HBR.out.trans (hbx.mono hszx))
        clear hbx
        go_wp2
        go_roundw
        case rel => exact ⟨m, by omega, by go_num, by rw [HPUT.out, HS.out, if_pos hlt2], HBX.out⟩
        case measure => simp [intOf]; omega
      | false =>
        have hc0 : ¬ cv < 0 := fun h => by rw [hneg.1 h] at hlt2; cases hlt2
        have dc : decide (cv < 0) = false := decide_eq_false hc0
        clear hneg
        go_wp2_with fail
        refine HCMP.out.mono ?_
        rintro e wx ⟨rfl, hbx⟩
        have HBX := Lib.hid (HBR.out.trans (hbx.mono hszx))
        have x0 := (hbx.cell (p := ⟨gp, m, none⟩) (by simp; omega)).trans x0
        clear hbx
        by_cases heq : x = s
        · have hv : putG ltS rows s = rows := by
            unfold putG
            rw [if_pos]
            rw [HPUT.out, HS.out, if_neg (by rw [hlt2]; simp)]
            exact ⟨by omega, by rw [show j - 1 = m by have := HJM.out; omega, getDG (by rw [HPL.out]; omega), ← HQ.out]; exact heq⟩
          have heqs := fun w' h1 h2 => specEqS ai sa ci cs x s w' hx1 h1 h2
          rw [decide_eq_true heq] at heqs
          have HEQ := Lib.hid heqs
          have HV := Lib.hid hv
          clear hv heq heqs
          go_wp2_with fail
          refine (HEQ.out wx (HXC.out.below HBX.out) (HSC.out.below HBX.out)).mono ?_
          rintro e w6 ⟨rfl, hb6⟩
          have hb7 := HBX.out.trans (hb6.mono HBX.out.size)
          go_wp2
          go_ret
          refine ⟨gp, c, by rw [HV.out, HPL.out]; rfl, vals, ?_, ?_, hb7⟩
          · rw [HV.out, HPL.out]
            exact ownsRow_far_below HOW.out hb7 (Nat.le_refl _)
          · rw [HV.out]
            exact HIN.out.below hb7
        · have hv : putG ltS rows s = rows.take j ++ [s] ++ rows.drop j := by
            unfold putG
            rw [if_neg]
            · rw [HPUT.out, HS.out, if_neg (by rw [hlt2]; simp)]; simp
            · rw [HPUT.out, HS.out, if_neg (by rw [hlt2]; simp), show j - 1 = m by have := HJM.out; omega, getDG (by rw [HPL.out]; omega), ← HQ.out]
              exact fun h => heq h.2
          have heqs := fun w' h1 h2 => specEqS ai sa ci cs x s w' hx1 h1 h2
          rw [decide_eq_false heq] at heqs
          have HEQ := Lib.hid heqs
          have HV := Lib.hid hv
          clear hv heq heqs
          go_wp2_with fail
          refine (HEQ.out wx (HXC.out.below HBX.out) (HSC.out.below HBX.out)).mono ?_
          rintro e w6 ⟨rfl, hb6⟩
          have hb7 := HBX.out.trans (hb6.mono HBX.out.size)
          have HBX := Lib.hid hb7
          clear hb6 hb7
          go_wp2
          have i1 : (0 : Int) ≤ (j : Int) := by omega
          have i2 : (j : Int) ≤ (c : Int) := by omega
          have i3 : (j : Int) ≤ (n : Int) := by omega
          have HT := Lib.hid (show CellsAt w6 (some ⟨gp, 0, none⟩) (vals.take j) from (HPC.out.below HBX.out).take j)
          have HD := Lib.hid (show CellsAt w6 (if c = j then some ⟨gp, 0, none⟩ else some ⟨gp, 0 + j, none⟩) (vals.drop j) by
            have := cellsAt_dropIf2 (c := c) (k := j) (n := j) (size := 1) (HPC.out.below HBX.out) (by omega) (by rw [HVL.out]; omega)
            rw [Nat.mul_one] at this
            exact this)
          have HLT := Lib.hid (show (vals.take j).length = j * 1 by rw [List.length_take, HVL.out]; omega)
          have HLD := Lib.hid (show (vals.drop j).length = (n - j) * 1 by rw [List.length_drop, HVL.out]; omega)
          have HLV := Lib.hid (show (rows.take j ++ [s] ++ rows.drop j).length = j + 1 + (n - j) by simp only [List.length_append, List.length_take, List.length_drop, HPL.out, List.length_singleton]; omega)
          have ho1 := fun u hu => HONE.out u (List.mem_of_mem_take (i := j) hu)
          have ho2 := fun u hu => HONE.out u (List.mem_of_mem_drop (i := j) hu)
          have HO1 := Lib.hid ho1
          have HO2 := Lib.hid ho2
          clear ho1 ho2
          go_region_held3 (fun _ => True) (trivial)
            (first
              | (refine step_app0 rfl (.tmp 34) (.tmp 37) 61 rfl w6.heap.size 36 _ 1 24 Try.elemShp _ (by rfl) (by first | exact empty_a (w := w6) (by rfl) | exact empty_b (w := w6) (by rfl) | exact empty_c (w := w6) (by rfl)) _ j c (vals.take j) (by rfl) (fun h => by cases h) HLT.out (CellsAt.below HT.out (by first | exact below_one (by rfl) rfl rfl rfl | exact below_two (by rfl) rfl rfl rfl)) HO1.out (by unfold maxLen; omega) (by omega) (by first | omega | (simp; done) | (simp; omega)) ?_; intro a1 c1 w1 p1 p2 p3; have B1 : Below w6.heap.size w6 w1 := Below.trans (by first | exact below_one (by rfl) rfl rfl rfl | exact below_two (by rfl) rfl rfl rfl) p2; have hz1 := B1.size)
              | (refine step_appN rfl (.tmp 38) (.tmp 40) 61 rfl w6.heap.size 36 _ 1 24 Try.elemShp (.slice a1 j c1) j (vals.take j) (by rfl) (by first | exact p1.alloc _ | exact p1) _ 1 1 (#[Value.slice sa s.length cs]).toList (by rfl) (fun h => by cases h) (by rfl) (by first | exact elem_a (cs := #[Value.slice sa s.length cs]) (w := w1) (by rfl) | exact elem_b (cs := #[Value.slice sa s.length cs]) (w := w6) (by rfl) p3 (by rfl) | exact elem_c (cs := #[Value.slice sa s.length cs]) (w := w6) (by rfl) p3 (by rfl)) (by simp [Value.oneCell']) (by unfold maxLen; omega) (by omega) (by first | omega | (simp; done) | (simp; omega)) ?_; intro a2 c2 w2 r1 r2 r3; have B2 : Below w6.heap.size w6 w2 := (by first | exact B1.trans r2 | exact (B1.alloc hz1 _).trans r2); have hz2 := B2.size)
              | (refine step_appN rfl (.tmp 41) (.tmp 44) 61 rfl w6.heap.size 36 _ 1 24 Try.elemShp (.slice a2 (j + 1) c2) (j + 1) (vals.take j ++ (#[Value.slice sa s.length cs]).toList) (by rfl) r1 (if c = j then some ⟨gp, 0, none⟩ else some ⟨gp, 0 + j, none⟩) (n - j) (c - j) (vals.drop j) (by first | rfl | (simp only [Nat.zero_add]; rfl)) (fun h => by split at h <;> cases h) HLD.out (HD.out.below B2) HO2.out (by unfold maxLen; omega) (by omega) (by first | omega | (simp; done) | (simp; omega)) ?_; intro a3 c3 w3 s1 s2 s3))
          all_goals go_wp2
          all_goals (
            go_ret
            obtain ⟨g3, hg3⟩ := row_some s1 (by omega)
            subst hg3
            have hb3 := HBX.out.trans ((B2.trans s2).mono HBX.out.size)
            refine ⟨g3, c3, by rw [HV.out, HLV.out]; rfl, vals.take j ++ [Value.slice sa s.length cs] ++ vals.drop j, ?_, ?_, hb3⟩
            · rw [HV.out, HLV.out]
              exact ownsRow_rebase s1 (by have := HBX.out.size; omega)
            · rw [HV.out]
              exact (HIN.out.below hb3).put (ShpAt.below ⟨sa, cs, rfl, HSO.out⟩ hb3) j)
    · have d1 : decide ((0 : Int) < (j : Int)) = false := by simp; omega
      have d2 : decide (0 < j) = false := by simp; omega
      have hv : putG ltS rows s = rows.take j ++ [s] ++ rows.drop j := by
        obtain rfl : j = 0 := by omega
        unfold putG
        rw [HPUT.out]
        rw [if_neg (by exact fun h => absurd h.1 (by show ¬ 0 < 0; omega))]
        rfl
      have HV := Lib.hid hv
      have HBX := HBR
      clear hv
      go_wp2
      have i1 : (0 : Int) ≤ (j : Int) := by omega
      have i2 : (j : Int) ≤ (c : Int) := by omega
      have i3 : (j : Int) ≤ (n : Int) := by omega
      have HT := Lib.hid (show CellsAt wr (some ⟨gp, 0, none⟩) (vals.take j) from (HPC.out.below HBX.out).take j)
      have HD := Lib.hid (show CellsAt wr (if c = j then some ⟨gp, 0, none⟩ else some ⟨gp, 0 + j, none⟩) (vals.drop j) by
        have := cellsAt_dropIf2 (c := c) (k := j) (n := j) (size := 1) (HPC.out.below HBX.out) (by omega) (by rw [HVL.out]; omega)
        rw [Nat.mul_one] at this
        exact this)
      have HLT := Lib.hid (show (vals.take j).length = j * 1 by rw [List.length_take, HVL.out]; omega)
      have HLD := Lib.hid (show (vals.drop j).length = (n - j) * 1 by rw [List.length_drop, HVL.out]; omega)
      have HLV := Lib.hid (show (rows.take j ++ [s] ++ rows.drop j).length = j + 1 + (n - j) by simp only [List.length_append, List.length_take, List.length_drop, HPL.out, List.length_singleton]; omega)
      have ho1 := fun u hu => HONE.out u (List.mem_of_mem_take (i := j) hu)
      have ho2 := fun u hu => HONE.out u (List.mem_of_mem_drop (i := j) hu)
      have HO1 := Lib.hid ho1
      have HO2 := Lib.hid ho2
      clear ho1 ho2
      go_region_held3 (fun _ => True) (trivial)
        (first
          | (refine step_app0 rfl (.tmp 34) (.tmp 37) 61 rfl wr.heap.size 36 _ 1 24 Try.elemShp _ (by rfl) (by first | exact empty_a (w := wr) (by rfl) | exact empty_b (w := wr) (by rfl) | exact empty_c (w := wr) (by rfl)) _ j c (vals.take j) (by rfl) (fun h => by cases h) HLT.out (CellsAt.below HT.out (by first | exact below_one (by rfl) rfl rfl rfl | exact below_two (by rfl) rfl rfl rfl)) HO1.out (by unfold maxLen; omega) (by omega) (by first | omega | (simp; done) | (simp; omega)) ?_; intro a1 c1 w1 p1 p2 p3; have B1 : Below wr.heap.size wr w1 := Below.trans (by first | exact below_one (by rfl) rfl rfl rfl | exact below_two (by rfl) rfl rfl rfl) p2; have hz1 := B1.size)
          | (refine step_appN rfl (.tmp 38) (.tmp 40) 61 rfl wr.heap.size 36 _ 1 24 Try.elemShp (.slice a1 j c1) j (vals.take j) (by rfl) (by first | exact p1.alloc _ | exact p1) _ 1 1 (#[Value.slice sa s.length cs]).toList (by rfl) (fun h => by cases h) (by rfl) (by first | exact elem_a (cs := #[Value.slice sa s.length cs]) (w := w1) (by rfl) | exact elem_b (cs := #[Value.slice sa s.length cs]) (w := wr) (by rfl) p3 (by rfl) | exact elem_c (cs := #[Value.slice sa s.length cs]) (w := wr) (by rfl) p3 (by rfl)) (by simp [Value.oneCell']) (by unfold maxLen; omega) (by omega) (by first | omega | (simp; done) | (simp; omega)) ?_; intro a2 c2 w2 r1 r2 r3; have B2 : Below wr.heap.size wr w2 := (by first | exact B1.trans r2 | exact (B1.alloc hz1 _).trans r2); have hz2 := B2.size)
          | (refine step_appN rfl (.tmp 41) (.tmp 44) 61 rfl wr.heap.size 36 _ 1 24 Try.elemShp (.slice a2 (j + 1) c2) (j + 1) (vals.take j ++ (#[Value.slice sa s.length cs]).toList) (by rfl) r1 (if c = j then some ⟨gp, 0, none⟩ else some ⟨gp, 0 + j, none⟩) (n - j) (c - j) (vals.drop j) (by first | rfl | (simp only [Nat.zero_add]; rfl)) (fun h => by split at h <;> cases h) HLD.out (HD.out.below B2) HO2.out (by unfold maxLen; omega) (by omega) (by first | omega | (simp; done) | (simp; omega)) ?_; intro a3 c3 w3 s1 s2 s3))
      all_goals go_wp2
      all_goals (
        go_ret
        obtain ⟨g3, hg3⟩ := row_some s1 (by omega)
        subst hg3
        have hb3 := HBX.out.trans ((B2.trans s2).mono HBX.out.size)
        refine ⟨g3, c3, by rw [HV.out, HLV.out]; rfl, vals.take j ++ [Value.slice sa s.length cs] ++ vals.drop j, ?_, ?_, hb3⟩
        · rw [HV.out, HLV.out]
          exact ownsRow_rebase s1 (by have := HBX.out.size; omega)
        · rw [HV.out]
          exact (HIN.out.below hb3).put (ShpAt.below ⟨sa, cs, rfl, HSO.out⟩ hb3) j)
end Go.Proofs.Ytcoggnoeafpgbaa

