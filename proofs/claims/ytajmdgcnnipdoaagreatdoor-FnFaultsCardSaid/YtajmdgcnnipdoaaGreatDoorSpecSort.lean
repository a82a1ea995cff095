/- SpecSort: the walk of the reference's SortCells: a list of cells put in order. -/
import Derived.Test.YtajmdgcnnipdoaaGreatDoorAllShape
import Derived.Test.YtajmdgcnnipdoaaGreatDoorAllHead
import Derived.Test.YtajmdgcnnipdoaaGreatDoorAllPut0
import Derived.Test.YtajmdgcnnipdoaaGreatDoorAllBase
import Derived.BigQuiet
import Derived.BigRegion
import Derived.IntWalk
import Derived.StillTailTactics
import Derived.Deep.RegionHeld3
import Derived.Deep.Cut
import Derived.Deep.DrawnRows
import Derived.Laws.StructEq
namespace Go.Proofs.YtajmdgcnnipdoaaGreatDoor
open Go.RowKit

attribute [local go_sem ↓] Go.wp_at_zero Go.wp_at_succ

theorem cellsAt_dropIf2 {w : World} {g off c k n size : Nat} {cs : List Value} (h : CellsAt w (some ⟨g, off, none⟩) cs) (hn : n = k * size) (hc : cs.length ≤ c * size) :
    CellsAt w (if c = k then some ⟨g, off, none⟩ else some ⟨g, off + n, none⟩) (cs.drop (k * size)) := by
  split
  · rename_i e
    subst e
    left
    exact List.drop_eq_nil_of_le hc
  · exact cellsAt_drop h k hn
theorem putKC_succ (l : List Cl) (n : Cl) (k : Nat) : putKG ltC l n (k + 1) = if ltC n (l.getD k default) = true then putKG ltC l n k else k + 1 := rfl
theorem cls_take : ∀ (l : List Cl) (k : Nat), cls (l.take k) = (cls l).take (k * 2)
  | [], k => by simp [cls]
  | c :: l, 0 => by simp [cls]
  | c :: l, k + 1 => by
    rw [List.take_succ_cons, show (k + 1) * 2 = k * 2 + 1 + 1 by omega]
    show Value.int .i64 c.x :: Value.int .i64 c.y :: cls (l.take k) = (Value.int .i64 c.x :: Value.int .i64 c.y :: cls l).take (k * 2 + 1 + 1)
    rw [List.take_succ_cons, List.take_succ_cons, cls_take l k]
theorem cls_drop : ∀ (l : List Cl) (k : Nat), cls (l.drop k) = (cls l).drop (k * 2)
  | [], k => by simp [cls]
  | c :: l, 0 => by simp
  | c :: l, k + 1 => by
    rw [List.drop_succ_cons, show (k + 1) * 2 = k * 2 + 1 + 1 by omega]
    show cls (l.drop k) = (Value.int .i64 c.x :: Value.int .i64 c.y :: cls l).drop (k * 2 + 1 + 1)
    rw [List.drop_succ_cons, List.drop_succ_cons, cls_drop l k]
theorem row_some {w : World} {base e size n c : Nat} {ad : Option Addr} {xs : List Value} (h : w.ownsRow base e size (.slice ad n c) n xs) (hn : 0 < n) : ∃ g, ad = some ⟨g, 0, none⟩ := by
  rcases h.2 with ⟨h1, h2⟩ | ⟨g, c', cur, h1, _⟩
  · cases h1; omega
  · cases h1; exact ⟨g, rfl⟩
theorem cellEq2 (a b : Cl) (w : World) : Sem.run Tryz.prog (Op.equalIn 10000 91 (.agg #[.int .i64 a.x, .int .i64 a.y]) (.agg #[.int .i64 b.x, .int .i64 b.y])) w = .ok (decide (a = b)) w := by
  have u3 := Tryz.underlying3
  have a3 := Tryz.isAgg3
  have z3 := Tryz.sizeOf3
  have hS : Tryz.prog.underlying 91 = some (.struct (Tryz.prog.fieldsOf 91)) := by kernel_rfl
  have hp : Tryz.prog.stoodInHeld 91 = false := by kernel_rfl
  have hd : decide (a = b) = (a.x == b.x && a.y == b.y) := by
    rw [Bool.eq_iff_iff]
    obtain ⟨ax, ay⟩ := a
    obtain ⟨bx, by'⟩ := b
    simp
  rw [hd, show (10000 : Nat) = 9999 + 1 from rfl, run_equalIn_agg w 9999 91 _ _ hS hp]
  simp only [Program.fieldsOf, Tryz.underlying91]
  go_simp
  by_cases h1 : a.x = b.x <;> by_cases h2 : a.y = b.y <;> simp [h1, h2]

set_option maxRecDepth 100000 in
set_option maxHeartbeats 6400000 in
theorem specSort (ad : Option Addr) (c : Nat) (l : List Cl) (w : World) (hl : l.length ≤ 1000) (hc : CellsAt w ad (cls l)) :
    Calls Tryz.prog 132 #[.slice ad l.length c] w fun e w' => ∃ ad' c', e = .returned (.slice ad' (putAllG ltC l).length c') ∧ w'.ownsRow w.heap.size 91 2 (.slice ad' (putAllG ltC l).length c') (putAllG ltC l).length (cls (putAllG ltC l)) ∧ Below w.heap.size w w' := by
  have HC := Lib.hid hc
  clear hc
  obtain ⟨w0, hw0⟩ : ∃ w0, w0 = w.alloc (.cells #[] 91) := ⟨_, rfl⟩
  have hb0 : Below w.heap.size w w0 := by rw [hw0]; exact (Below.refl _ _).alloc (Nat.le_refl _) _
  have ho0 : w0.ownsRow w.heap.size 91 2 (.slice (some ⟨w.heap.size, 0, none⟩) 0 0) 0 [] := by rw [hw0]; exact ownsRow_empty _ _ _
  have HB0 := Lib.hid hb0
  have HO0 := Lib.hid ho0
  have HW0 := Lib.hid hw0
  clear hb0 ho0 hw0
  go_enter Tryz.func132, Tryz.ntmps132
  go_wp2
  rw [← HW0.out]
  go_loopw [3, 4] (fun s i wr => ∃ k gp c', k ≤ l.length ∧ i = .int .i64 (k : Nat) ∧ s = .slice (some ⟨gp, 0, none⟩) (putAllG ltC (l.take k)).length c' ∧ wr.ownsRow w.heap.size 91 2 (.slice (some ⟨gp, 0, none⟩) (putAllG ltC (l.take k)).length c') (putAllG ltC (l.take k)).length (cls (putAllG ltC (l.take k))) ∧ Below w.heap.size w wr) (fun _ i _ => l.length - (intOf i).toNat)
  case atStart => exact ⟨0, w.heap.size, 0, Nat.zero_le _, rfl, rfl, by simpa [putAllG, cls] using HO0.out, HB0.out⟩
  case round =>
    obtain ⟨k, gp, c', hk, rfl, rfl, hown, hb⟩ := hrel
    obtain ⟨wo, rfl⟩ : ∃ wo, wo = wr := ⟨_, rfl⟩
    have hszo := hb.size
    have hPk := putAllG_length (lt := ltC) (l.take k)
    rw [List.length_take] at hPk
    obtain ⟨hcap, _⟩ := ownsRow_le_cap hown
    have hgp := (hown.lt gp rfl).2
    have HB := Lib.hid hb
    clear hb
    by_cases hlt : k < l.length
    · obtain ⟨g, off, rfl, hg, hcc⟩ := cl_open HC.out (by omega)
      obtain ⟨v0, v1⟩ := hcc k hlt
      have hst : putAllG ltC (l.take (k + 1)) = putG ltC (putAllG ltC (l.take k)) l[k] := by rw [List.take_succ_eq_append_getElem hlt, putAllG_snoc]
      have X0 := Lib.hid ((HB.out.cell (p := ⟨g, off + k * 2, none⟩) hg).trans v0)
      have X1 := Lib.hid ((HB.out.cell (p := ⟨g, off + k * 2 + 1, none⟩) hg).trans v1)
      have i0 : (k : Int) < (l.length : Int) := by omega
      clear hcc v0 v1
      generalize l[k] = x at X0 X1 hst
      have HST := Lib.hid hst
      clear hst
      generalize putAllG ltC (l.take k) = P at hPk hown hcap HST ⊢
      obtain ⟨n, hn⟩ : ∃ n, n = P.length := ⟨_, rfl⟩
      rw [← hn] at hPk hown hcap ⊢
      have HPL := Lib.hid hn.symm
      have HOW := Lib.hid hown
      have HPC := Lib.hid (ownsRow_cellsAt hown)
      have hnk : n ≤ k := by omega
      have hstart : putKG ltC P x P.length = putKG ltC P x n := by rw [hn]
      have HSTA := Lib.hid hstart
      clear hown hn hstart
      obtain ⟨cx, cy⟩ := x
      simp only at X0 X1
      go_wp2
      go_loopw [5] (fun i wr => ∃ j : Nat, j ≤ n ∧ i = .int .i64 j ∧ putKG ltC P ⟨cx, cy⟩ P.length = putKG ltC P ⟨cx, cy⟩ j ∧ Below wo.heap.size wo wr) (fun i _ => (intOf i).toNat)
      case atStart => exact ⟨n, Nat.le_refl _, rfl, HSTA.out, Below.refl _ _⟩
      case round =>
        obtain ⟨j, hj, rfl, hput, hbx⟩ := hrel
        have hszx := hbx.size
        have HPUT := Lib.hid hput
        have HBR := Lib.hid hbx
        clear hput hbx
        by_cases hj0 : 1 ≤ j
        · obtain ⟨m, hm⟩ : ∃ m, m = j - 1 := ⟨_, rfl⟩
          have hmP : m < P.length := by rw [HPL.out]; omega
          have hs := putKC_succ P ⟨cx, cy⟩ m
          rw [show m + 1 = j by omega, getDG hmP] at hs
          obtain ⟨g', off', he, hg', hcc⟩ := cl_open HPC.out (by rw [HPL.out]; omega)
          cases he
          obtain ⟨v0, v1⟩ := hcc m hmP
          rw [Nat.zero_add] at v0 v1
          have p0 := (HBR.out.cell (p := ⟨gp, m * 2, none⟩) (by simp; omega)).trans v0
          have p1 := (HBR.out.cell (p := ⟨gp, m * 2 + 1, none⟩) (by simp; omega)).trans v1
          have x0 := (HBR.out.cell (p := ⟨g, off + k * 2, none⟩) (by simp; omega)).trans X0.out
          have x1 := (HBR.out.cell (p := ⟨g, off + k * 2 + 1, none⟩) (by simp; omega)).trans X1.out
          obtain ⟨q, hq⟩ : ∃ q, q = P[m] := ⟨_, rfl⟩
          rw [← hq] at p0 p1 hs
          have HQ := Lib.hid hq
          have d1 : decide ((0 : Int) < (j : Int)) = true := by simp; omega
          have d2 : decide (0 < j) = true := by simp; omega
          have i2 : (j : Int) - 1 = (m : Int) := by omega
          have i3 : IntKind.i64.wrap (m : Int) = (m : Int) := IntWalk.i64_in _ (by omega)
          have i4 : (m : Int) < (n : Int) := by omega
          have hjm : j = m + 1 := by omega
          have HJM := Lib.hid hjm
          have hmj : m < j := by omega
          have hseq := cellEq2 q ⟨cx, cy⟩
          simp only at hseq
          have HSEQ := Lib.hid hseq
          have HS := Lib.hid hs
          clear hcc v0 v1 hq hm hjm hseq hs
          obtain ⟨qx, qy⟩ := q
          simp only at p0 p1 HSEQ HS HQ
          go_wp2
          go_still_tail 12, (by kernel_rfl)
          go_wp2_with fail
          refine (specBefore cx cy qx qy wr.drew).mono ?_
          rintro e w5 ⟨rfl, hb5⟩
          have hbx := HBR.out.trans (((Below.refl _ _).drew.trans (hb5.mono (Nat.le_refl _))).mono hszx)
          have hszx5 := hbx.size
          have p0 := (((Below.refl _ _).drew.trans hb5).cell (p := ⟨gp, m * 2, none⟩) (by simp; omega)).trans p0
          have p1 := (((Below.refl _ _).drew.trans hb5).cell (p := ⟨gp, m * 2 + 1, none⟩) (by simp; omega)).trans p1
          have x0 := (((Below.refl _ _).drew.trans hb5).cell (p := ⟨g, off + k * 2, none⟩) (by simp; omega)).trans x0
          have x1 := (((Below.refl _ _).drew.trans hb5).cell (p := ⟨g, off + k * 2 + 1, none⟩) (by simp; omega)).trans x1
          have HBX5 := Lib.hid hbx
          clear hb5 hbx
          cases hlt2 : ltC ⟨cx, cy⟩ ⟨qx, qy⟩ with
          | true =>
            go_wp2
            go_roundw
            case rel => exact ⟨m, by omega, by go_num, by rw [HPUT.out, HS.out, if_pos hlt2], HBX5.out⟩
            case measure => simp [intOf]; omega
          | false =>
            by_cases heq : (⟨qx, qy⟩ : Cl) = ⟨cx, cy⟩
            · have hseq := HSEQ.out
              rw [decide_eq_true heq] at hseq
              have hv : putG ltC P ⟨cx, cy⟩ = P := by
                unfold putG
                rw [if_pos]
                rw [HPUT.out, HS.out, if_neg (by rw [hlt2]; simp)]
                exact ⟨by omega, by rw [show j - 1 = m by have := HJM.out; omega, getDG (by rw [HPL.out]; omega), ← HQ.out]; exact heq⟩
              have HV := Lib.hid hv
              clear hv heq
              go_wp2
              go_big_quiet (fail)
              go_wp2
              go_roundw
              case rel => exact ⟨k + 1, gp, c', by omega, by go_num, by rw [HST.out, HV.out, HPL.out], by rw [HST.out, HV.out, HPL.out]; exact ownsRow_drewN (ownsRow_far_below HOW.out HBX5.out (Nat.le_refl _)) _, HB.out.trans ((below_drewN HBX5.out _).mono hszo)⟩
              case measure => simp [intOf]; omega
            · have hseq := HSEQ.out
              rw [decide_eq_false heq] at hseq
              have hv : putG ltC P ⟨cx, cy⟩ = P.take j ++ [⟨cx, cy⟩] ++ P.drop j := by
                unfold putG
                rw [if_neg]
                · rw [HPUT.out, HS.out, if_neg (by rw [hlt2]; simp)]; simp
                · rw [HPUT.out, HS.out, if_neg (by rw [hlt2]; simp), show j - 1 = m by have := HJM.out; omega, getDG (by rw [HPL.out]; omega), ← HQ.out]
                  exact fun h => heq h.2
              have HV := Lib.hid hv
              clear hv heq
              go_wp2
              go_big_quiet (fail)
              go_wp2
              generalize hwx : w5.drewN _ = wx
              have hbx : Below wo.heap.size wo wx := by rw [← hwx]; exact below_drewN HBX5.out _
              have hszx := hbx.size
              have HBX := Lib.hid hbx
              clear hwx hbx
              have i1 : (0 : Int) ≤ (j : Int) := by omega
              have i2 : (j : Int) ≤ (c' : Int) := by omega
              have i3 : (j : Int) ≤ (n : Int) := by omega
              have HT := Lib.hid (show CellsAt wx (some ⟨gp, 0, none⟩) (cls (P.take j)) by rw [cls_take]; exact (HPC.out.below HBX.out).take (j * 2))
              have HD := Lib.hid (show CellsAt wx (if c' = j then some ⟨gp, 0, none⟩ else some ⟨gp, 0 + j * 2, none⟩) (cls (P.drop j)) by rw [cls_drop]; exact cellsAt_dropIf2 (c := c') (k := j) (n := j * 2) (size := 2) (HPC.out.below HBX.out) rfl (by rw [cls_length, HPL.out]; omega))
              have HLT := Lib.hid (show (cls (P.take j)).length = j * 2 by rw [cls_length, List.length_take, HPL.out]; congr 1; omega)
              have HLD := Lib.hid (show (cls (P.drop j)).length = (n - j) * 2 by rw [cls_length, List.length_drop, HPL.out])
              have HLV := Lib.hid (show (P.take j ++ [(⟨cx, cy⟩ : Cl)] ++ P.drop j).length = j + 1 + (n - j) by simp only [List.length_append, List.length_take, List.length_drop, HPL.out, List.length_singleton]; omega)
              have xx0 := (HBX.out.cell (p := ⟨g, off + k * 2, none⟩) (by simp; omega)).trans X0.out
              have xx1 := (HBX.out.cell (p := ⟨g, off + k * 2 + 1, none⟩) (by simp; omega)).trans X1.out
              have hgx : g < wx.heap.size := by omega
              go_region_held3 (fun w' => w'.cell? ⟨g, off + k * 2, none⟩ = some (.int .i64 cx) ∧ w'.cell? ⟨g, off + k * 2 + 1, none⟩ = some (.int .i64 cy))
                (first | go_keep | exact ⟨(B1.cell (p := ⟨g, off + k * 2, none⟩) hgx).trans xx0, (B1.cell (p := ⟨g, off + k * 2 + 1, none⟩) hgx).trans xx1⟩ | exact ⟨(B2.cell (p := ⟨g, off + k * 2, none⟩) hgx).trans xx0, (B2.cell (p := ⟨g, off + k * 2 + 1, none⟩) hgx).trans xx1⟩ | exact ⟨((B2.trans s2).cell (p := ⟨g, off + k * 2, none⟩) hgx).trans xx0, ((B2.trans s2).cell (p := ⟨g, off + k * 2 + 1, none⟩) hgx).trans xx1⟩)
                (first
                  | (refine step_app0 rfl (.tmp 45) (.tmp 48) 40 rfl wx.heap.size 91 _ 2 16 Tryz.elemCl _ (by rfl) (by first | exact empty_a (w := wx) (by rfl) | exact empty_b (w := wx) (by rfl) | exact empty_c (w := wx) (by rfl)) _ j c' (cls (P.take j)) (by rfl) (fun h => by cases h) HLT.out (CellsAt.below HT.out (by first | exact below_one (by rfl) rfl rfl rfl | exact below_two (by rfl) rfl rfl rfl)) (cls_one _) (by unfold maxLen; omega) (by omega) (by first | omega | (simp; done) | (simp; omega)) ?_; intro a1 c1 w1 p1 p2 p3; have B1 : Below wx.heap.size wx w1 := Below.trans (by first | exact below_one (by rfl) rfl rfl rfl | exact below_two (by rfl) rfl rfl rfl) p2; have hz1 := B1.size)
                  | (refine step_appN rfl (.tmp 49) (.tmp 54) 40 rfl wx.heap.size 91 _ 2 16 Tryz.elemCl (.slice a1 j c1) j (cls (P.take j)) (by rfl) (by first | exact p1.alloc _ | exact p1) _ 1 1 (#[Value.int .i64 cx, Value.int .i64 cy]).toList (by rfl) (fun h => by cases h) (by rfl) (by first | exact elem_a (cs := #[Value.int .i64 cx, Value.int .i64 cy]) (w := w1) (by rfl) | exact elem_b (cs := #[Value.int .i64 cx, Value.int .i64 cy]) (w := wx) (by rfl) p3 (by rfl) | exact elem_c (cs := #[Value.int .i64 cx, Value.int .i64 cy]) (w := wx) (by rfl) p3 (by rfl)) (cls_one [⟨cx, cy⟩]) (by unfold maxLen; omega) (by omega) (by first | omega | (simp; done) | (simp; omega)) ?_; intro a2 c2 w2 r1 r2 r3; have B2 : Below wx.heap.size wx w2 := (by first | exact B1.trans r2 | exact (B1.alloc hz1 _).trans r2); have hz2 := B2.size)
                  | (refine step_appN rfl (.tmp 55) (.tmp 58) 40 rfl wx.heap.size 91 _ 2 16 Tryz.elemCl (.slice a2 (j + 1) c2) (j + 1) (cls (P.take j) ++ (#[Value.int .i64 cx, Value.int .i64 cy]).toList) (by rfl) r1 (if c' = j then some ⟨gp, 0, none⟩ else some ⟨gp, 0 + j * 2, none⟩) (n - j) (c' - j) (cls (P.drop j)) (by first | rfl | (simp only [Nat.zero_add]; rfl)) (fun h => by split at h <;> cases h) HLD.out (HD.out.below B2) (cls_one _) (by unfold maxLen; omega) (by omega) (by first | omega | (simp; done) | (simp; omega)) ?_; intro a3 c3 w3 s1 s2 s3))
              all_goals (
                go_wp2
                go_roundw
                case rel =>
                  have hq := HV.out
                  obtain ⟨g3, hg3⟩ := row_some s1 (by omega)
                  subst hg3
                  refine ⟨k + 1, g3, c3, by omega, by go_num, by rw [HST.out, hq, HLV.out], ?_, HB.out.trans ((HBX.out.mono hszo).trans ((B2.trans s2).mono (by omega)))⟩
                  rw [HST.out, hq, HLV.out, cls_append, cls_append]
                  exact ownsRow_rebase s1 (by omega)
                case measure => simp [intOf]; omega)
        · have d1 : decide ((0 : Int) < (j : Int)) = false := by simp; omega
          have d2 : decide (0 < j) = false := by simp; omega
          have hv : putG ltC P ⟨cx, cy⟩ = P.take j ++ [⟨cx, cy⟩] ++ P.drop j := by
            obtain rfl : j = 0 := by omega
            unfold putG
            rw [HPUT.out]
            rw [if_neg (by exact fun h => absurd h.1 (by show ¬ 0 < 0; omega))]
            rfl
          have HV := Lib.hid hv
          clear hv
          go_wp2
          go_region
          go_wp2
          go_region
          go_wp2
          obtain ⟨wx, hwx⟩ : ∃ wx, wx = wr.drew.drew := ⟨_, rfl⟩
          have hbx : Below wo.heap.size wo wx := by rw [hwx]; exact below_drewN HBR.out 2
          have hszx := hbx.size
          have HBX := Lib.hid hbx
          rw [← hwx]
          clear hwx hbx
          have i1 : (0 : Int) ≤ (j : Int) := by omega
          have i2 : (j : Int) ≤ (c' : Int) := by omega
          have i3 : (j : Int) ≤ (n : Int) := by omega
          have HT := Lib.hid (show CellsAt wx (some ⟨gp, 0, none⟩) (cls (P.take j)) by rw [cls_take]; exact (HPC.out.below HBX.out).take (j * 2))
          have HD := Lib.hid (show CellsAt wx (if c' = j then some ⟨gp, 0, none⟩ else some ⟨gp, 0 + j * 2, none⟩) (cls (P.drop j)) by rw [cls_drop]; exact cellsAt_dropIf2 (c := c') (k := j) (n := j * 2) (size := 2) (HPC.out.below HBX.out) rfl (by rw [cls_length, HPL.out]; omega))
          have HLT := Lib.hid (show (cls (P.take j)).length = j * 2 by rw [cls_length, List.length_take, HPL.out]; congr 1; omega)
          have HLD := Lib.hid (show (cls (P.drop j)).length = (n - j) * 2 by rw [cls_length, List.length_drop, HPL.out])
          have HLV := Lib.hid (show (P.take j ++ [(⟨cx, cy⟩ : Cl)] ++ P.drop j).length = j + 1 + (n - j) by simp only [List.length_append, List.length_take, List.length_drop, HPL.out, List.length_singleton]; omega)
          have xx0 := (HBX.out.cell (p := ⟨g, off + k * 2, none⟩) (by simp; omega)).trans X0.out
          have xx1 := (HBX.out.cell (p := ⟨g, off + k * 2 + 1, none⟩) (by simp; omega)).trans X1.out
          have hgx : g < wx.heap.size := by omega
          go_region_held3 (fun w' => w'.cell? ⟨g, off + k * 2, none⟩ = some (.int .i64 cx) ∧ w'.cell? ⟨g, off + k * 2 + 1, none⟩ = some (.int .i64 cy))
            (first | go_keep | exact ⟨(B1.cell (p := ⟨g, off + k * 2, none⟩) hgx).trans xx0, (B1.cell (p := ⟨g, off + k * 2 + 1, none⟩) hgx).trans xx1⟩ | exact ⟨(B2.cell (p := ⟨g, off + k * 2, none⟩) hgx).trans xx0, (B2.cell (p := ⟨g, off + k * 2 + 1, none⟩) hgx).trans xx1⟩ | exact ⟨((B2.trans s2).cell (p := ⟨g, off + k * 2, none⟩) hgx).trans xx0, ((B2.trans s2).cell (p := ⟨g, off + k * 2 + 1, none⟩) hgx).trans xx1⟩)
            (first
              | (refine step_app0 rfl (.tmp 45) (.tmp 48) 40 rfl wx.heap.size 91 _ 2 16 Tryz.elemCl _ (by rfl) (by first | exact empty_a (w := wx) (by rfl) | exact empty_b (w := wx) (by rfl) | exact empty_c (w := wx) (by rfl)) _ j c' (cls (P.take j)) (by rfl) (fun h => by cases h) HLT.out (CellsAt.below HT.out (by first | exact below_one (by rfl) rfl rfl rfl | exact below_two (by rfl) rfl rfl rfl)) (cls_one _) (by unfold maxLen; omega) (by omega) (by first | omega | (simp; done) | (simp; omega)) ?_; intro a1 c1 w1 p1 p2 p3; have B1 : Below wx.heap.size wx w1 := Below.trans (by first | exact below_one (by rfl) rfl rfl rfl | exact below_two (by rfl) rfl rfl rfl) p2; have hz1 := B1.size)
              | (refine step_appN rfl (.tmp 49) (.tmp 54) 40 rfl wx.heap.size 91 _ 2 16 Tryz.elemCl (.slice a1 j c1) j (cls (P.take j)) (by rfl) (by first | exact p1.alloc _ | exact p1) _ 1 1 (#[Value.int .i64 cx, Value.int .i64 cy]).toList (by rfl) (fun h => by cases h) (by rfl) (by first | exact elem_a (cs := #[Value.int .i64 cx, Value.int .i64 cy]) (w := w1) (by rfl) | exact elem_b (cs := #[Value.int .i64 cx, Value.int .i64 cy]) (w := wx) (by rfl) p3 (by rfl) | exact elem_c (cs := #[Value.int .i64 cx, Value.int .i64 cy]) (w := wx) (by rfl) p3 (by rfl)) (cls_one [⟨cx, cy⟩]) (by unfold maxLen; omega) (by omega) (by first | omega | (simp; done) | (simp; omega)) ?_; intro a2 c2 w2 r1 r2 r3; have B2 : Below wx.heap.size wx w2 := (by first | exact B1.trans r2 | exact (B1.alloc hz1 _).trans r2); have hz2 := B2.size)
              | (refine step_appN rfl (.tmp 55) (.tmp 58) 40 rfl wx.heap.size 91 _ 2 16 Tryz.elemCl (.slice a2 (j + 1) c2) (j + 1) (cls (P.take j) ++ (#[Value.int .i64 cx, Value.int .i64 cy]).toList) (by rfl) r1 (if c' = j then some ⟨gp, 0, none⟩ else some ⟨gp, 0 + j * 2, none⟩) (n - j) (c' - j) (cls (P.drop j)) (by first | rfl | (simp only [Nat.zero_add]; rfl)) (fun h => by split at h <;> cases h) HLD.out (HD.out.below B2) (cls_one _) (by unfold maxLen; omega) (by omega) (by first | omega | (simp; done) | (simp; omega)) ?_; intro a3 c3 w3 s1 s2 s3))
          all_goals (
            go_wp2
            go_roundw
            case rel =>
              have hq := HV.out
              obtain ⟨g3, hg3⟩ := row_some s1 (by omega)
              subst hg3
              refine ⟨k + 1, g3, c3, by omega, by go_num, by rw [HST.out, hq, HLV.out], ?_, HB.out.trans ((HBX.out.mono hszo).trans ((B2.trans s2).mono (by omega)))⟩
              rw [HST.out, hq, HLV.out, cls_append, cls_append]
              exact ownsRow_rebase s1 (by omega)
            case measure => simp [intOf]; omega)
    · obtain rfl : k = l.length := by omega
      rw [List.take_length] at hown ⊢
      have HOW := Lib.hid hown
      clear hown
      go_wp2
      go_ret
      exact ⟨_, c', rfl, HOW.out, HB.out⟩
end Go.Proofs.YtajmdgcnnipdoaaGreatDoor

