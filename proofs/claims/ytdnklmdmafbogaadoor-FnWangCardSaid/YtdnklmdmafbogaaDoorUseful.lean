/- Useful: the walk of the reference's UsefulWang. -/
import Derived.Test.YtdnklmdmafbogaaDoorUsefulA
namespace Go.Proofs.YtdnklmdmafbogaaDoor
open Go.RowKit

set_option maxRecDepth 100000 in
set_option maxHeartbeats 4000000 in
theorem specUseful (ad : Option Addr) (c : Nat) (ts : List Tile) (w : World) (hn : ts.length ≤ 1048576) (hc : CellsAt w ad (wangs ts)) :
    Calls Tryd.prog 35 #[.slice ad ts.length c] w fun e w' => ∃ ad' cap', e = .returned (.slice ad' (useful ts).length cap') ∧
      w'.ownsRow w.heap.size 3 1 (.slice ad' (useful ts).length cap') (useful ts).length (ints (nats (useful ts))) ∧ Below w.heap.size w w' := by
  have hare := fun w (h : CellsAt w ad (wangs ts)) => specAre ad c ts w hn h
  have HC := Lib.hid hc
  have HARE := Lib.hid hare
  have HE0 := Lib.hid (ownsRow_empty w 3 1)
  have HB0 := Lib.hid (show Below w.heap.size w (w.alloc (.cells #[] 3)) from (Below.refl _ _).alloc (Nat.le_refl _) _)
  clear hc hare
  go_enter Tryd.func35, Tryd.ntmps35
  go_wp2_with fail
  go_loopw [3, 4] (fun v i wr => ∃ k : Nat, k ≤ ts.length ∧ i = .int .i64 k ∧ (0 < k → Wangs ts) ∧ UseTo w wr (List.range k) v) (fun _ i _ => ts.length - (intOf i).toNat)
  case atStart => exact ⟨0, by omega, rfl, by omega, HE0.out, HB0.out⟩
  case round =>
    obtain ⟨k, hk, rfl, hkW, hown, hb⟩ := hrel
    obtain ⟨wq, rfl⟩ : ∃ wq : World, wq = wr := ⟨_, rfl⟩
    have hsz := hb.size
    rw [List.length_range] at hown
    have HOWN := Lib.hid hown
    have HB := Lib.hid hb
    clear hown hb
    by_cases hgo : k < ts.length ∧ Wangs ts
    · obtain ⟨hlt, hW⟩ := hgo
      have hcall := HARE.out _ (HC.out.below HB.out)
      rw [decide_eq_true hW] at hcall
      have HCALL := Lib.hid hcall
      have h6 : ts.length ≤ 6 := hW.2.2
      have HW := Lib.hid hW
      clear hcall hW hkW
      go_wp2_with fail
      refine HCALL.out.mono ?_
      rintro e w' ⟨rfl, rfl⟩
      go_wp2_with (at_builtin; refine wpList_app1 rfl (.tmp 26) (.tmp 28) 37 rfl w.heap.size 3 _ 1 8 Tryd.elemInt _ k _ _ _ _ rfl rfl rfl HOWN.out (by rfl) (by simp [Value.oneCell']) (by unfold maxLen; omega) (by omega) (by omega) ?_; intro g' cap w3 q1 q2 q3 q4 q5 q6)
      go_roundw
      case rel =>
        refine ⟨k + 1, by omega, by go_num, fun _ => HW.out, ?_, HB.out.trans q2⟩
        rw [List.length_range, List.range_succ, nats_snoc, ints_append]
        exact q1
      case measure => simp [intOf]; omega
    · have hst : List.range k = useStart ts := by
        unfold useStart
        by_cases hW : Wangs ts
        · rw [if_pos hW]
          have : ¬ k < ts.length := fun h => hgo ⟨h, hW⟩
          rw [show k = ts.length by omega]
        · rw [if_neg hW]
          have : k = 0 := by
            rcases Nat.eq_zero_or_pos k with q | q
            · exact q
            · exact absurd (hkW q) hW
          rw [this]; rfl
      have hu0 : UseTo w wq (useIter ts 0 (useStart ts)) _ := ⟨by show wq.ownsRow w.heap.size 3 1 u3 (useStart ts).length (ints (nats (useStart ts))); rw [← hst, List.length_range]; exact HOWN.out, HB.out⟩
      have HU0 := Lib.hid hu0
      have hnW : k < ts.length → ¬ Wangs ts := fun h q => hgo ⟨h, q⟩
      clear hst hu0 hkW hgo HOWN
      rcases Nat.lt_or_ge k ts.length with hk2 | hk2
      have hcall := HARE.out _ (HC.out.below HB.out)
      rw [decide_eq_false (hnW hk2)] at hcall
      have HCALL := Lib.hid hcall
      clear hcall hnW
      go_wp2_with fail
      refine HCALL.out.mono ?_
      rintro e w' ⟨rfl, rfl⟩
      go_wp2_with fail
      rotate_left
      clear hnW
      go_wp2_with fail
      all_goals
        go_loopw [3, 5] (fun v i wr => ∃ n : Nat, n ≤ 6 ∧ i = .int .i64 n ∧ UseTo w wr (useIter ts n (useStart ts)) v) (fun _ i _ => 6 - (intOf i).toNat)
        case atStart => exact ⟨0, by omega, rfl, HU0.out⟩
        case round =>
          obtain ⟨n, hn6, rfl, hown, hbo⟩ := hrel
          obtain ⟨wo, rfl⟩ : ∃ wo : World, wo = wr := ⟨_, rfl⟩
          have HBO := Lib.hid hbo
          have hso := hbo.size
          by_cases hlt6 : n < 6
          · have hd6 : decide ((n : Int) < 6) = true := decide_eq_true (by omega)
            have hleft := left_iter ts n
            have hnext := useIter_succ ts n (useStart ts)
            obtain ⟨C, hCC⟩ : ∃ C, C = useIter ts n (useStart ts) := ⟨_, rfl⟩
            rw [← hCC] at hown hleft hnext
            obtain ⟨ao, co, rfl, hco⟩ := ownsRow_cells hown
            have hC6 := hleft.1
            have HLEFT := Lib.hid hleft
            have HNEXT := Lib.hid hnext
            have HCO := Lib.hid hco
            have hil : (ints (nats C)).length = C.length := by rw [ints_length, nats_length]
            have HIL := Lib.hid hil
            have HE := Lib.hid (ownsRow_empty wo 3 1)
            have HBE := Lib.hid (show Below wo.heap.size wo (wo.alloc (.cells #[] 3)) from (Below.refl _ _).alloc (Nat.le_refl _) _)
            clear hown hbo hleft hnext hCC hco hil HU0
            go_wp2
            go_loopw [6, 7] (fun v i wr => ∃ k : Nat, k ≤ C.length ∧ i = .int .i64 k ∧ UseTo wo wr ((C.take k).filter (useB ts C)) v) (fun _ i _ => C.length - (intOf i).toNat)
            case atStart => exact ⟨0, by omega, rfl, by simpa [nats, ints] using HE.out, HBE.out⟩
            case round =>
              obtain ⟨k, hk, rfl, hown, hbn⟩ := hrel
              obtain ⟨wp, rfl⟩ : ∃ wp : World, wp = wr := ⟨_, rfl⟩
              have HOWN := Lib.hid hown
              have HBN := Lib.hid hbn
              have hsn := hbn.size
              clear hown hbn
              by_cases hlt : k < C.length
              · have hi0 : C[k] < ts.length := HLEFT.out.2 _ (List.getElem_mem hlt)
                have hfs := filter_take_succ (p := useB ts C) hlt
                have hum := useB_met ts C C[k]
                have hck : (ints (nats C))[k]? = some (.int .i64 (C[k] : Nat)) := natsC_at hlt
                obtain ⟨i0, hii⟩ : ∃ i0, i0 = C[k] := ⟨_, rfl⟩
                rw [← hii] at hi0 hfs hum hck
                obtain ⟨F, hF⟩ : ∃ F, F = (C.take k).filter (useB ts C) := ⟨_, rfl⟩
                rw [← hF] at hfs
                have hFl : F.length ≤ 6 := by
                  rw [hF]
                  exact Nat.le_trans (List.length_filter_le _ _) (by rw [List.length_take]; omega)
                have hown := HOWN.out
                rw [← hF] at hown
                have HOF := Lib.hid hown
                have HFS := Lib.hid hfs
                have HUM := Lib.hid hum
                have hbw : Below w.heap.size w wp := HBO.out.trans (HBN.out.mono hso)
                obtain ⟨g, off, rfl, hg, hcc⟩ := wang_open HC.out (by omega)
                obtain ⟨z0, z1, z2, z3⟩ := hcc i0 hi0
                have htl := Tl_eq hi0
                have x0 := (hbw.cell (p := ⟨g, off + i0 * 4, none⟩) hg).trans z0
                have x1 := (hbw.cell (p := ⟨g, off + i0 * 4 + 1, none⟩) hg).trans z1
                have x2 := (hbw.cell (p := ⟨g, off + i0 * 4 + 2, none⟩) hg).trans z2
                have x3 := (hbw.cell (p := ⟨g, off + i0 * 4 + 3, none⟩) hg).trans z3
                obtain ⟨go, oo, rfl, hgo, hco⟩ := HCO.out.open (by rw [HIL.out]; omega)
                have y0 := (HBN.out.cell (p := ⟨go, oo + k, none⟩) hgo).trans (hco k _ hck)
                have HCK := Lib.hid hck
                have HCC := Lib.hid hcc
                have HCOO := Lib.hid hco
                have HBW := Lib.hid hbw
                clear z0 z1 z2 z3 hii hF hown hfs hum hck hbw hcc hco
                generalize ts[i0] = x at x0 x1 x2 x3 htl
                have HTL := Lib.hid htl
                obtain ⟨xa, xb, xc, xd⟩ := x
                simp only at x0 x1 x2 x3
                clear htl
                have hza : (wp.alloc (.cells #[.int .i64 xa, .int .i64 xb, .int .i64 xc, .int .i64 xd] 45)).heap.size = wp.heap.size + 1 := by simp
                have hblk0 : (wp.alloc (.cells #[.int .i64 xa, .int .i64 xb, .int .i64 xc, .int .i64 xd] 45)).heap[wp.heap.size]? = some (.cells #[.int .i64 xa, .int .i64 xb, .int .i64 xc, .int .i64 xd] 45 (0, 0)) := heap_alloc_new wp _
                have HZA := Lib.hid hza
                have HBLK0 := Lib.hid hblk0
                clear hza hblk0
                go_wp2
                go_loopw [9, 10, 11, 12, 13] (fun f1 f2 f3 f4 i wr => ∃ j : Nat, j ≤ C.length ∧ i = .int .i64 j ∧ f1 = .bool (met ts pT C i0 j) ∧ f2 = .bool (met ts pR C i0 j) ∧ f3 = .bool (met ts pB C i0 j) ∧ f4 = .bool (met ts pL C i0 j) ∧
                  Below (wp.heap.size + 1) (wp.alloc (.cells #[.int .i64 xa, .int .i64 xb, .int .i64 xc, .int .i64 xd] 45)) wr) (fun _ _ _ _ i _ => C.length - (intOf i).toNat)
                case atStart => exact ⟨0, by omega, rfl, by rw [met_zero], by rw [met_zero], by rw [met_zero], by rw [met_zero], Below.refl _ _⟩
                case round =>
                  obtain ⟨j, hj, rfl, rfl, rfl, rfl, rfl, hb4⟩ := hrel
                  have hbr : Below wp.heap.size wp wr := ((Below.refl _ _).alloc (Nat.le_refl _) _).trans (hb4.mono (by omega))
                  have hblk := (hb4.block wp.heap.size (by omega)).trans HBLK0.out
                  have hsr := hbr.size
                  have a0 : wr.cell? ⟨wp.heap.size, 0, none⟩ = some (.int .i64 xa) := by rw [cell_of_row wr _ 0 _ _ _ hblk]; rfl
                  have a1 : wr.cell? ⟨wp.heap.size, 1, none⟩ = some (.int .i64 xb) := by rw [cell_of_row wr _ 1 _ _ _ hblk]; rfl
                  have a2 : wr.cell? ⟨wp.heap.size, 2, none⟩ = some (.int .i64 xc) := by rw [cell_of_row wr _ 2 _ _ _ hblk]; rfl
                  have a3 : wr.cell? ⟨wp.heap.size, 3, none⟩ = some (.int .i64 xd) := by rw [cell_of_row wr _ 3 _ _ _ hblk]; rfl
                  have HBR := Lib.hid hbr
                  have HB4 := Lib.hid hb4
                  have hs4 := hb4.size
                  have hz4 := HZA.out
                  rw [hz4] at hs4
                  have hs5 : wp.heap.size < wr.heap.size := by omega
                  clear hblk hbr hb4 hz4 hs4 x0 x1 x2 x3 y0
                  by_cases hlj : j < C.length
                  · have hj0 : C[j] < ts.length := HLEFT.out.2 _ (List.getElem_mem hlj)
                    have hcj : (ints (nats C))[j]? = some (.int .i64 (C[j] : Nat)) := natsC_at hlj
                    have m1 := met_succ ts pT i0 hlj
                    have m2 := met_succ ts pR i0 hlj
                    have m3 := met_succ ts pB i0 hlj
                    have m4 := met_succ ts pL i0 hlj
                    obtain ⟨j0, hjj⟩ : ∃ j0, j0 = C[j] := ⟨_, rfl⟩
                    rw [← hjj] at hj0 hcj m1 m2 m3 m4
                    rw [HTL.out] at m1 m2 m3 m4
                    rw [Tl_eq hj0] at m1 m2 m3 m4
                    obtain ⟨z0, z1, z2, z3⟩ := HCC.out j0 hj0
                    have hbt : Below w.heap.size w wr := HBW.out.trans (HBR.out.mono (by omega))
                    have t0 := (hbt.cell (p := ⟨g, off + j0 * 4, none⟩) hg).trans z0
                    have t1 := (hbt.cell (p := ⟨g, off + j0 * 4 + 1, none⟩) hg).trans z1
                    have t2 := (hbt.cell (p := ⟨g, off + j0 * 4 + 2, none⟩) hg).trans z2
                    have t3 := (hbt.cell (p := ⟨g, off + j0 * 4 + 3, none⟩) hg).trans z3
                    have u0 := (HBR.out.cell (p := ⟨go, oo + j, none⟩) (by show go < wp.heap.size; omega)).trans ((HBN.out.cell (p := ⟨go, oo + j, none⟩) hgo).trans (HCOO.out j _ hcj))
                    generalize ts[j0] = y at t0 t1 t2 t3 m1 m2 m3 m4
                    obtain ⟨ya, yb, yc, yd⟩ := y
                    simp only [pT, pR, pB, pL] at t0 t1 t2 t3 m1 m2 m3 m4
                    obtain ⟨b1, hb1⟩ : ∃ b, b = met ts pT C i0 j := ⟨_, rfl⟩
                    obtain ⟨b2, hb2⟩ : ∃ b, b = met ts pR C i0 j := ⟨_, rfl⟩
                    obtain ⟨b3, hb3⟩ : ∃ b, b = met ts pB C i0 j := ⟨_, rfl⟩
                    obtain ⟨b4, hb4⟩ : ∃ b, b = met ts pL C i0 j := ⟨_, rfl⟩
                    rw [← hb1, ← hb2, ← hb3, ← hb4]
                    rw [← hb1] at m1
                    rw [← hb2] at m2
                    rw [← hb3] at m3
                    rw [← hb4] at m4
                    obtain ⟨n1, hn1⟩ : ∃ b, b = met ts pT C i0 (j + 1) := ⟨_, rfl⟩
                    obtain ⟨n2, hn2⟩ : ∃ b, b = met ts pR C i0 (j + 1) := ⟨_, rfl⟩
                    obtain ⟨n3, hn3⟩ : ∃ b, b = met ts pB C i0 (j + 1) := ⟨_, rfl⟩
                    obtain ⟨n4, hn4⟩ : ∃ b, b = met ts pL C i0 (j + 1) := ⟨_, rfl⟩
                    rw [← hn1] at m1
                    rw [← hn2] at m2
                    rw [← hn3] at m3
                    rw [← hn4] at m4
                    have M1 := Lib.hid m1
                    have M2 := Lib.hid m2
                    have M3 := Lib.hid m3
                    have M4 := Lib.hid m4
                    have N1 := Lib.hid hn1
                    have N2 := Lib.hid hn2
                    have N3 := Lib.hid hn3
                    have N4 := Lib.hid hn4
                    clear m1 m2 m3 m4 hn1 hn2 hn3 hn4 hb1 hb2 hb3 hb4 z0 z1 z2 z3 hcj hjj hbt
                    go_upto_region 22 with (fail)
                    go_cut [9] (fun s wx => s = .bool n1 ∧ wx = wr.alloc (.cells #[.int .i64 ya, .int .i64 yb, .int .i64 yc, .int .i64 yd] 45))
                    case first =>
                      cases b1
                      all_goals
                        go_wp2_with fail
                        go_meet
                        exact ⟨by rw [M1.out]; simp, rfl⟩
                    case rest =>
                      obtain ⟨rfl, rfl⟩ := hcut
                      go_upto_region 23 with (fail)
                      go_cut [10] (fun s wx => s = .bool n2 ∧ wx = wr.alloc (.cells #[.int .i64 ya, .int .i64 yb, .int .i64 yc, .int .i64 yd] 45))
                      case first =>
                        cases b2
                        all_goals
                          go_wp2_with fail
                          go_meet
                          exact ⟨by rw [M2.out]; simp, rfl⟩
                      case rest =>
                        obtain ⟨rfl, rfl⟩ := hcut
                        go_upto_region 24 with (fail)
                        go_cut [11] (fun s wx => s = .bool n3 ∧ wx = wr.alloc (.cells #[.int .i64 ya, .int .i64 yb, .int .i64 yc, .int .i64 yd] 45))
                        case first =>
                          cases b3
                          all_goals
                            go_wp2_with fail
                            go_meet
                            exact ⟨by rw [M3.out]; simp, rfl⟩
                        case rest =>
                          obtain ⟨rfl, rfl⟩ := hcut
                          cases b4
                          all_goals
                            go_wp2
                            go_roundw
                            case rel => exact ⟨j + 1, by omega, by go_num, by rw [N1.out], by rw [N2.out], by rw [N3.out], by rw [← N4.out, M4.out]; simp, HB4.out.trans ((Below.refl _ _).alloc (by omega) _)⟩
                            case measure => simp [intOf]; omega
                  · obtain rfl : j = C.length := by omega
                    have y0 := (HBR.out.cell (p := ⟨go, oo + k, none⟩) (by show go < wp.heap.size; omega)).trans ((HBN.out.cell (p := ⟨go, oo + k, none⟩) hgo).trans (HCOO.out k _ HCK.out))
                    have hum := HUM.out
                    obtain ⟨b1, hb1⟩ : ∃ b, b = met ts pT C i0 C.length := ⟨_, rfl⟩
                    obtain ⟨b2, hb2⟩ : ∃ b, b = met ts pR C i0 C.length := ⟨_, rfl⟩
                    obtain ⟨b3, hb3⟩ : ∃ b, b = met ts pB C i0 C.length := ⟨_, rfl⟩
                    obtain ⟨b4, hb4⟩ : ∃ b, b = met ts pL C i0 C.length := ⟨_, rfl⟩
                    rw [← hb1, ← hb2, ← hb3, ← hb4]
                    rw [← hb1, ← hb2, ← hb3, ← hb4] at hum
                    have hfar := ownsRow_far_below HOF.out HBR.out (Nat.le_refl _)
                    have HFAR := Lib.hid hfar
                    have HBT := Lib.hid (HBN.out.trans (HBR.out.mono hsn))
                    clear hb1 hb2 hb3 hb4 hfar
                    have hcase : (b1 = true ∧ b2 = true ∧ b3 = true ∧ b4 = true) ∨ (b1 = false ∨ (b1 = true ∧ b2 = false) ∨ (b1 = true ∧ b2 = true ∧ b3 = false) ∨ (b1 = true ∧ b2 = true ∧ b3 = true ∧ b4 = false)) := by
                      cases b1 <;> cases b2 <;> cases b3 <;> cases b4 <;> simp
                    rcases hcase with ⟨rfl, rfl, rfl, rfl⟩ | hcase
                    · have hfs := HFS.out
                      rw [if_pos (by rw [hum]; rfl)] at hfs
                      have HFS2 := Lib.hid hfs
                      clear hum hfs
                      go_wp2_with (at_builtin; refine wpList_app1 rfl (.tmp 103) (.tmp 108) 37 rfl wo.heap.size 3 _ 1 8 Tryd.elemInt _ F.length _ _ _ _ rfl rfl rfl HFAR.out (by rfl) (by simp [Value.oneCell']) (by unfold maxLen; omega) (by omega) (by omega) ?_; intro g' cap w3 q1 q2 q3 q4 q5 q6)
                      go_roundw
                      case rel =>
                        have hu : UseTo wo w3 ((C.take (k + 1)).filter (useB ts C)) (.slice (some ⟨g', 0, none⟩) (F.length + 1) cap) := by
                          refine ⟨?_, HBT.out.trans q2⟩
                          rw [HFS2.out, List.length_append, List.length_singleton, nats_snoc, ints_append]
                          exact q1
                        first
                          | exact ⟨k + 1, by omega, by go_num, hu⟩
                          | ((repeat apply Exists.intro); refine And.intro ?r ?e; (case e => (first | rfl | (and_intros <;> rfl))); case r => exact ⟨k + 1, by omega, by go_num, hu⟩)
                      case measure => simp [intOf]; omega
                    · have hfs := HFS.out
                      rw [if_neg (by rw [hum]; rcases hcase with rfl | ⟨rfl, rfl⟩ | ⟨rfl, rfl, rfl⟩ | ⟨rfl, rfl, rfl, rfl⟩ <;> simp), List.append_nil] at hfs
                      have HFS2 := Lib.hid hfs
                      clear hum hfs
                      rcases hcase with rfl | ⟨rfl, rfl⟩ | ⟨rfl, rfl, rfl⟩ | ⟨rfl, rfl, rfl, rfl⟩
                      all_goals
                        go_wp2
                        go_roundw
                        case rel =>
                          refine ⟨k + 1, by omega, by go_num, ?_, HBT.out⟩
                          rw [HFS2.out]
                          exact HFAR.out
                        case measure => simp [intOf]; omega
              · obtain rfl : k = C.length := by omega
                have hown := HOWN.out
                rw [List.take_length] at hown
                have HO2 := Lib.hid hown
                clear hown
                go_wp2
                go_roundw
                case rel =>
                  refine ⟨n + 1, by omega, by go_num, ?_, HBO.out.trans (HBN.out.mono hso)⟩
                  rw [HNEXT.out]
                  exact ownsRow_rebase HO2.out hso
                case measure => simp [intOf]; omega
          · obtain rfl : n = 6 := by omega
            obtain ⟨ao, co, rfl, _⟩ := ownsRow_cells hown
            have HO2 := Lib.hid hown
            clear hown hbo HU0
            go_wp2
            go_ret
            exact ⟨ao, co, rfl, HO2.out, HBO.out⟩
end Go.Proofs.YtdnklmdmafbogaaDoor
