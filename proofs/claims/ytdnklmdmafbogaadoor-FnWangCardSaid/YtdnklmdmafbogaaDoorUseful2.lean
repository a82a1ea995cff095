/- Useful2: the walk of the program's UsefulWang. -/
import Derived.Test.YtdnklmdmafbogaaDoorUsefulA
import Derived.BigRegion
namespace Go.Proofs.YtdnklmdmafbogaaDoor
open Go.RowKit

def lenOf (v : Value) : Nat := match v with
  | .slice _ n _ => n
  | _ => 0
/-- What is left, from which the same comes in the end. -/
def UseC (w wr : World) (ts : List Tile) (v : Value) : Prop := ∃ C, Left ts C ∧ useIter ts 6 C = useful ts ∧ UseTo w wr C v
/-- Four cells that hold flags. -/
def Met4 (B : Nat) (c1 c2 c3 c4 : Bool) (w : World) : Prop :=
  w.ownsRow B 86 1 (.slice (some ⟨B, 0, none⟩) 4 4) 4 [.bool c1, .bool c2, .bool c3, .bool c4]
theorem Met4.new (w : World) : Met4 w.heap.size false false false false (w.alloc (.cells #[.bool false, .bool false, .bool false, .bool false] 86)) :=
  ⟨rfl, .inr ⟨w.heap.size, 4, #[.bool false, .bool false, .bool false, .bool false], rfl, Nat.le_refl _, heap_alloc_new w _, by decide, by decide, rfl, rfl⟩⟩
theorem Met4.cell {B : Nat} {c1 c2 c3 c4 : Bool} {w : World} (h : Met4 B c1 c2 c3 c4 w) : w.cell? ⟨B, 0, none⟩ = some (.bool c1) ∧ w.cell? ⟨B, 1, none⟩ = some (.bool c2) ∧ w.cell? ⟨B, 2, none⟩ = some (.bool c3) ∧ w.cell? ⟨B, 3, none⟩ = some (.bool c4) :=
  ⟨(h.cellAt 0 (by omega)).trans rfl, (h.cellAt 1 (by omega)).trans rfl, (h.cellAt 2 (by omega)).trans rfl, (h.cellAt 3 (by omega)).trans rfl⟩
theorem Met4.free {B : Nat} {c1 c2 c3 c4 : Bool} {w : World} (h : Met4 B c1 c2 c3 c4 w) (j : Nat) : w.frozen? ⟨B, j, none⟩ = false := h.frozenAt j
theorem Met4.set1 {B : Nat} {c1 c2 c3 c4 : Bool} {w : World} (h : Met4 B c1 c2 c3 c4 w) (c : Bool) : Met4 B c c2 c3 c4 ((w.setCell ⟨B, 0, none⟩ (.bool c)).drew) := ownsRow_drewN (h.stored 0 (.bool c)).1 1
theorem Met4.set2 {B : Nat} {c1 c2 c3 c4 : Bool} {w : World} (h : Met4 B c1 c2 c3 c4 w) (c : Bool) : Met4 B c1 c c3 c4 ((w.setCell ⟨B, 1, none⟩ (.bool c)).drew) := ownsRow_drewN (h.stored 1 (.bool c)).1 1
theorem Met4.set3 {B : Nat} {c1 c2 c3 c4 : Bool} {w : World} (h : Met4 B c1 c2 c3 c4 w) (c : Bool) : Met4 B c1 c2 c c4 ((w.setCell ⟨B, 2, none⟩ (.bool c)).drew) := ownsRow_drewN (h.stored 2 (.bool c)).1 1
theorem Met4.set4 {B : Nat} {c1 c2 c3 c4 : Bool} {w : World} (h : Met4 B c1 c2 c3 c4 w) (c : Bool) : Met4 B c1 c2 c3 c ((w.setCell ⟨B, 3, none⟩ (.bool c)).drew) := ownsRow_drewN (h.stored 3 (.bool c)).1 1

theorem arrEq (c1 c2 c3 c4 : Bool) (w : World) : Sem.run Tryd.prog (Op.equalIn 10000 86 (.agg #[.bool c1, .bool c2, .bool c3, .bool c4]) (.agg #[.bool true, .bool true, .bool true, .bool true])) w = .ok (c1 && c2 && c3 && c4) w := by
  cases c1 <;> cases c2 <;> cases c3 <;> cases c4 <;> kernel_rfl

set_option maxRecDepth 100000 in
set_option maxHeartbeats 8000000 in
theorem implUseful (ad : Option Addr) (c : Nat) (ts : List Tile) (w : World) (hn : ts.length ≤ 1048576) (hc : CellsAt w ad (wangs ts)) :
    Calls Tryd.prog 34 #[.slice ad ts.length c] w fun e w' => ∃ ad' cap', e = .returned (.slice ad' (useful ts).length cap') ∧
      w'.ownsRow w.heap.size 3 1 (.slice ad' (useful ts).length cap') (useful ts).length (ints (nats (useful ts))) ∧ Below w.heap.size w w' := by
  have hare := implAre ad c ts w hn hc
  have HC := Lib.hid hc
  clear hc
  by_cases hW : Wangs ts
  · rw [decide_eq_true hW] at hare
    have HARE := Lib.hid hare
    have h6 : ts.length ≤ 6 := hW.2.2
    have hst : useStart ts = List.range ts.length := if_pos hW
    have HST := Lib.hid hst
    clear hare hW hst
    go_enter Tryd.func34, Tryd.ntmps34
    go_wp2_with fail
    refine HARE.out.mono ?_
    rintro e w1 ⟨rfl, hb1⟩
    have HB1 := Lib.hid hb1
    clear hb1
    go_wp2_with fail
    go_loopw [3, 16] (fun v i wr => ∃ k : Nat, k ≤ ts.length ∧ i = .int .i64 k ∧ UseTo w wr (List.range k) v) (fun _ i _ => ts.length - (intOf i).toNat)
    case atStart => exact ⟨0, by omega, rfl, World.ownsRow_nil _ _ _ _, HB1.out⟩
    case round =>
      obtain ⟨k, hk, rfl, hown, hb⟩ := hrel
      obtain ⟨wq, rfl⟩ : ∃ wq : World, wq = wr := ⟨_, rfl⟩
      have hsz := hb.size
      rw [List.length_range] at hown
      have HOWN := Lib.hid hown
      have HB := Lib.hid hb
      clear hown hb
      by_cases hlt : k < ts.length
      · go_wp2_with (at_builtin; refine wpList_app1 rfl (.tmp 19) (.tmp 21) 37 rfl w.heap.size 3 _ 1 8 Tryd.elemInt _ k _ _ _ _ rfl rfl rfl HOWN.out (by rfl) (by simp [Value.oneCell']) (by unfold maxLen; omega) (by omega) (by omega) ?_; intro g' cap w3 q1 q2 q3 q4 q5 q6)
        go_roundw
        case rel =>
          have hu : UseTo w w3 (List.range (k + 1)) (.slice (some ⟨g', 0, none⟩) (k + 1) cap) := by
            refine ⟨?_, HB.out.trans q2⟩
            rw [List.length_range, List.range_succ, nats_snoc, ints_append]
            exact q1
          first | exact ⟨k + 1, by omega, by go_num, hu⟩ | exact ⟨_, _, _, ⟨k + 1, by omega, by go_num, hu⟩, rfl, rfl, rfl⟩
        case measure => simp [intOf]; omega
      · obtain rfl : k = ts.length := by omega
        have hu0 : UseC w wq ts u3 := ⟨List.range ts.length, by rw [← HST.out]; exact left_start ts, by rw [← HST.out]; rfl, by show wq.ownsRow w.heap.size 3 1 u3 (List.range ts.length).length _; rw [List.length_range]; exact HOWN.out, HB.out⟩
        have HU0 := Lib.hid hu0
        clear hu0 HOWN
        go_wp2
        go_loopw [3] (fun v wr => UseC w wr ts v) (fun v _ => lenOf v)
        case atStart => exact HU0.out
        case round =>
          obtain ⟨C, hleft, hfin, hown, hbo⟩ := hrel
          obtain ⟨wo, rfl⟩ : ∃ wo : World, wo = wr := ⟨_, rfl⟩
          obtain ⟨ao, co, rfl, hco⟩ := ownsRow_cells hown
          have HBO := Lib.hid hbo
          have hso := hbo.size
          have hC6 := hleft.1
          have hil : (ints (nats C)).length = C.length := by rw [ints_length, nats_length]
          have HLEFT := Lib.hid hleft
          have HFIN := Lib.hid hfin
          have HCO := Lib.hid hco
          have HIL := Lib.hid hil
          clear hown hbo hleft hfin hco hil HU0
          go_wp2
          go_loopw [5, 26] (fun v i wr => ∃ k : Nat, k ≤ C.length ∧ i = .int .i64 k ∧ UseTo wo wr ((C.take k).filter (useB ts C)) v) (fun _ i _ => C.length - (intOf i).toNat)
          case atStart => exact ⟨0, by omega, rfl, by simpa [nats, ints] using World.ownsRow_nil _ _ _ _, Below.refl _ _⟩
          case round =>
            obtain ⟨k, hk, rfl, hown, hbn⟩ := hrel
            obtain ⟨wp, rfl⟩ : ∃ wp : World, wp = wr := ⟨_, rfl⟩
            have HOWN := Lib.hid hown
            have HBN := Lib.hid hbn
            have hsn := hbn.size
            clear hown hbn
            by_cases hlt : k < C.length
            · have hi0 : C[k] < ts.length := HLEFT.out.2 _ (List.getElem_mem hlt)
              have hfs := filter_take_succ (p := useB ts C) hlt
              have hum := useB_met ts C C[k]
              have hck : (ints (nats C))[k]? = some (.int .i64 (C[k] : Nat)) := natsC_at hlt
              obtain ⟨i0, hii⟩ : ∃ i0, i0 = C[k] := ⟨_, rfl⟩
              rw [← hii] at hi0 hfs hum hck
              obtain ⟨F, hF⟩ : ∃ F, F = (C.take k).filter (useB ts C) := ⟨_, rfl⟩
              rw [← hF] at hfs
              have hFl : F.length ≤ 6 := by
                rw [hF]
                exact Nat.le_trans (List.length_filter_le _ _) (by rw [List.length_take]; omega)
              have hown := HOWN.out
              rw [← hF] at hown
              have HOF := Lib.hid hown
              have HFS := Lib.hid hfs
              have HUM := Lib.hid hum
              have hbw : Below w.heap.size w wp := HBO.out.trans (HBN.out.mono hso)
              obtain ⟨g, off, rfl, hg, hcc⟩ := wang_open HC.out (by omega)
              have htl := Tl_eq hi0
              obtain ⟨z0, z1, z2, z3⟩ := hcc i0 hi0
              generalize ts[i0] = x at z0 z1 z2 z3 htl
              obtain ⟨go, oo, rfl, hgo, hco⟩ := HCO.out.open (by rw [HIL.out]; omega)
              have y0 := (HBN.out.cell (p := ⟨go, oo + k, none⟩) hgo).trans (hco k _ hck)
              have HCC := Lib.hid hcc
              have HCOO := Lib.hid hco
              have HBW := Lib.hid hbw
              have HTL := Lib.hid htl
              obtain ⟨xa, xb, xc, xd⟩ := x
              simp only at z0 z1 z2 z3
              have Z := Lib.hid (And.intro z0 (And.intro z1 (And.intro z2 z3)))
              clear hii hF hown hfs hum hck hbw hcc hco htl z0 z1 z2 z3
              go_wp2
              go_loopw [32] (fun i wr => ∃ j : Nat, j ≤ C.length ∧ i = .int .i64 j ∧ Met4 wp.heap.size (met ts pT C i0 j) (met ts pR C i0 j) (met ts pB C i0 j) (met ts pL C i0 j) wr ∧ Below wp.heap.size wp wr) (fun i _ => C.length - (intOf i).toNat)
              case atStart => exact ⟨0, by omega, rfl, by rw [met_zero, met_zero, met_zero, met_zero]; exact Met4.new wp, (Below.refl _ _).alloc (Nat.le_refl _) _⟩
              case round =>
                obtain ⟨j, hj, rfl, hm, hbr⟩ := hrel
                obtain ⟨wx0, rfl⟩ : ∃ wx0 : World, wx0 = wr := ⟨_, rfl⟩
                have hsr := hbr.size
                have HBR0 := Lib.hid hbr
                clear hbr y0
                by_cases hlj : j < C.length
                · have hj0 : C[j] < ts.length := HLEFT.out.2 _ (List.getElem_mem hlj)
                  have hcj : (ints (nats C))[j]? = some (.int .i64 (C[j] : Nat)) := natsC_at hlj
                  have m1 := met_succ ts pT i0 hlj
                  have m2 := met_succ ts pR i0 hlj
                  have m3 := met_succ ts pB i0 hlj
                  have m4 := met_succ ts pL i0 hlj
                  obtain ⟨j0, hjj⟩ : ∃ j0, j0 = C[j] := ⟨_, rfl⟩
                  rw [← hjj] at hj0 hcj m1 m2 m3 m4
                  rw [HTL.out] at m1 m2 m3 m4
                  rw [Tl_eq hj0] at m1 m2 m3 m4
                  have r := HCC.out j0 hj0
                  have u0 := (HBR0.out.cell (p := ⟨go, oo + j, none⟩) (by show go < wp.heap.size; omega)).trans ((HBN.out.cell (p := ⟨go, oo + j, none⟩) hgo).trans (HCOO.out j _ hcj))
                  generalize ts[j0] = y at r m1 m2 m3 m4
                  obtain ⟨ya, yb, yc, yd⟩ := y
                  simp only [pT, pR, pB, pL] at r m1 m2 m3 m4
                  have R := Lib.hid r
                  obtain ⟨b1, hb1⟩ : ∃ b, b = met ts pT C i0 j := ⟨_, rfl⟩
                  obtain ⟨b2, hb2⟩ : ∃ b, b = met ts pR C i0 j := ⟨_, rfl⟩
                  obtain ⟨b3, hb3⟩ : ∃ b, b = met ts pB C i0 j := ⟨_, rfl⟩
                  obtain ⟨b4, hb4⟩ : ∃ b, b = met ts pL C i0 j := ⟨_, rfl⟩
                  rw [← hb1, ← hb2, ← hb3, ← hb4] at hm
                  obtain ⟨n1, hn1⟩ : ∃ b, b = met ts pT C i0 (j + 1) := ⟨_, rfl⟩
                  obtain ⟨n2, hn2⟩ : ∃ b, b = met ts pR C i0 (j + 1) := ⟨_, rfl⟩
                  obtain ⟨n3, hn3⟩ : ∃ b, b = met ts pB C i0 (j + 1) := ⟨_, rfl⟩
                  obtain ⟨n4, hn4⟩ : ∃ b, b = met ts pL C i0 (j + 1) := ⟨_, rfl⟩
                  rw [← hb1, ← hn1] at m1
                  rw [← hb2, ← hn2] at m2
                  rw [← hb3, ← hn3] at m3
                  rw [← hb4, ← hn4] at m4
                  have M1 := Lib.hid m1
                  have M2 := Lib.hid m2
                  have M3 := Lib.hid m3
                  have M4 := Lib.hid m4
                  have N1 := Lib.hid hn1
                  have N2 := Lib.hid hn2
                  have N3 := Lib.hid hn3
                  have N4 := Lib.hid hn4
                  have HM0 := Lib.hid hm
                  clear m1 m2 m3 m4 hn1 hn2 hn3 hn4 hb1 hb2 hb3 hb4 r hcj hjj hm
                  go_upto_region 17 with (fail)
                  have hbt1 : Below w.heap.size w wx0 := HBW.out.trans (HBR0.out.mono (by omega))
                  have zx1 := (hbt1.cell (p := ⟨g, off + i0 * 4, none⟩) hg).trans Z.out.1
                  have zy1 := (hbt1.cell (p := ⟨g, off + j0 * 4 + 2, none⟩) hg).trans R.out.2.2.1
                  obtain ⟨k0, k1, k2, k3⟩ := HM0.out.cell
                  have kf := HM0.out.free 0
                  clear hbt1
                  go_cut [50] (fun _ wx1 => Met4 wp.heap.size n1 b2 b3 b4 wx1 ∧ Below wp.heap.size wp wx1)
                  case first =>
                    cases b1
                    · go_still_tail 16, (by kernel_rfl)
                      go_wp2_with fail
                      go_meet
                      refine ⟨?_, (HBR0.out.setCell (Nat.le_refl _) _).drew⟩
                      rw [M1.out]; simp only [Bool.false_or]; exact HM0.out.set1 _
                    · go_region
                      go_wp2_with fail
                      go_meet
                      refine ⟨?_, (HBR0.out.setCell (Nat.le_refl _) _).drew⟩
                      rw [M1.out]; simp only [Bool.true_or]; exact HM0.out.set1 _
                  case rest =>
                    rename World => wx1
                    obtain ⟨hm, hbr⟩ := hcut
                    have HM1 := Lib.hid hm
                    have HBR1 := Lib.hid hbr
                    have hsr1 := hbr.size
                    clear hm hbr zx1 zy1 k0 k1 k2 k3 kf
                    go_upto_region 18 with (fail)
                    have hbt2 : Below w.heap.size w wx1 := HBW.out.trans (HBR1.out.mono (by omega))
                    have zx2 := (hbt2.cell (p := ⟨g, off + i0 * 4 + 1, none⟩) hg).trans Z.out.2.1
                    have zy2 := (hbt2.cell (p := ⟨g, off + j0 * 4 + 3, none⟩) hg).trans R.out.2.2.2
                    obtain ⟨k0, k1, k2, k3⟩ := HM1.out.cell
                    have kf := HM1.out.free 1
                    clear hbt2
                    go_cut [66] (fun _ wx2 => Met4 wp.heap.size n1 n2 b3 b4 wx2 ∧ Below wp.heap.size wp wx2)
                    case first =>
                      cases b2
                      · go_still_tail 16, (by kernel_rfl)
                        go_wp2_with fail
                        go_meet
                        refine ⟨?_, (HBR1.out.setCell (Nat.le_refl _) _).drew⟩
                        rw [M2.out]; simp only [Bool.false_or]; exact HM1.out.set2 _
                      · go_region
                        go_wp2_with fail
                        go_meet
                        refine ⟨?_, (HBR1.out.setCell (Nat.le_refl _) _).drew⟩
                        rw [M2.out]; simp only [Bool.true_or]; exact HM1.out.set2 _
                    case rest =>
                      rename World => wx2
                      obtain ⟨hm, hbr⟩ := hcut
                      have HM2 := Lib.hid hm
                      have HBR2 := Lib.hid hbr
                      have hsr2 := hbr.size
                      clear hm hbr zx2 zy2 k0 k1 k2 k3 kf
                      go_upto_region 19 with (fail)
                      have hbt3 : Below w.heap.size w wx2 := HBW.out.trans (HBR2.out.mono (by omega))
                      have zx3 := (hbt3.cell (p := ⟨g, off + i0 * 4 + 2, none⟩) hg).trans Z.out.2.2.1
                      have zy3 := (hbt3.cell (p := ⟨g, off + j0 * 4, none⟩) hg).trans R.out.1
                      obtain ⟨k0, k1, k2, k3⟩ := HM2.out.cell
                      have kf := HM2.out.free 2
                      clear hbt3
                      go_cut [82] (fun _ wx3 => Met4 wp.heap.size n1 n2 n3 b4 wx3 ∧ Below wp.heap.size wp wx3)
                      case first =>
                        cases b3
                        · go_still_tail 16, (by kernel_rfl)
                          go_wp2_with fail
                          go_meet
                          refine ⟨?_, (HBR2.out.setCell (Nat.le_refl _) _).drew⟩
                          rw [M3.out]; simp only [Bool.false_or]; exact HM2.out.set3 _
                        · go_region
                          go_wp2_with fail
                          go_meet
                          refine ⟨?_, (HBR2.out.setCell (Nat.le_refl _) _).drew⟩
                          rw [M3.out]; simp only [Bool.true_or]; exact HM2.out.set3 _
                      case rest =>
                        rename World => wx3
                        obtain ⟨hm, hbr⟩ := hcut
                        have HM3 := Lib.hid hm
                        have HBR3 := Lib.hid hbr
                        have hsr3 := hbr.size
                        clear hm hbr zx3 zy3 k0 k1 k2 k3 kf
                        have hbt4 : Below w.heap.size w wx3 := HBW.out.trans (HBR3.out.mono (by omega))
                        have zx4 := (hbt4.cell (p := ⟨g, off + i0 * 4 + 3, none⟩) hg).trans Z.out.2.2.2
                        have zy4 := (hbt4.cell (p := ⟨g, off + j0 * 4 + 1, none⟩) hg).trans R.out.2.1
                        obtain ⟨k0, k1, k2, k3⟩ := HM3.out.cell
                        have kf := HM3.out.free 3
                        clear hbt4
                        go_upto_region 20 with (fail)
                        cases b4
                        · go_still_tail 16, (by kernel_rfl)
                          go_wp2
                          go_roundw
                          case rel =>
                            refine ⟨j + 1, by omega, by go_num, ?_, (HBR3.out.setCell (Nat.le_refl _) _).drew⟩
                            rw [← N1.out, ← N2.out, ← N3.out, ← N4.out, M4.out]
                            simp only [Bool.false_or]
                            exact HM3.out.set4 _
                          case measure => simp [intOf]; omega
                        · go_region
                          go_wp2
                          go_roundw
                          case rel =>
                            refine ⟨j + 1, by omega, by go_num, ?_, (HBR3.out.setCell (Nat.le_refl _) _).drew⟩
                            rw [← N1.out, ← N2.out, ← N3.out, ← N4.out, M4.out]
                            simp only [Bool.true_or]
                            exact HM3.out.set4 _
                          case measure => simp [intOf]; omega
                · obtain rfl : j = C.length := by omega
                  have hum := HUM.out
                  obtain ⟨b1, hb1⟩ : ∃ b, b = met ts pT C i0 C.length := ⟨_, rfl⟩
                  obtain ⟨b2, hb2⟩ : ∃ b, b = met ts pR C i0 C.length := ⟨_, rfl⟩
                  obtain ⟨b3, hb3⟩ : ∃ b, b = met ts pB C i0 C.length := ⟨_, rfl⟩
                  obtain ⟨b4, hb4⟩ : ∃ b, b = met ts pL C i0 C.length := ⟨_, rfl⟩
                  rw [← hb1, ← hb2, ← hb3, ← hb4] at hum hm
                  have hfar := ownsRow_far_below HOF.out HBR0.out (Nat.le_refl _)
                  have HFAR := Lib.hid hfar
                  have HBT := Lib.hid (HBN.out.trans (HBR0.out.mono hsn))
                  have hcase : (b1 = true ∧ b2 = true ∧ b3 = true ∧ b4 = true) ∨ (b1 && b2 && b3 && b4) = false := by
                    cases b1 <;> cases b2 <;> cases b3 <;> cases b4 <;> simp
                  obtain ⟨k0, k1, k2, k3⟩ := hm.cell
                  clear hb1 hb2 hb3 hb4 hfar hm
                  rcases hcase with ⟨rfl, rfl, rfl, rfl⟩ | hcase
                  · have hfs := HFS.out
                    rw [if_pos (by rw [hum]; rfl)] at hfs
                    have HFS2 := Lib.hid hfs
                    have heq : Sem.run Tryd.prog (Op.equalIn 10000 86 (.agg #[.bool true, .bool true, .bool true, .bool true]) (.agg #[.bool true, .bool true, .bool true, .bool true])) wx0 = .ok true wx0 := arrEq true true true true wx0
                    clear hum hfs
                    go_wp2_with (at_builtin; refine wpList_app1 rfl (.tmp 104) (.tmp 106) 37 rfl wo.heap.size 3 _ 1 8 Tryd.elemInt _ F.length _ _ _ _ rfl rfl rfl HFAR.out (by rfl) (by simp [Value.oneCell']) (by unfold maxLen; omega) (by omega) (by omega) ?_; intro g' cap w3 q1 q2 q3 q4 q5 q6)
                    go_roundw
                    case rel =>
                      have hu : UseTo wo w3 ((C.take (k + 1)).filter (useB ts C)) (.slice (some ⟨g', 0, none⟩) (F.length + 1) cap) := by
                        refine ⟨?_, HBT.out.trans q2⟩
                        rw [HFS2.out, List.length_append, List.length_singleton, nats_snoc, ints_append]
                        exact q1
                      first
                        | exact ⟨k + 1, by omega, by go_num, hu⟩
                        | ((repeat apply Exists.intro); refine And.intro ?r ?e; (case e => (first | rfl | (and_intros <;> rfl))); case r => exact ⟨k + 1, by omega, by go_num, hu⟩)
                    case measure => simp [intOf]; omega
                  · have hfs := HFS.out
                    rw [if_neg (by rw [hum, hcase]; simp), List.append_nil] at hfs
                    have hu : UseTo wo wx0 ((C.take (k + 1)).filter (useB ts C)) _ := ⟨by rw [hfs]; exact HFAR.out, HBT.out⟩
                    have HU := Lib.hid hu
                    have heq := arrEq b1 b2 b3 b4 wx0
                    rw [hcase] at heq
                    clear hum hfs hu hcase
                    go_wp2
                    go_roundw
                    case rel =>
                      first
                        | exact ⟨k + 1, by omega, by go_num, HU.out⟩
                        | ((repeat apply Exists.intro); refine And.intro ?r ?e; (case e => (first | rfl | (and_intros <;> rfl))); case r => exact ⟨k + 1, by omega, by go_num, HU.out⟩)
                    case measure => simp [intOf]; omega
            · obtain rfl : k = C.length := by omega
              have hown := HOWN.out
              rw [List.take_length] at hown
              have hD : C.filter (useB ts C) = useStep ts C := rfl
              rw [hD] at hown
              obtain ⟨D, hDD⟩ : ∃ D, D = useStep ts C := ⟨_, rfl⟩
              rw [← hDD] at hown
              obtain ⟨ad5, c5, rfl, _⟩ := ownsRow_cells hown
              have hDl : D.length ≤ C.length := by rw [hDD]; exact useStep_le ts C
              have HO := Lib.hid (ownsRow_rebase hown hso)
              have HBT := Lib.hid (HBO.out.trans (HBN.out.mono hso))
              have HDD := Lib.hid hDD
              clear hown hD hDD HOWN
              by_cases he : D.length = C.length
              · have hfinal : useful ts = D := by
                  have hs : useStep ts C = C := useStep_same (by rw [← HDD.out]; exact he)
                  have h1 := useIter_same hs 6
                  rw [← HFIN.out, h1, HDD.out, hs]
                have hq : ((D.length : Int) == (C.length : Int)) = true := by simp; omega
                have HFINAL := Lib.hid hfinal
                clear he hfinal
                go_wp2
                go_ret
                rw [HFINAL.out]
                exact ⟨ad5, c5, rfl, HO.out, HBT.out⟩
              · have hq : ((D.length : Int) == (C.length : Int)) = false := by simp; omega
                have hlt : D.length < C.length := by omega
                have hu : UseC w wp ts (.slice ad5 D.length c5) := ⟨D, by rw [HDD.out]; exact HLEFT.out.step, by rw [HDD.out, useIter_step hC6]; exact HFIN.out, HO.out, HBT.out⟩
                have HU := Lib.hid hu
                clear he hu
                go_wp2
                go_roundw
                case rel => first | exact HU.out | ((repeat apply Exists.intro); refine And.intro ?r ?e; (case e => (first | rfl | (and_intros <;> rfl))); case r => exact HU.out)
                case measure => simp [lenOf]; omega
  · rw [decide_eq_false hW] at hare
    have HARE := Lib.hid hare
    have hst : useful ts = [] := by
      have h0 : useStart ts = [] := if_neg hW
      unfold useful
      rw [h0]
      have h1 : useStep ts [] = [] := rfl
      exact useIter_same h1 6
    rw [hst]
    clear hare hW hst
    go_enter Tryd.func34, Tryd.ntmps34
    go_wp2_with fail
    refine HARE.out.mono ?_
    rintro e w1 ⟨rfl, hb1⟩
    go_wp2
    go_ret
    exact ⟨none, 0, rfl, World.ownsRow_nil _ _ _ _, hb1⟩
end Go.Proofs.YtdnklmdmafbogaaDoor
