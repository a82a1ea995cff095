/- AllShape: parts laid together: Shape1, ShapeS, ShapeI. -/
import Derived.Test.YtajmdgcnnipdoaaGreatDoorAllHead
import Derived.Test.YtajmdgcnnipdoaaGreatDoorAllBase
import Derived.Test.YtajmdgcnnipdoaaGreatDoorAllFrame
import Derived.Deep.RegionHeld3
import Derived.Deep.DrawnRows
import Derived.Deep.Cut
import Derived.BigQuiet
import Derived.IntWalk

/- Shape1: the walks of the order of cells and of onBoard, the reference's and the program's. -/
namespace Go.Proofs.YtajmdgcnnipdoaaGreatDoor
open Go.RowKit

attribute [local go_sem ↓] Go.wp_at_zero Go.wp_at_succ

set_option maxHeartbeats 800000 in
theorem specBefore (ax ay bx by' : Int) (w : World) :
    Calls Tryz.prog 126 #[.agg #[.int .i64 ax, .int .i64 ay], .agg #[.int .i64 bx, .int .i64 by']] w fun e w' => e = .returned (.bool (ltC ⟨ax, ay⟩ ⟨bx, by'⟩)) ∧ Below w.heap.size w w' := by
  have hdef : ltC ⟨ax, ay⟩ ⟨bx, by'⟩ = (decide (ay < by') || (decide (ay = by') && decide (ax < bx))) := rfl
  by_cases h1 : ay < by'
  · have hv : ltC ⟨ax, ay⟩ ⟨bx, by'⟩ = true := by rw [hdef]; simp [h1]
    rw [hv]
    have d1 : decide (ay < by') = true := decide_eq_true h1
    clear hdef hv
    go_enter Tryz.func126, Tryz.ntmps126
    go_wp2
    go_ret
    exact ⟨rfl, by go_grown⟩
  · have d1 : decide (ay < by') = false := decide_eq_false h1
    by_cases h2 : ay = by'
    · have b2 : (ay == by') = true := by simp [h2]
      have hv : ltC ⟨ax, ay⟩ ⟨bx, by'⟩ = decide (ax < bx) := by rw [hdef]; simp [h2]
      rw [hv]
      clear hdef hv h2
      by_cases h3 : ax < bx
      · have d3 : decide (ax < bx) = true := decide_eq_true h3
        rw [d3]
        go_enter Tryz.func126, Tryz.ntmps126
        go_wp2
        go_ret
        exact ⟨rfl, by go_grown⟩
      · have d3 : decide (ax < bx) = false := decide_eq_false h3
        rw [d3]
        go_enter Tryz.func126, Tryz.ntmps126
        go_wp2
        go_ret
        exact ⟨rfl, by go_grown⟩
    · have b2 : (ay == by') = false := by simp [h2]
      have hv : ltC ⟨ax, ay⟩ ⟨bx, by'⟩ = false := by rw [hdef]; simp [h1, h2]
      rw [hv]
      clear hdef hv h2
      go_enter Tryz.func126, Tryz.ntmps126
      go_wp2
      go_ret
      exact ⟨rfl, by go_grown⟩

set_option maxHeartbeats 800000 in
theorem implBefore (ax ay bx by' : Int) (w : World) :
    Calls Tryz.prog 125 #[.agg #[.int .i64 ax, .int .i64 ay], .agg #[.int .i64 bx, .int .i64 by']] w fun e w' => e = .returned (.bool (ltC ⟨ax, ay⟩ ⟨bx, by'⟩)) ∧ Below w.heap.size w w' := by
  have hdef : ltC ⟨ax, ay⟩ ⟨bx, by'⟩ = (decide (ay < by') || (decide (ay = by') && decide (ax < bx))) := rfl
  by_cases h1 : ay < by'
  · have hv : ltC ⟨ax, ay⟩ ⟨bx, by'⟩ = true := by rw [hdef]; simp [h1]
    rw [hv]
    have d1 : decide (ay < by') = true := decide_eq_true h1
    clear hdef hv
    go_enter Tryz.func125, Tryz.ntmps125
    go_wp2
    go_ret
    exact ⟨rfl, by go_grown⟩
  · have d1 : decide (ay < by') = false := decide_eq_false h1
    by_cases h2 : ay = by'
    · have b2 : (ay == by') = true := by simp [h2]
      have hv : ltC ⟨ax, ay⟩ ⟨bx, by'⟩ = decide (ax < bx) := by rw [hdef]; simp [h2]
      rw [hv]
      clear hdef hv h2
      by_cases h3 : ax < bx
      · have d3 : decide (ax < bx) = true := decide_eq_true h3
        rw [d3]
        go_enter Tryz.func125, Tryz.ntmps125
        go_wp2
        go_ret
        exact ⟨rfl, by go_grown⟩
      · have d3 : decide (ax < bx) = false := decide_eq_false h3
        rw [d3]
        go_enter Tryz.func125, Tryz.ntmps125
        go_wp2
        go_ret
        exact ⟨rfl, by go_grown⟩
    · have b2 : (ay == by') = false := by simp [h2]
      have hv : ltC ⟨ax, ay⟩ ⟨bx, by'⟩ = false := by rw [hdef]; simp [h1, h2]
      rw [hv]
      clear hdef hv h2
      go_enter Tryz.func125, Tryz.ntmps125
      go_wp2
      go_ret
      exact ⟨rfl, by go_grown⟩

set_option maxHeartbeats 800000 in
theorem implOnB (x y : Int) (w : World) :
    Calls Tryz.prog 124 #[.agg #[.int .i64 x, .int .i64 y]] w fun e w' => e = .returned (.bool (decide (OnB ⟨x, y⟩))) ∧ Below w.heap.size w w' := by
  by_cases h1 : 0 ≤ x ∧ x ≤ 7
  · by_cases h2 : 0 ≤ y ∧ y ≤ 7
    · rw [decide_eq_true (show OnB ⟨x, y⟩ from ⟨h1, h2⟩)]
      obtain ⟨a1, a2⟩ := h1
      obtain ⟨b1, b2⟩ := h2
      go_enter Tryz.func124, Tryz.ntmps124
      go_wp2_with (go_at_call 98; refine (between_yes _ _ _ _ (by omega) (by omega)).mono ?_; rintro e w' ⟨rfl, rfl⟩)
      go_ret
      exact ⟨rfl, by go_grown⟩
    · rw [decide_eq_false (show ¬ OnB ⟨x, y⟩ from fun q => h2 q.2)]
      have H2 := Lib.hid (show y < 0 ∨ 7 < y by omega)
      obtain ⟨a1, a2⟩ := h1
      clear h2
      go_enter Tryz.func124, Tryz.ntmps124
      go_wp2_with fail
      refine (between_yes _ _ _ _ a1 a2).mono ?_
      rintro e w' ⟨rfl, rfl⟩
      go_wp2_with fail
      refine (between_no _ _ _ _ H2.out).mono ?_
      rintro e w' ⟨rfl, rfl⟩
      go_wp2
      go_ret
      exact ⟨rfl, by go_grown⟩
  · rw [decide_eq_false (show ¬ OnB ⟨x, y⟩ from fun q => h1 q.1)]
    have H1 := Lib.hid (show x < 0 ∨ 7 < x by omega)
    clear h1
    go_enter Tryz.func124, Tryz.ntmps124
    go_wp2_with fail
    refine (between_no _ _ _ _ H1.out).mono ?_
    rintro e w' ⟨rfl, rfl⟩
    go_wp2
    go_ret
    exact ⟨rfl, by go_grown⟩
end Go.Proofs.YtajmdgcnnipdoaaGreatDoor

/- ShapeS: the walk of IsShape, the reference's. -/
namespace Go.Proofs.YtajmdgcnnipdoaaGreatDoor
open Go.RowKit

attribute [local go_sem ↓] Go.wp_at_zero Go.wp_at_succ

set_option maxRecDepth 100000 in
set_option maxHeartbeats 3200000 in
theorem specShape (ad : Option Addr) (c : Nat) (l : List Cl) (w : World) (hn : l.length ≤ 1048576) (hc : CellsAt w ad (cls l)) :
    Calls Tryz.prog 81 #[.slice ad l.length c] w fun e w' => e = .returned (.bool (decide (Shape l))) ∧ Below w.heap.size w w' := by
  have HC := Lib.hid hc
  clear hc
  go_enter Tryz.func81, Tryz.ntmps81
  go_wp2
  go_loopw [3] (fun i wr => ∃ k : Nat, k ≤ l.length ∧ i = .int .i64 k ∧ okTo l k ∧ Below w.heap.size w wr) (fun i _ => l.length - (intOf i).toNat)
  case atStart => exact ⟨0, by omega, rfl, okTo_zero l, Below.refl _ _⟩
  case round =>
    obtain ⟨k, hk, rfl, hok, hb⟩ := hrel
    have HOK := Lib.hid hok
    have HB := Lib.hid hb
    have hszr := hb.size
    clear hok hb
    by_cases hlt : k < l.length
    · obtain ⟨g, off, rfl, hg, hcc⟩ := cl_open (HC.out.below HB.out) (by omega)
      obtain ⟨x0, x1⟩ := hcc k hlt
      have hno := fun h => not_shape (l := l) (k := k) hlt h
      have hsucc := fun h1 h2 => okTo_succ HOK.out hlt h1 h2
      have i1 : (k : Int) < (l.length : Int) := by omega
      generalize hd : l[k] = d at x0 x1 hno hsucc
      obtain ⟨dx, dy⟩ := d
      simp only at x0 x1
      have HCC := Lib.hid hcc
      clear hcc hd
      by_cases hx : 0 ≤ dx ∧ dx ≤ 7
      · obtain ⟨hx1, hx2⟩ := hx
        by_cases hy : 0 ≤ dy ∧ dy ≤ 7
        · obtain ⟨hy1, hy2⟩ := hy
          by_cases hk0 : k = 0
          · have d0n : decide (0 < k) = false := by simp [hk0]
            have HS := Lib.hid (hsucc ⟨⟨hx1, hx2⟩, hy1, hy2⟩ (fun h => absurd hk0 (by omega)))
            clear hno hsucc hk0
            go_wp2
            go_big_quiet ((go_at_call 82; first | exact quiet_same (l1In_yes _ _ _ _ (by omega) (by omega)) | exact quiet_same (l1In_no _ _ _ _ (by omega))))
            all_goals go_wp2
            all_goals go_roundw
            case rel => exact ⟨k + 1, by omega, by go_num, HS.out, below_drewN HB.out _⟩
            case measure => simp [intOf]; omega
          · have d0n : decide (0 < k) = true := by simp; omega
            obtain ⟨m, hm⟩ : ∃ m, m = k - 1 := ⟨_, rfl⟩
            have hml : m < l.length := by omega
            obtain ⟨p0, p1⟩ := HCC.out m hml
            rw [← hm, getDG hml] at hno hsucc
            generalize hp : l[m] = p at p0 p1 hno hsucc
            obtain ⟨px, py⟩ := p
            simp only at p0 p1
            have i2 : (k : Int) - 1 = (m : Int) := by omega
            have i3 : (m : Int) < (l.length : Int) := by omega
            have i4 : (0 : Int) ≤ (m : Int) := by omega
            have i5 : IntKind.i64.wrap (m : Int) = (m : Int) := IntWalk.i64_in _ (by omega)
            have hk1 : 1 ≤ k := by omega
            have hbf := fun w => specBefore px py dx dy w
            clear hp
            cases hlt2 : ltC ⟨px, py⟩ ⟨dx, dy⟩ with
            | true =>
              rw [hlt2] at hbf
              have HS := Lib.hid (hsucc ⟨⟨hx1, hx2⟩, hy1, hy2⟩ (fun _ => hlt2))
              have HBF := Lib.hid hbf
              clear hno hsucc hk0 hbf hlt2 hm
              go_wp2
              go_region_held3 (fun w' => w'.cell? ⟨g, off + k * 2, none⟩ = some (.int .i64 dx) ∧ w'.cell? ⟨g, off + k * 2 + 1, none⟩ = some (.int .i64 dy) ∧ w'.cell? ⟨g, off + m * 2, none⟩ = some (.int .i64 px) ∧ w'.cell? ⟨g, off + m * 2 + 1, none⟩ = some (.int .i64 py)) (first | go_keep | exact ⟨(hb2.cell (p := ⟨g, off + k * 2, none⟩) (by simp; omega)).trans x0, (hb2.cell (p := ⟨g, off + k * 2 + 1, none⟩) (by simp; omega)).trans x1, (hb2.cell (p := ⟨g, off + m * 2, none⟩) (by simp; omega)).trans p0, (hb2.cell (p := ⟨g, off + m * 2 + 1, none⟩) (by simp; omega)).trans p1⟩) (first | (go_at_call 82; refine (l1In_yes _ _ _ _ (by omega) (by omega)).mono ?_; rintro e w' ⟨rfl, rfl⟩) | (go_at_call 126; refine (HBF.out _).mono ?_; rintro e w2 ⟨rfl, hb2⟩))
              all_goals go_wp2
              all_goals go_roundw
              case rel => exact ⟨k + 1, by omega, by go_num, HS.out, HB.out.trans (((Below.refl _ _).drew.trans (hb2.mono (Nat.le_refl _))).mono hszr)⟩
              case measure => simp [intOf]; omega
            | false =>
              rw [hlt2] at hbf
              have HNO := Lib.hid (hno (fun q => by have := q.2 (by omega); rw [hlt2] at this; cases this))
              have HBF := Lib.hid hbf
              clear hno hsucc hk0 hbf hlt2 hm
              go_wp2
              go_region_held3 (fun w' => w'.cell? ⟨g, off + k * 2, none⟩ = some (.int .i64 dx) ∧ w'.cell? ⟨g, off + k * 2 + 1, none⟩ = some (.int .i64 dy) ∧ w'.cell? ⟨g, off + m * 2, none⟩ = some (.int .i64 px) ∧ w'.cell? ⟨g, off + m * 2 + 1, none⟩ = some (.int .i64 py)) (first | go_keep | exact ⟨(hb2.cell (p := ⟨g, off + k * 2, none⟩) (by simp; omega)).trans x0, (hb2.cell (p := ⟨g, off + k * 2 + 1, none⟩) (by simp; omega)).trans x1, (hb2.cell (p := ⟨g, off + m * 2, none⟩) (by simp; omega)).trans p0, (hb2.cell (p := ⟨g, off + m * 2 + 1, none⟩) (by simp; omega)).trans p1⟩) (first | (go_at_call 82; refine (l1In_yes _ _ _ _ (by omega) (by omega)).mono ?_; rintro e w' ⟨rfl, rfl⟩) | (go_at_call 126; refine (HBF.out _).mono ?_; rintro e w2 ⟨rfl, hb2⟩))
              all_goals go_wp2
              all_goals go_ret
              all_goals rw [decide_eq_false HNO.out]
              all_goals exact ⟨rfl, HB.out.trans (((Below.refl _ _).drew.trans (hb2.mono (Nat.le_refl _))).mono hszr)⟩
        · have HNO := Lib.hid (hno (fun q => hy q.1.2))
          clear hno hsucc
          go_wp2
          go_big_quiet ((go_at_call 82; first | exact quiet_same (l1In_yes _ _ _ _ (by omega) (by omega)) | exact quiet_same (l1In_no _ _ _ _ (by omega))))
          all_goals go_wp2
          all_goals go_ret
          all_goals rw [decide_eq_false HNO.out]
          all_goals exact ⟨rfl, below_drewN HB.out _⟩
      · have HNO := Lib.hid (hno (fun q => hx q.1.1))
        clear hno hsucc
        go_wp2
        go_big_quiet ((go_at_call 82; first | exact quiet_same (l1In_yes _ _ _ _ (by omega) (by omega)) | exact quiet_same (l1In_no _ _ _ _ (by omega))))
        all_goals go_wp2
        all_goals go_ret
        all_goals rw [decide_eq_false HNO.out]
        all_goals exact ⟨rfl, below_drewN HB.out _⟩
    · obtain rfl : k = l.length := by omega
      have hiff := shape_iff HOK.out
      by_cases hlen : 1 ≤ l.length ∧ l.length ≤ 8
      · have hs : Shape l := hiff.2 hlen
        have HS := Lib.hid hs
        have H1 := Lib.hid (fun w => l1In_yes (l.length : Int) 1 8 w (by omega) (by omega))
        clear hiff hs hlen
        go_wp2_with fail
        refine (H1.out _).mono ?_
        rintro e w' ⟨rfl, rfl⟩
        go_wp2
        go_ret
        rw [decide_eq_true HS.out]
        exact ⟨rfl, HB.out⟩
      · have hs : ¬ Shape l := fun q => hlen (hiff.1 q)
        have HS := Lib.hid hs
        have H1 := Lib.hid (fun w => l1In_no (l.length : Int) 1 8 w (by omega))
        clear hiff hs hlen
        go_wp2_with fail
        refine (H1.out _).mono ?_
        rintro e w' ⟨rfl, rfl⟩
        go_wp2
        go_ret
        rw [decide_eq_false HS.out]
        exact ⟨rfl, HB.out⟩
end Go.Proofs.YtajmdgcnnipdoaaGreatDoor

/- ShapeI: the walk of IsShape, the program's. -/
namespace Go.Proofs.YtajmdgcnnipdoaaGreatDoor
open Go.RowKit

attribute [local go_sem ↓] Go.wp_at_zero Go.wp_at_succ

set_option maxRecDepth 100000 in
set_option maxHeartbeats 3200000 in
theorem implShape (ad : Option Addr) (c : Nat) (l : List Cl) (w : World) (hn : l.length ≤ 1048576) (hc : CellsAt w ad (cls l)) :
    Calls Tryz.prog 80 #[.slice ad l.length c] w fun e w' => e = .returned (.bool (decide (Shape l))) ∧ Below w.heap.size w w' := by
  have HC := Lib.hid hc
  clear hc
  go_enter Tryz.func80, Tryz.ntmps80
  go_wp2
  go_loopw [7] (fun i wr => ∃ k : Nat, k ≤ l.length ∧ i = .int .i64 k ∧ okTo l k ∧ Below w.heap.size w wr) (fun i _ => l.length - (intOf i).toNat)
  case atStart => exact ⟨0, by omega, rfl, okTo_zero l, Below.refl _ _⟩
  case round =>
    obtain ⟨k, hk, rfl, hok, hb⟩ := hrel
    have HOK := Lib.hid hok
    have HB := Lib.hid hb
    have hszr := hb.size
    clear hok hb
    by_cases hlt : k < l.length
    · obtain ⟨g, off, rfl, hg, hcc⟩ := cl_open (HC.out.below HB.out) (by omega)
      obtain ⟨x0, x1⟩ := hcc k hlt
      have hno := fun h => not_shape (l := l) (k := k) hlt h
      have hsucc := fun h1 h2 => okTo_succ HOK.out hlt h1 h2
      have i1 : (k : Int) < (l.length : Int) := by omega
      generalize hd : l[k] = d at x0 x1 hno hsucc
      obtain ⟨dx, dy⟩ := d
      simp only at x0 x1
      have HCC := Lib.hid hcc
      have hob := fun w => implOnB dx dy w
      have hbW : Below wr.heap.size wr (wr.alloc (.cells #[.int .i64 dx, .int .i64 dy] 91)) := (Below.refl _ _).alloc (Nat.le_refl _) _
      have hzW : (wr.alloc (.cells #[.int .i64 dx, .int .i64 dy] 91)).heap.size = wr.heap.size + 1 := by simp
      have hbox := cl_box (heap_alloc_new wr (.cells #[.int .i64 dx, .int .i64 dy] 91))
      have HBW := Lib.hid hbW
      have HZW := Lib.hid hzW
      have HBOX := Lib.hid hbox
      clear hcc hd hbW hzW hbox
      by_cases hon : OnB ⟨dx, dy⟩
      · rw [decide_eq_true hon] at hob
        have HOB := Lib.hid hob
        by_cases hk0 : k = 0
        · have d0n : decide (0 < k) = false := by simp [hk0]
          have HS := Lib.hid (hsucc hon (fun h => absurd hk0 (by omega)))
          clear hno hsucc hk0 hob hon
          go_wp2
          generalize wr.alloc (.cells #[.int .i64 dx, .int .i64 dy] 91) = wb at HBW HZW HBOX ⊢
          obtain ⟨z0, z1⟩ := HBOX.out
          have hzb := HZW.out
          refine wp_region_any (by kernel_rfl) ?_
          change wpAny _ _ _ _ _ _ _ (World.drew _)
          refine wpAny_ready (rs := [0]) (by kernel_rfl) (by simp) ?_
          refine AllReady.cons rfl (fun K hK => ?_) AllReady.nil
          go_simp
          refine hK _ _ ?_
          clear hK K
          refine wpAny_ready (rs := [1]) (by kernel_rfl) (by simp) ?_
          refine AllReady.cons rfl (fun K hK => ?_) AllReady.nil
          go_simp
          go_wp2_with ((go_at_call 124; refine (HOB.out _).mono ?_; rintro e w1 ⟨rfl, hb1⟩))
          refine wpAny_ready (rs := [2]) (by kernel_rfl) (by simp) ?_
          refine AllReady.cons rfl (fun K hK => ?_) AllReady.nil
          go_simp
          refine hK _ _ ?_
          clear hK K
          refine wpAny_ready (rs := [3]) (by kernel_rfl) (by simp) ?_
          refine AllReady.cons rfl (fun K hK => ?_) AllReady.nil
          go_simp
          refine hK _ _ ?_
          clear hK K
          refine wpAny_ready (rs := [4]) (by kernel_rfl) (by simp) ?_
          refine AllReady.cons rfl (fun K hK => ?_) AllReady.nil
          go_simp
          refine hK _ _ ?_
          clear hK K
          refine wpAny_ready (rs := [5]) (by kernel_rfl) (by simp) ?_
          refine AllReady.cons rfl (fun K hK => ?_) AllReady.nil
          go_simp
          refine hK _ _ ?_
          clear hK K
          refine wpAny_ready (rs := [6]) (by kernel_rfl) (by simp) ?_
          refine AllReady.cons rfl (fun K hK => ?_) AllReady.nil
          go_simp
          refine hK _ _ ?_
          clear hK K
          refine wpAny_take (i := 7) (v := undef) rfl (by kernel_rfl) (by kernel_rfl) (by kernel_rfl) (fun _ _ _ h => h) (Or.inr ⟨by rfl, rfl⟩) ?_
          refine wpAny_take (i := 8) (v := undef) rfl (by kernel_rfl) (by kernel_rfl) (by kernel_rfl) (fun _ _ _ h => h) (Or.inr ⟨by rfl, rfl⟩) ?_
          refine wpAny_take (i := 12) (v := undef) rfl (by kernel_rfl) (by kernel_rfl) (by kernel_rfl) (fun _ _ _ h => h) (Or.inr ⟨by rfl, rfl⟩) ?_
          refine wpAny_ready (rs := [9]) (by kernel_rfl) (by simp) ?_
          refine AllReady.cons rfl (fun K hK => ?_) AllReady.nil
          go_simp
          refine hK _ _ ?_
          clear hK K
          refine wpAny_ready (rs := [10]) (by kernel_rfl) (by simp) ?_
          refine AllReady.cons rfl (fun K hK => ?_) AllReady.nil
          go_simp
          refine hK _ _ ?_
          clear hK K
          refine wpAny_ready (rs := [11]) (by kernel_rfl) (by simp) ?_
          refine AllReady.cons rfl (fun K hK => ?_) AllReady.nil
          go_simp
          refine hK _ _ ?_
          clear hK K
          refine wpAny_ready (rs := [13]) (by kernel_rfl) (by simp) ?_
          refine AllReady.cons rfl (fun K hK => ?_) AllReady.nil
          go_simp
          refine hK _ _ ?_
          clear hK K
          refine wpAny_ready (rs := [14]) (by kernel_rfl) (by simp) ?_
          refine AllReady.cons rfl (fun K hK => ?_) AllReady.nil
          go_simp
          refine hK _ _ ?_
          clear hK K
          refine wpAny_ready (rs := [15]) (by kernel_rfl) (by simp) ?_
          refine AllReady.cons rfl (fun K hK => ?_) AllReady.nil
          go_simp
          refine hK _ _ ?_
          clear hK K
          refine wpAny_ready (rs := [16]) (by kernel_rfl) (by simp) ?_
          refine AllReady.cons rfl (fun K hK => ?_) AllReady.nil
          go_simp
          refine hK _ _ ?_
          clear hK K
          refine wpAny_done (by kernel_rfl) ?_ _
          all_goals go_wp2
          all_goals go_roundw
          case rel => exact ⟨k + 1, by omega, by go_num, HS.out, HB.out.trans ((HBW.out.trans (((Below.refl _ _).drew.trans (hb1.mono (Nat.le_refl _))).mono HBW.out.size)).mono hszr)⟩
          case measure => simp [intOf]; omega
        · have d0n : decide (0 < k) = true := by simp; omega
          obtain ⟨m, hm⟩ : ∃ m, m = k - 1 := ⟨_, rfl⟩
          have hml : m < l.length := by omega
          obtain ⟨p0, p1⟩ := HCC.out m hml
          rw [← hm, getDG hml] at hno hsucc
          generalize hp : l[m] = p at p0 p1 hno hsucc
          obtain ⟨px, py⟩ := p
          simp only at p0 p1
          have i2 : (k : Int) - 1 = (m : Int) := by omega
          have i3 : (m : Int) < (l.length : Int) := by omega
          have i4 : (0 : Int) ≤ (m : Int) := by omega
          have i5 : IntKind.i64.wrap (m : Int) = (m : Int) := IntWalk.i64_in _ (by omega)
          have hk1 : 1 ≤ k := by omega
          have hbf := fun w => implBefore px py dx dy w
          clear hp
          cases hlt2 : ltC ⟨px, py⟩ ⟨dx, dy⟩ with
          | true =>
            rw [hlt2] at hbf
            have HS := Lib.hid (hsucc hon (fun _ => hlt2))
            have HBF := Lib.hid hbf
            clear hno hsucc hk0 hbf hlt2 hob hon hm
            go_wp2
            generalize wr.alloc (.cells #[.int .i64 dx, .int .i64 dy] 91) = wb at HBW HZW HBOX ⊢
            obtain ⟨z0, z1⟩ := HBOX.out
            have hzb := HZW.out
            have q0 := (HBW.out.cell (p := ⟨g, off + m * 2, none⟩) hg).trans p0
            have q1 := (HBW.out.cell (p := ⟨g, off + m * 2 + 1, none⟩) hg).trans p1
            go_region_held3 (fun w' => w'.cell? ⟨wr.heap.size, 0, none⟩ = some (.int .i64 dx) ∧ w'.cell? ⟨wr.heap.size, 1, none⟩ = some (.int .i64 dy) ∧ w'.cell? ⟨g, off + m * 2, none⟩ = some (.int .i64 px) ∧ w'.cell? ⟨g, off + m * 2 + 1, none⟩ = some (.int .i64 py)) (first | go_keep | exact ⟨(hb1.cell (p := ⟨wr.heap.size, 0, none⟩) (by simp; omega)).trans z0, (hb1.cell (p := ⟨wr.heap.size, 1, none⟩) (by simp; omega)).trans z1, (hb1.cell (p := ⟨g, off + m * 2, none⟩) (by simp; omega)).trans q0, (hb1.cell (p := ⟨g, off + m * 2 + 1, none⟩) (by simp; omega)).trans q1⟩ | exact ⟨((Below.trans hb1 (hb2.mono hb1.size)).cell (p := ⟨wr.heap.size, 0, none⟩) (by simp; omega)).trans z0, ((Below.trans hb1 (hb2.mono hb1.size)).cell (p := ⟨wr.heap.size, 1, none⟩) (by simp; omega)).trans z1, ((Below.trans hb1 (hb2.mono hb1.size)).cell (p := ⟨g, off + m * 2, none⟩) (by simp; omega)).trans q0, ((Below.trans hb1 (hb2.mono hb1.size)).cell (p := ⟨g, off + m * 2 + 1, none⟩) (by simp; omega)).trans q1⟩) (first | (go_at_call 124; refine (HOB.out _).mono ?_; rintro e w1 ⟨rfl, hb1⟩) | (go_at_call 125; refine (HBF.out _).mono ?_; rintro e w2 ⟨rfl, hb2⟩))
            all_goals go_wp2
            all_goals go_roundw
            case rel => exact ⟨k + 1, by omega, by go_num, HS.out, HB.out.trans ((HBW.out.trans ((((Below.refl _ _).drew.trans (hb1.mono (Nat.le_refl _))).trans (hb2.mono hb1.size)).mono HBW.out.size)).mono hszr)⟩
            case measure => simp [intOf]; omega
          | false =>
            rw [hlt2] at hbf
            have HNO := Lib.hid (hno (fun q => by have := q.2 (by omega); rw [hlt2] at this; cases this))
            have HBF := Lib.hid hbf
            clear hno hsucc hk0 hbf hlt2 hob hon hm
            go_wp2
            generalize wr.alloc (.cells #[.int .i64 dx, .int .i64 dy] 91) = wb at HBW HZW HBOX ⊢
            obtain ⟨z0, z1⟩ := HBOX.out
            have hzb := HZW.out
            have q0 := (HBW.out.cell (p := ⟨g, off + m * 2, none⟩) hg).trans p0
            have q1 := (HBW.out.cell (p := ⟨g, off + m * 2 + 1, none⟩) hg).trans p1
            go_region_held3 (fun w' => w'.cell? ⟨wr.heap.size, 0, none⟩ = some (.int .i64 dx) ∧ w'.cell? ⟨wr.heap.size, 1, none⟩ = some (.int .i64 dy) ∧ w'.cell? ⟨g, off + m * 2, none⟩ = some (.int .i64 px) ∧ w'.cell? ⟨g, off + m * 2 + 1, none⟩ = some (.int .i64 py)) (first | go_keep | exact ⟨(hb1.cell (p := ⟨wr.heap.size, 0, none⟩) (by simp; omega)).trans z0, (hb1.cell (p := ⟨wr.heap.size, 1, none⟩) (by simp; omega)).trans z1, (hb1.cell (p := ⟨g, off + m * 2, none⟩) (by simp; omega)).trans q0, (hb1.cell (p := ⟨g, off + m * 2 + 1, none⟩) (by simp; omega)).trans q1⟩ | exact ⟨((Below.trans hb1 (hb2.mono hb1.size)).cell (p := ⟨wr.heap.size, 0, none⟩) (by simp; omega)).trans z0, ((Below.trans hb1 (hb2.mono hb1.size)).cell (p := ⟨wr.heap.size, 1, none⟩) (by simp; omega)).trans z1, ((Below.trans hb1 (hb2.mono hb1.size)).cell (p := ⟨g, off + m * 2, none⟩) (by simp; omega)).trans q0, ((Below.trans hb1 (hb2.mono hb1.size)).cell (p := ⟨g, off + m * 2 + 1, none⟩) (by simp; omega)).trans q1⟩) (first | (go_at_call 124; refine (HOB.out _).mono ?_; rintro e w1 ⟨rfl, hb1⟩) | (go_at_call 125; refine (HBF.out _).mono ?_; rintro e w2 ⟨rfl, hb2⟩))
            all_goals go_wp2
            all_goals go_ret
            all_goals rw [decide_eq_false HNO.out]
            all_goals exact ⟨rfl, HB.out.trans ((HBW.out.trans ((((Below.refl _ _).drew.trans (hb1.mono (Nat.le_refl _))).trans (hb2.mono hb1.size)).mono HBW.out.size)).mono hszr)⟩
      · rw [decide_eq_false hon] at hob
        have HOB := Lib.hid hob
        have HNO := Lib.hid (hno (fun q => hon q.1))
        clear hno hsucc hob hon
        go_wp2
        generalize wr.alloc (.cells #[.int .i64 dx, .int .i64 dy] 91) = wb at HBW HZW HBOX ⊢
        obtain ⟨z0, z1⟩ := HBOX.out
        have hzb := HZW.out
        refine wp_region_any (by kernel_rfl) ?_
        change wpAny _ _ _ _ _ _ _ (World.drew _)
        refine wpAny_ready (rs := [0]) (by kernel_rfl) (by simp) ?_
        refine AllReady.cons rfl (fun K hK => ?_) AllReady.nil
        go_simp
        refine hK _ _ ?_
        clear hK K
        refine wpAny_ready (rs := [1]) (by kernel_rfl) (by simp) ?_
        refine AllReady.cons rfl (fun K hK => ?_) AllReady.nil
        go_simp
        go_wp2_with ((go_at_call 124; refine (HOB.out _).mono ?_; rintro e w1 ⟨rfl, hb1⟩))
        refine wpAny_ready (rs := [2]) (by kernel_rfl) (by simp) ?_
        refine AllReady.cons rfl (fun K hK => ?_) AllReady.nil
        go_simp
        refine hK _ _ ?_
        clear hK K
        refine wpAny_ready (rs := [3]) (by kernel_rfl) (by simp) ?_
        refine AllReady.cons rfl (fun K hK => ?_) AllReady.nil
        go_simp
        refine hK _ _ ?_
        clear hK K
        refine wpAny_ready (rs := [4]) (by kernel_rfl) (by simp) ?_
        refine AllReady.cons rfl (fun K hK => ?_) AllReady.nil
        go_simp
        refine hK _ _ ?_
        clear hK K
        refine wpAny_ready (rs := [5]) (by kernel_rfl) (by simp) ?_
        refine AllReady.cons rfl (fun K hK => ?_) AllReady.nil
        go_simp
        refine hK _ _ ?_
        clear hK K
        refine wpAny_ready (rs := [6]) (by kernel_rfl) (by simp) ?_
        refine AllReady.cons rfl (fun K hK => ?_) AllReady.nil
        go_simp
        refine hK _ _ ?_
        clear hK K
        refine wpAny_take (i := 7) (v := undef) rfl (by kernel_rfl) (by kernel_rfl) (by kernel_rfl) (fun _ _ _ h => h) (Or.inr ⟨by rfl, rfl⟩) ?_
        refine wpAny_take (i := 8) (v := undef) rfl (by kernel_rfl) (by kernel_rfl) (by kernel_rfl) (fun _ _ _ h => h) (Or.inr ⟨by rfl, rfl⟩) ?_
        refine wpAny_take (i := 12) (v := undef) rfl (by kernel_rfl) (by kernel_rfl) (by kernel_rfl) (fun _ _ _ h => h) (Or.inr ⟨by rfl, rfl⟩) ?_
        refine wpAny_ready (rs := [9]) (by kernel_rfl) (by simp) ?_
        refine AllReady.cons rfl (fun K hK => ?_) AllReady.nil
        go_simp
        refine hK _ _ ?_
        clear hK K
        refine wpAny_ready (rs := [10]) (by kernel_rfl) (by simp) ?_
        refine AllReady.cons rfl (fun K hK => ?_) AllReady.nil
        go_simp
        refine hK _ _ ?_
        clear hK K
        refine wpAny_ready (rs := [11]) (by kernel_rfl) (by simp) ?_
        refine AllReady.cons rfl (fun K hK => ?_) AllReady.nil
        go_simp
        refine hK _ _ ?_
        clear hK K
        refine wpAny_ready (rs := [13]) (by kernel_rfl) (by simp) ?_
        refine AllReady.cons rfl (fun K hK => ?_) AllReady.nil
        go_simp
        refine hK _ _ ?_
        clear hK K
        refine wpAny_ready (rs := [14]) (by kernel_rfl) (by simp) ?_
        refine AllReady.cons rfl (fun K hK => ?_) AllReady.nil
        go_simp
        refine hK _ _ ?_
        clear hK K
        refine wpAny_ready (rs := [15]) (by kernel_rfl) (by simp) ?_
        refine AllReady.cons rfl (fun K hK => ?_) AllReady.nil
        go_simp
        refine hK _ _ ?_
        clear hK K
        refine wpAny_ready (rs := [16]) (by kernel_rfl) (by simp) ?_
        refine AllReady.cons rfl (fun K hK => ?_) AllReady.nil
        go_simp
        refine hK _ _ ?_
        clear hK K
        refine wpAny_done (by kernel_rfl) ?_ _
        all_goals go_wp2
        all_goals go_ret
        all_goals rw [decide_eq_false HNO.out]
        all_goals exact ⟨rfl, HB.out.trans ((HBW.out.trans (((Below.refl _ _).drew.trans (hb1.mono (Nat.le_refl _))).mono HBW.out.size)).mono hszr)⟩
    · obtain rfl : k = l.length := by omega
      have hiff := shape_iff HOK.out
      by_cases hlen : 1 ≤ l.length ∧ l.length ≤ 8
      · have hs : Shape l := hiff.2 hlen
        have HS := Lib.hid hs
        have H1 := Lib.hid (fun w => between_yes (l.length : Int) 1 8 w (by omega) (by omega))
        clear hiff hs hlen
        go_wp2_with fail
        refine (H1.out _).mono ?_
        rintro e w' ⟨rfl, rfl⟩
        go_wp2
        go_ret
        rw [decide_eq_true HS.out]
        exact ⟨rfl, HB.out⟩
      · have hs : ¬ Shape l := fun q => hlen (hiff.1 q)
        have HS := Lib.hid hs
        have H1 := Lib.hid (fun w => between_no (l.length : Int) 1 8 w (by omega))
        clear hiff hs hlen
        go_wp2_with fail
        refine (H1.out _).mono ?_
        rintro e w' ⟨rfl, rfl⟩
        go_wp2
        go_ret
        rw [decide_eq_false HS.out]
        exact ⟨rfl, HB.out⟩
end Go.Proofs.YtajmdgcnnipdoaaGreatDoor
