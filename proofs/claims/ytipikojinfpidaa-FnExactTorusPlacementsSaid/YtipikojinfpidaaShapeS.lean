/- ShapeS: the walk of IsShape, the reference's. -/
import Derived.Test.YtipikojinfpidaaShape1
import Derived.BigQuiet
import Derived.IntWalk
import Derived.Deep.RegionHeld3
import Derived.Deep.DrawnRows
namespace Go.Proofs.Ytipikojinfpidaa
open Go.RowKit

attribute [local go_sem ↓] Go.wp_at_zero Go.wp_at_succ

set_option maxRecDepth 100000 in
set_option maxHeartbeats 3200000 in
theorem specShape (ad : Option Addr) (c : Nat) (l : List Cl) (w : World) (hn : l.length ≤ 1048576) (hc : CellsAt w ad (cls l)) :
    Calls Try.prog 44 #[.slice ad l.length c] w fun e w' => e = .returned (.bool (decide (Shape l))) ∧ Below w.heap.size w w' := by
  have HC := Lib.hid hc
  clear hc
  go_enter Try.func44, Try.ntmps44
  go_wp2
  go_loopw [3] (fun i wr => ∃ k : Nat, k ≤ l.length ∧ i = .int .i64 k ∧ okTo l k ∧ Below w.heap.size w wr) (fun i _ => l.length - (intOf i).toNat)
  case atStart => exact ⟨0, by omega, rfl, okTo_zero l, Below.refl _ _⟩
  case round =>
    obtain ⟨k, hk, rfl, hok, hb⟩ := hrel
    have HOK := Lib.hid hok
    have HB := Lib.hid hb
    have hszr := hb.size
    clear hok hb
    by_cases hlt : k < l.length
    · obtain ⟨g, off, rfl, hg, hcc⟩ := cl_open (HC.out.below HB.out) (by omega)
      obtain ⟨x0, x1⟩ := hcc k hlt
      have hno := fun h => not_shape (l := l) (k := k) hlt h
      have hsucc := fun h1 h2 => okTo_succ HOK.out hlt h1 h2
      have i1 : (k : Int) < (l.length : Int) := by omega
      generalize hd : l[k] = d at x0 x1 hno hsucc
      obtain ⟨dx, dy⟩ := d
      simp only at x0 x1
      have HCC := Lib.hid hcc
      clear hcc hd
      by_cases hx : 0 ≤ dx ∧ dx ≤ 7
      · obtain ⟨hx1, hx2⟩ := hx
        by_cases hy : 0 ≤ dy ∧ dy ≤ 7
        · obtain ⟨hy1, hy2⟩ := hy
          by_cases hk0 : k = 0
          · have d0n : decide (0 < k) = false := by simp [hk0]
            have HS := Lib.hid (hsucc ⟨⟨hx1, hx2⟩, hy1, hy2⟩ (fun h => absurd hk0 (by omega)))
            clear hno hsucc hk0
            go_wp2
            go_big_quiet ((go_at_call 47; first | exact quiet_same (l1In_yes _ _ _ _ (by omega) (by omega)) | exact quiet_same (l1In_no _ _ _ _ (by omega))))
            all_goals go_wp2
            all_goals go_roundw
            case rel => exact ⟨k + 1, by omega, by go_num, HS.out, below_drewN HB.out _⟩
            case measure => simp [intOf]; omega
          · have d0n : decide (0 < k) = true := by simp; omega
            obtain ⟨m, hm⟩ : ∃ m, m = k - 1 := ⟨_, rfl⟩
            have hml : m < l.length := by omega
            obtain ⟨p0, p1⟩ := HCC.out m hml
            rw [← hm, getDG hml] at hno hsucc
            generalize hp : l[m] = p at p0 p1 hno hsucc
            obtain ⟨px, py⟩ := p
            simp only at p0 p1
            have i2 : (k : Int) - 1 = (m : Int) := by omega
            have i3 : (m : Int) < (l.length : Int) := by omega
            have i4 : (0 : Int) ≤ (m : Int) := by omega
            have i5 : IntKind.i64.wrap (m : Int) = (m : Int) := IntWalk.i64_in _ (by omega)
            have hk1 : 1 ≤ k := by omega
            have hbf := fun w => specBefore px py dx dy w
            clear hp
            cases hlt2 : ltC ⟨px, py⟩ ⟨dx, dy⟩ with
            | true =>
              rw [hlt2] at hbf
              have HS := Lib.hid (hsucc ⟨⟨hx1, hx2⟩, hy1, hy2⟩ (fun _ => hlt2))
              have HBF := Lib.hid hbf
              clear hno hsucc hk0 hbf hlt2 hm
              go_wp2
              go_region_held3 (fun w' => w'.cell? ⟨g, off + k * 2, none⟩ = some (.int .i64 dx) ∧ w'.cell? ⟨g, off + k * 2 + 1, none⟩ = some (.int .i64 dy) ∧ w'.cell? ⟨g, off + m * 2, none⟩ = some (.int .i64 px) ∧ w'.cell? ⟨g, off + m * 2 + 1, none⟩ = some (.int .i64 py)) (first | go_keep | exact ⟨(hb2.cell (p := ⟨g, off + k * 2, none⟩) (by simp; omega)).trans x0, (hb2.cell (p := ⟨g, off + k * 2 + 1, none⟩) (by simp; omega)).trans x1, (hb2.cell (p := ⟨g, off + m * 2, none⟩) (by simp; omega)).trans p0, (hb2.cell (p := ⟨g, off + m * 2 + 1, none⟩) (by simp; omega)).trans p1⟩) (first | (go_at_call 47; refine (l1In_yes _ _ _ _ (by omega) (by omega)).mono ?_; rintro e w' ⟨rfl, rfl⟩) | (go_at_call 68; refine (HBF.out _).mono ?_; rintro e w2 ⟨rfl, hb2⟩))
              all_goals go_wp2
              all_goals go_roundw
              case rel => exact ⟨k + 1, by omega, by go_num, HS.out, HB.out.trans (((Below.refl _ _).drew.trans (hb2.mono (Nat.le_refl _))).mono hszr)⟩
              case measure => simp [intOf]; omega
            | false =>
              rw [hlt2] at hbf
              have HNO := Lib.hid (hno (fun q => by have := q.2 (by omega); rw [hlt2] at this; cases this))
              have HBF := Lib.hid hbf
              clear hno hsucc hk0 hbf hlt2 hm
              go_wp2
              go_region_held3 (fun w' => w'.cell? ⟨g, off + k * 2, none⟩ = some (.int .i64 dx) ∧ w'.cell? ⟨g, off + k * 2 + 1, none⟩ = some (.int .i64 dy) ∧ w'.cell? ⟨g, off + m * 2, none⟩ = some (.int .i64 px) ∧ w'.cell? ⟨g, off + m * 2 + 1, none⟩ = some (.int .i64 py)) (first | go_keep | exact ⟨(hb2.cell (p := ⟨g, off + k * 2, none⟩) (by simp; omega)).trans x0, (hb2.cell (p := ⟨g, off + k * 2 + 1, none⟩) (by simp; omega)).trans x1, (hb2.cell (p := ⟨g, off + m * 2, none⟩) (by simp; omega)).trans p0, (hb2.cell (p := ⟨g, off + m * 2 + 1, none⟩) (by simp; omega)).trans p1⟩) (first | (go_at_call 47; refine (l1In_yes _ _ _ _ (by omega) (by omega)).mono ?_; rintro e w' ⟨rfl, rfl⟩) | (go_at_call 68; refine (HBF.out _).mono ?_; rintro e w2 ⟨rfl, hb2⟩))
              all_goals go_wp2
              all_goals go_ret
              all_goals rw [decide_eq_false HNO.out]
              all_goals exact ⟨rfl, HB.out.trans (((Below.refl _ _).drew.trans (hb2.mono (Nat.le_refl _))).mono hszr)⟩
        · have HNO := Lib.hid (hno (fun q => hy q.1.2))
          clear hno hsucc
          go_wp2
          go_big_quiet ((go_at_call 47; first | exact quiet_same (l1In_yes _ _ _ _ (by omega) (by omega)) | exact quiet_same (l1In_no _ _ _ _ (by omega))))
          all_goals go_wp2
          all_goals go_ret
          all_goals rw [decide_eq_false HNO.out]
          all_goals exact ⟨rfl, below_drewN HB.out _⟩
      · have HNO := Lib.hid (hno (fun q => hx q.1.1))
        clear hno hsucc
        go_wp2
        go_big_quiet ((go_at_call 47; first | exact quiet_same (l1In_yes _ _ _ _ (by omega) (by omega)) | exact quiet_same (l1In_no _ _ _ _ (by omega))))
        all_goals go_wp2
        all_goals go_ret
        all_goals rw [decide_eq_false HNO.out]
        all_goals exact ⟨rfl, below_drewN HB.out _⟩
    · obtain rfl : k = l.length := by omega
      have hiff := shape_iff HOK.out
      by_cases hlen : 1 ≤ l.length ∧ l.length ≤ 8
      · have hs : Shape l := hiff.2 hlen
        have HS := Lib.hid hs
        have H1 := Lib.hid (fun w => l1In_yes (l.length : Int) 1 8 w (by omega) (by omega))
        clear hiff hs hlen
        go_wp2_with fail
        refine (H1.out _).mono ?_
        rintro e w' ⟨rfl, rfl⟩
        go_wp2
        go_ret
        rw [decide_eq_true HS.out]
        exact ⟨rfl, HB.out⟩
      · have hs : ¬ Shape l := fun q => hlen (hiff.1 q)
        have HS := Lib.hid hs
        have H1 := Lib.hid (fun w => l1In_no (l.length : Int) 1 8 w (by omega))
        clear hiff hs hlen
        go_wp2_with fail
        refine (H1.out _).mono ?_
        rintro e w' ⟨rfl, rfl⟩
        go_wp2
        go_ret
        rw [decide_eq_false HS.out]
        exact ⟨rfl, HB.out⟩
end Go.Proofs.Ytipikojinfpidaa
