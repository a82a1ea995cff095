/- Carry: the walks of the reference's l3Apply and of the program's carry: a cell by a motion. -/
import Derived.Test.YtajmdgcnnipdoaaGreatDoorAllReg
import Derived.Test.YtajmdgcnnipdoaaGreatDoorAllHead
import Derived.Test.YtajmdgcnnipdoaaGreatDoorAllBase
import Derived.IntWalk
import Derived.BigQuiet
import Derived.BigRegion
import Derived.Deep.RegionHeld3
import Derived.Deep.Cut
namespace Go.Proofs.YtajmdgcnnipdoaaGreatDoor
open Go.RowKit

theorem own_box {W : World} {B : Nat} {e : TypeId} {a b : Value} (h : W.heap[B]? = some (.cells #[a, b] e (0, 0))) : W.ownsRow B e 2 (.slice (some ⟨B, 0, none⟩) 1 1) 1 [a, b] := by
  refine ⟨by simp, .inr ⟨B, 1, #[a, b], rfl, Nat.le_refl _, h, Nat.le_refl _, by decide, by simp, by simp⟩⟩
theorem cls_one_set (x y a b : Int) : ((cls [⟨x, y⟩]).set 0 (.int .i64 a)).set 1 (.int .i64 b) = cls [⟨a, b⟩] := rfl
theorem cls_one_set0 (x y a : Int) : (cls [⟨x, y⟩]).set 0 (.int .i64 a) = cls [⟨a, y⟩] := rfl
theorem box_cells {w : World} {g base : Nat} {c : Cl} (h : w.ownsRow base 91 2 (.slice (some ⟨g, 0, none⟩) 1 1) 1 (cls [c])) :
    w.cell? ⟨g, 0, none⟩ = some (.int .i64 c.x) ∧ w.cell? ⟨g, 1, none⟩ = some (.int .i64 c.y) ∧ w.frozen? ⟨g, 0, none⟩ = false ∧ w.frozen? ⟨g, 1, none⟩ = false :=
  ⟨h.cellAt 0 (by decide), h.cellAt 1 (by decide), h.frozenAt 0, h.frozenAt 1⟩

set_option maxRecDepth 100000 in
set_option maxHeartbeats 3200000 in
theorem specApply (c : Cl) (m : Nat) (w : World) (hm : m < 8) (hb : In 1000 c) :
    Calls Tryz.prog 164 #[.agg #[.int .i64 c.x, .int .i64 c.y], .int .i64 m] w fun e w' => e = .returned (.agg #[.int .i64 (carryC m c).x, .int .i64 (carryC m c).y]) ∧ Below w.heap.size w w' := by
  have hfl : In 1000 (flipC m c) := in_flip hb m
  obtain ⟨r, hr⟩ : ∃ r, r = m % 4 := ⟨_, rfl⟩
  have hr4 : r < 4 := by omega
  have hrI : (m : Int).tmod 4 = (r : Int) := by rw [hr]; exact (Int.ofNat_tmod m 4).symm
  have hrI2 : ((m % 4 : Nat) : Int) = (r : Int) := by rw [hr]
  have hcr : carryC m c = rotN r (flipC m c) := by unfold carryC; rw [hr]
  rw [hcr]
  have HF := Lib.hid (rfl : flipC m c = flipC m c)
  obtain ⟨cx, cy⟩ := c
  obtain ⟨⟨x1, x2⟩, y1, y2⟩ := hb
  simp only at x1 x2 y1 y2
  obtain ⟨w0, hw0⟩ : ∃ w0, w0 = (w.alloc (.cells #[.int .i64 cx, .int .i64 cy] 91)).alloc (.cells #[.int .i64 0, .int .i64 0] 91) := ⟨_, rfl⟩
  have hb0 : Below w.heap.size w w0 := by rw [hw0]; exact ((Below.refl _ _).alloc (Nat.le_refl _) _).alloc (by simp) _
  have hz0 : w0.heap.size = w.heap.size + 2 := by rw [hw0]; simp
  have hA : w0.ownsRow w.heap.size 91 2 (.slice (some ⟨w.heap.size, 0, none⟩) 1 1) 1 (cls [⟨cx, cy⟩]) := by
    have h1 := own_box (heap_alloc_new w (.cells #[.int .i64 cx, .int .i64 cy] 91))
    rw [hw0]
    exact h1.alloc _
  have hR : w0.ownsRow (w.heap.size + 1) 91 2 (.slice (some ⟨w.heap.size + 1, 0, none⟩) 1 1) 1 (cls [⟨0, 0⟩]) := by
    have h1 := own_box (heap_alloc_new (w.alloc (.cells #[.int .i64 cx, .int .i64 cy] 91)) (.cells #[.int .i64 0, .int .i64 0] 91))
    rw [hw0]
    have hs : (w.alloc (.cells #[.int .i64 cx, .int .i64 cy] 91)).heap.size = w.heap.size + 1 := by simp
    rw [hs] at h1
    exact h1
  have HW0 := Lib.hid hw0
  obtain ⟨a0, a1, a2, a3⟩ := box_cells hA
  simp only at a0 a1
  have HA := Lib.hid hA
  have HR := Lib.hid hR
  have HB0 := Lib.hid hb0
  have HRR := Lib.hid hr
  have nx1 : ∃ nx, -cx = nx := ⟨_, rfl⟩
  obtain ⟨nx, hnx⟩ := nx1
  have snx : IntKind.i64.wrap nx = nx := IntWalk.i64_in _ (by omega)
  clear hw0 hA hR hb0 hr hcr
  by_cases h4 : 4 ≤ m
  · skip
    have i0 : (4 : Int) ≤ (m : Int) := by omega
    have d0 : decide ((4 : Int) ≤ (m : Int)) = true := decide_eq_true i0
    have hff : flipC m ⟨cx, cy⟩ = ⟨nx, cy⟩ := by unfold flipC; rw [if_pos h4]; unfold negX; simp only [hnx]
    have HFF := Lib.hid hff
    clear hff
    go_enter Tryz.func164, Tryz.ntmps164
    go_upto_region 1 with (fail)
    rw [← HW0.out]
    go_wp2
    have g1 := HA.out.stored 0 (.int .i64 nx)
    have hwa := g1.1
    rw [cls_one_set0, ← HFF.out] at hwa
    have hwr := HR.out.kept g1.2 (.inr (by simp [Value.ownBlock]))
    have hwb := HB0.out.setCell (p := ⟨w.heap.size, 0, none⟩) (Nat.le_refl _) (.int .i64 nx)
    generalize w0.setCell ⟨w.heap.size, 0, none⟩ (.int .i64 nx) = W at hwa hwr hwb g1 ⊢
    clear g1
    have HWA := Lib.hid hwa
    have HWR := Lib.hid hwr
    have HWB := Lib.hid hwb
    clear hwa hwr hwb
    go_loopw [5] (fun i wr => ∃ k : Nat, k ≤ r ∧ i = .int .i64 k ∧ wr.ownsRow w.heap.size 91 2 (.slice (some ⟨w.heap.size, 0, none⟩) 1 1) 1 (cls [rotN k (flipC m ⟨cx, cy⟩)]) ∧ wr.ownsRow (w.heap.size + 1) 91 2 (.slice (some ⟨w.heap.size + 1, 0, none⟩) 1 1) 1 (cls [⟨0, 0⟩]) ∧ Below w.heap.size w wr) (fun i _ => r - (intOf i).toNat)
    case atStart => exact ⟨0, Nat.zero_le _, rfl, HWA.out, HWR.out, HWB.out⟩
    case round =>
      obtain ⟨k, hk, rfl, ha, hR, hbl⟩ := hrel
      have hin := in_rotN hfl k
      have hst : rotN (k + 1) (flipC m ⟨cx, cy⟩) = rotC (rotN k (flipC m ⟨cx, cy⟩)) := rfl
      obtain ⟨q0, q1, q2, q3⟩ := box_cells ha
      obtain ⟨r0, r1, r2, r3⟩ := box_cells hR
      simp only at r0 r1
      have HAk := Lib.hid ha
      have HRk := Lib.hid hR
      have HBk := Lib.hid hbl
      have hszk := hbl.size
      clear ha hR hbl
      by_cases hlt : k < r
      · skip
        have HST := Lib.hid hst
        clear hst
        generalize rotN k (flipC m ⟨cx, cy⟩) = d at q0 q1 hin HST HAk
        obtain ⟨dx, dy⟩ := d
        obtain ⟨⟨b1, b2⟩, b3, b4⟩ := hin
        simp only at q0 q1 b1 b2 b3 b4
        obtain ⟨ny, hny⟩ : ∃ ny, -dy = ny := ⟨_, rfl⟩
        have sny : IntKind.i64.wrap ny = ny := IntWalk.i64_in _ (by omega)
        have i1 : (k : Int) < (r : Int) := by omega
        have HNY := Lib.hid hny
        go_wp2
        go_roundw
        case rel =>
          have g1 := HAk.out.stored 0 (.int .i64 ny)
          have g2 := g1.1.stored 1 (.int .i64 dx)
          have g3 := g2.1
          rw [cls_one_set] at g3
          have hk1 := HRk.out.kept (grownBy_trans g1.2 g2.2) (.inr (by simp [Value.ownBlock]))
          refine ⟨k + 1, by omega, by go_num, ?_, hk1, (HBk.out.setCell (Nat.le_refl _) _).setCell (Nat.le_refl _) _⟩
          rw [HST.out]
          unfold rotC
          simp only [HNY.out]
          exact g3
        case measure => simp [intOf]; omega
      · skip
        obtain rfl : k = r := by omega
        have i1 : ¬ (k : Int) < (k : Int) := by omega
        generalize hD : rotN k (flipC m ⟨cx, cy⟩) = d at q0 q1 HAk
        have HD := Lib.hid hD
        clear hD
        obtain ⟨dx, dy⟩ := d
        simp only at q0 q1
        clear hin hst
        go_wp2
        have c0 : ((wr.setCell ⟨w.heap.size + 1, 0, none⟩ (.int .i64 dx)).setCell ⟨w.heap.size + 1, 1, none⟩ (.int .i64 dy)).cell? ⟨w.heap.size + 1, 0, none⟩ = some (.int .i64 dx) := by
          rw [World.cell?_setCell_other _ _ _ _ (by simp)]
          exact World.cell?_setCell_same _ _ _ r0
        have c1 : ((wr.setCell ⟨w.heap.size + 1, 0, none⟩ (.int .i64 dx)).setCell ⟨w.heap.size + 1, 1, none⟩ (.int .i64 dy)).cell? ⟨w.heap.size + 1, 1, none⟩ = some (.int .i64 dy) :=
          World.cell?_setCell_same _ _ _ ((World.cell?_setCell_other _ _ _ _ (by simp)).trans r1)
        (try simp only [Exit.inBlock, Exit.then])
        refine bodyPost_ret (v := .agg #[.int .i64 dx, .int .i64 dy]) (by simp [results, Tryz.results164, go_sem, c0, c1]) rfl ⟨by rw [HD.out], ?_⟩
        exact (HBk.out.setCell (Nat.le_succ _) _).setCell (Nat.le_succ _) _
  · skip
    have i0 : ¬ (4 : Int) ≤ (m : Int) := by omega
    have d0 : decide ((4 : Int) ≤ (m : Int)) = false := decide_eq_false i0
    have hff : flipC m ⟨cx, cy⟩ = ⟨cx, cy⟩ := by unfold flipC; rw [if_neg h4]
    have HFF := Lib.hid hff
    clear hff
    go_enter Tryz.func164, Tryz.ntmps164
    go_wp2
    rw [← HW0.out]
    have hwa := HA.out
    rw [← HFF.out] at hwa
    have hwr := HR.out
    have hwb := HB0.out
    have HWA := Lib.hid hwa
    have HWR := Lib.hid hwr
    have HWB := Lib.hid hwb
    clear hwa hwr hwb
    go_loopw [5] (fun i wr => ∃ k : Nat, k ≤ r ∧ i = .int .i64 k ∧ wr.ownsRow w.heap.size 91 2 (.slice (some ⟨w.heap.size, 0, none⟩) 1 1) 1 (cls [rotN k (flipC m ⟨cx, cy⟩)]) ∧ wr.ownsRow (w.heap.size + 1) 91 2 (.slice (some ⟨w.heap.size + 1, 0, none⟩) 1 1) 1 (cls [⟨0, 0⟩]) ∧ Below w.heap.size w wr) (fun i _ => r - (intOf i).toNat)
    case atStart => exact ⟨0, Nat.zero_le _, rfl, HWA.out, HWR.out, HWB.out⟩
    case round =>
      obtain ⟨k, hk, rfl, ha, hR, hbl⟩ := hrel
      have hin := in_rotN hfl k
      have hst : rotN (k + 1) (flipC m ⟨cx, cy⟩) = rotC (rotN k (flipC m ⟨cx, cy⟩)) := rfl
      obtain ⟨q0, q1, q2, q3⟩ := box_cells ha
      obtain ⟨r0, r1, r2, r3⟩ := box_cells hR
      simp only at r0 r1
      have HAk := Lib.hid ha
      have HRk := Lib.hid hR
      have HBk := Lib.hid hbl
      have hszk := hbl.size
      clear ha hR hbl
      by_cases hlt : k < r
      · skip
        have HST := Lib.hid hst
        clear hst
        generalize rotN k (flipC m ⟨cx, cy⟩) = d at q0 q1 hin HST HAk
        obtain ⟨dx, dy⟩ := d
        obtain ⟨⟨b1, b2⟩, b3, b4⟩ := hin
        simp only at q0 q1 b1 b2 b3 b4
        obtain ⟨ny, hny⟩ : ∃ ny, -dy = ny := ⟨_, rfl⟩
        have sny : IntKind.i64.wrap ny = ny := IntWalk.i64_in _ (by omega)
        have i1 : (k : Int) < (r : Int) := by omega
        have HNY := Lib.hid hny
        go_wp2
        go_roundw
        case rel =>
          have g1 := HAk.out.stored 0 (.int .i64 ny)
          have g2 := g1.1.stored 1 (.int .i64 dx)
          have g3 := g2.1
          rw [cls_one_set] at g3
          have hk1 := HRk.out.kept (grownBy_trans g1.2 g2.2) (.inr (by simp [Value.ownBlock]))
          refine ⟨k + 1, by omega, by go_num, ?_, hk1, (HBk.out.setCell (Nat.le_refl _) _).setCell (Nat.le_refl _) _⟩
          rw [HST.out]
          unfold rotC
          simp only [HNY.out]
          exact g3
        case measure => simp [intOf]; omega
      · skip
        obtain rfl : k = r := by omega
        have i1 : ¬ (k : Int) < (k : Int) := by omega
        generalize hD : rotN k (flipC m ⟨cx, cy⟩) = d at q0 q1 HAk
        have HD := Lib.hid hD
        clear hD
        obtain ⟨dx, dy⟩ := d
        simp only at q0 q1
        clear hin hst
        go_wp2
        have c0 : ((wr.setCell ⟨w.heap.size + 1, 0, none⟩ (.int .i64 dx)).setCell ⟨w.heap.size + 1, 1, none⟩ (.int .i64 dy)).cell? ⟨w.heap.size + 1, 0, none⟩ = some (.int .i64 dx) := by
          rw [World.cell?_setCell_other _ _ _ _ (by simp)]
          exact World.cell?_setCell_same _ _ _ r0
        have c1 : ((wr.setCell ⟨w.heap.size + 1, 0, none⟩ (.int .i64 dx)).setCell ⟨w.heap.size + 1, 1, none⟩ (.int .i64 dy)).cell? ⟨w.heap.size + 1, 1, none⟩ = some (.int .i64 dy) :=
          World.cell?_setCell_same _ _ _ ((World.cell?_setCell_other _ _ _ _ (by simp)).trans r1)
        (try simp only [Exit.inBlock, Exit.then])
        refine bodyPost_ret (v := .agg #[.int .i64 dx, .int .i64 dy]) (by simp [results, Tryz.results164, go_sem, c0, c1]) rfl ⟨by rw [HD.out], ?_⟩
        exact (HBk.out.setCell (Nat.le_succ _) _).setCell (Nat.le_succ _) _

set_option maxRecDepth 100000 in
set_option maxHeartbeats 3200000 in
theorem implCarry (c : Cl) (m : Nat) (w : World) (hm : m < 8) (hb : In 1000 c) :
    Calls Tryz.prog 160 #[.agg #[.int .i64 c.x, .int .i64 c.y], .int .i64 m] w fun e w' => e = .returned (.agg #[.int .i64 (carryC m c).x, .int .i64 (carryC m c).y]) ∧ Below w.heap.size w w' := by
  have hfl : In 1000 (flipC m c) := in_flip hb m
  obtain ⟨r, hr⟩ : ∃ r, r = m % 4 := ⟨_, rfl⟩
  have hr4 : r < 4 := by omega
  have hrI : (m : Int).tmod 4 = (r : Int) := by rw [hr]; exact (Int.ofNat_tmod m 4).symm
  have hrI2 : ((m % 4 : Nat) : Int) = (r : Int) := by rw [hr]
  have hcr : carryC m c = rotN r (flipC m c) := by unfold carryC; rw [hr]
  rw [hcr]
  have HF := Lib.hid (rfl : flipC m c = flipC m c)
  obtain ⟨cx, cy⟩ := c
  obtain ⟨⟨x1, x2⟩, y1, y2⟩ := hb
  simp only at x1 x2 y1 y2
  obtain ⟨w0, hw0⟩ : ∃ w0, w0 = (w.alloc (.cells #[.int .i64 cx, .int .i64 cy] 91)).alloc (.cells #[.int .i64 0, .int .i64 0] 91) := ⟨_, rfl⟩
  have hb0 : Below w.heap.size w w0 := by rw [hw0]; exact ((Below.refl _ _).alloc (Nat.le_refl _) _).alloc (by simp) _
  have hz0 : w0.heap.size = w.heap.size + 2 := by rw [hw0]; simp
  have hA : w0.ownsRow w.heap.size 91 2 (.slice (some ⟨w.heap.size, 0, none⟩) 1 1) 1 (cls [⟨cx, cy⟩]) := by
    have h1 := own_box (heap_alloc_new w (.cells #[.int .i64 cx, .int .i64 cy] 91))
    rw [hw0]
    exact h1.alloc _
  have hR : w0.ownsRow (w.heap.size + 1) 91 2 (.slice (some ⟨w.heap.size + 1, 0, none⟩) 1 1) 1 (cls [⟨0, 0⟩]) := by
    have h1 := own_box (heap_alloc_new (w.alloc (.cells #[.int .i64 cx, .int .i64 cy] 91)) (.cells #[.int .i64 0, .int .i64 0] 91))
    rw [hw0]
    have hs : (w.alloc (.cells #[.int .i64 cx, .int .i64 cy] 91)).heap.size = w.heap.size + 1 := by simp
    rw [hs] at h1
    exact h1
  have HW0 := Lib.hid hw0
  obtain ⟨a0, a1, a2, a3⟩ := box_cells hA
  simp only at a0 a1
  have HA := Lib.hid hA
  have HR := Lib.hid hR
  have HB0 := Lib.hid hb0
  have HRR := Lib.hid hr
  have nx1 : ∃ nx, -cx = nx := ⟨_, rfl⟩
  obtain ⟨nx, hnx⟩ := nx1
  have snx : IntKind.i64.wrap nx = nx := IntWalk.i64_in _ (by omega)
  clear hw0 hA hR hb0 hr hcr
  by_cases h4 : 4 ≤ m
  · skip
    have i0 : (4 : Int) ≤ (m : Int) := by omega
    have d0 : decide ((4 : Int) ≤ (m : Int)) = true := decide_eq_true i0
    have hff : flipC m ⟨cx, cy⟩ = ⟨nx, cy⟩ := by unfold flipC; rw [if_pos h4]; unfold negX; simp only [hnx]
    have HFF := Lib.hid hff
    clear hff
    go_enter Tryz.func160, Tryz.ntmps160
    go_upto_region 1 with (fail)
    rw [← HW0.out]
    go_wp2
    have g1 := HA.out.stored 0 (.int .i64 nx)
    have hwa := g1.1
    rw [cls_one_set0, ← HFF.out] at hwa
    have hwr := HR.out.kept g1.2 (.inr (by simp [Value.ownBlock]))
    have hwb := HB0.out.setCell (p := ⟨w.heap.size, 0, none⟩) (Nat.le_refl _) (.int .i64 nx)
    generalize w0.setCell ⟨w.heap.size, 0, none⟩ (.int .i64 nx) = W at hwa hwr hwb g1 ⊢
    clear g1
    have HWA := Lib.hid hwa
    have HWR := Lib.hid hwr
    have HWB := Lib.hid hwb
    clear hwa hwr hwb
    go_loopw [13] (fun i wr => ∃ k : Nat, k ≤ r ∧ i = .int .i64 k ∧ wr.ownsRow w.heap.size 91 2 (.slice (some ⟨w.heap.size, 0, none⟩) 1 1) 1 (cls [rotN k (flipC m ⟨cx, cy⟩)]) ∧ wr.ownsRow (w.heap.size + 1) 91 2 (.slice (some ⟨w.heap.size + 1, 0, none⟩) 1 1) 1 (cls [⟨0, 0⟩]) ∧ Below w.heap.size w wr) (fun i _ => r - (intOf i).toNat)
    case atStart => exact ⟨0, Nat.zero_le _, rfl, HWA.out, HWR.out, HWB.out⟩
    case round =>
      obtain ⟨k, hk, rfl, ha, hR, hbl⟩ := hrel
      have hin := in_rotN hfl k
      have hst : rotN (k + 1) (flipC m ⟨cx, cy⟩) = rotC (rotN k (flipC m ⟨cx, cy⟩)) := rfl
      obtain ⟨q0, q1, q2, q3⟩ := box_cells ha
      obtain ⟨r0, r1, r2, r3⟩ := box_cells hR
      simp only at r0 r1
      have HAk := Lib.hid ha
      have HRk := Lib.hid hR
      have HBk := Lib.hid hbl
      have hszk := hbl.size
      clear ha hR hbl
      by_cases hlt : k < r
      · skip
        have HST := Lib.hid hst
        clear hst
        generalize rotN k (flipC m ⟨cx, cy⟩) = d at q0 q1 hin HST HAk
        obtain ⟨dx, dy⟩ := d
        obtain ⟨⟨b1, b2⟩, b3, b4⟩ := hin
        simp only at q0 q1 b1 b2 b3 b4
        obtain ⟨ny, hny⟩ : ∃ ny, -dy = ny := ⟨_, rfl⟩
        have sny : IntKind.i64.wrap ny = ny := IntWalk.i64_in _ (by omega)
        have i1 : (k : Int) < (r : Int) := by omega
        have HNY := Lib.hid hny
        go_wp2
        go_roundw
        case rel =>
          have g1 := HAk.out.stored 0 (.int .i64 ny)
          have g2 := g1.1.stored 1 (.int .i64 dx)
          have g3 := g2.1
          rw [cls_one_set] at g3
          have hk1 := HRk.out.kept (grownBy_trans g1.2 g2.2) (.inr (by simp [Value.ownBlock]))
          refine ⟨k + 1, by omega, by go_num, ?_, hk1, (HBk.out.setCell (Nat.le_refl _) _).setCell (Nat.le_refl _) _⟩
          rw [HST.out]
          unfold rotC
          simp only [HNY.out]
          exact g3
        case measure => simp [intOf]; omega
      · skip
        obtain rfl : k = r := by omega
        have i1 : ¬ (k : Int) < (k : Int) := by omega
        generalize hD : rotN k (flipC m ⟨cx, cy⟩) = d at q0 q1 HAk
        have HD := Lib.hid hD
        clear hD
        obtain ⟨dx, dy⟩ := d
        simp only at q0 q1
        clear hin hst
        go_wp2
        have c0 : ((wr.setCell ⟨w.heap.size + 1, 0, none⟩ (.int .i64 dx)).setCell ⟨w.heap.size + 1, 1, none⟩ (.int .i64 dy)).cell? ⟨w.heap.size + 1, 0, none⟩ = some (.int .i64 dx) := by
          rw [World.cell?_setCell_other _ _ _ _ (by simp)]
          exact World.cell?_setCell_same _ _ _ r0
        have c1 : ((wr.setCell ⟨w.heap.size + 1, 0, none⟩ (.int .i64 dx)).setCell ⟨w.heap.size + 1, 1, none⟩ (.int .i64 dy)).cell? ⟨w.heap.size + 1, 1, none⟩ = some (.int .i64 dy) :=
          World.cell?_setCell_same _ _ _ ((World.cell?_setCell_other _ _ _ _ (by simp)).trans r1)
        (try simp only [Exit.inBlock, Exit.then])
        refine bodyPost_ret (v := .agg #[.int .i64 dx, .int .i64 dy]) (by simp [results, Tryz.results160, go_sem, c0, c1]) rfl ⟨by rw [HD.out], ?_⟩
        exact (HBk.out.setCell (Nat.le_succ _) _).setCell (Nat.le_succ _) _
  · skip
    have i0 : ¬ (4 : Int) ≤ (m : Int) := by omega
    have d0 : decide ((4 : Int) ≤ (m : Int)) = false := decide_eq_false i0
    have hff : flipC m ⟨cx, cy⟩ = ⟨cx, cy⟩ := by unfold flipC; rw [if_neg h4]
    have HFF := Lib.hid hff
    clear hff
    go_enter Tryz.func160, Tryz.ntmps160
    go_wp2
    rw [← HW0.out]
    have hwa := HA.out
    rw [← HFF.out] at hwa
    have hwr := HR.out
    have hwb := HB0.out
    have HWA := Lib.hid hwa
    have HWR := Lib.hid hwr
    have HWB := Lib.hid hwb
    clear hwa hwr hwb
    go_loopw [13] (fun i wr => ∃ k : Nat, k ≤ r ∧ i = .int .i64 k ∧ wr.ownsRow w.heap.size 91 2 (.slice (some ⟨w.heap.size, 0, none⟩) 1 1) 1 (cls [rotN k (flipC m ⟨cx, cy⟩)]) ∧ wr.ownsRow (w.heap.size + 1) 91 2 (.slice (some ⟨w.heap.size + 1, 0, none⟩) 1 1) 1 (cls [⟨0, 0⟩]) ∧ Below w.heap.size w wr) (fun i _ => r - (intOf i).toNat)
    case atStart => exact ⟨0, Nat.zero_le _, rfl, HWA.out, HWR.out, HWB.out⟩
    case round =>
      obtain ⟨k, hk, rfl, ha, hR, hbl⟩ := hrel
      have hin := in_rotN hfl k
      have hst : rotN (k + 1) (flipC m ⟨cx, cy⟩) = rotC (rotN k (flipC m ⟨cx, cy⟩)) := rfl
      obtain ⟨q0, q1, q2, q3⟩ := box_cells ha
      obtain ⟨r0, r1, r2, r3⟩ := box_cells hR
      simp only at r0 r1
      have HAk := Lib.hid ha
      have HRk := Lib.hid hR
      have HBk := Lib.hid hbl
      have hszk := hbl.size
      clear ha hR hbl
      by_cases hlt : k < r
      · skip
        have HST := Lib.hid hst
        clear hst
        generalize rotN k (flipC m ⟨cx, cy⟩) = d at q0 q1 hin HST HAk
        obtain ⟨dx, dy⟩ := d
        obtain ⟨⟨b1, b2⟩, b3, b4⟩ := hin
        simp only at q0 q1 b1 b2 b3 b4
        obtain ⟨ny, hny⟩ : ∃ ny, -dy = ny := ⟨_, rfl⟩
        have sny : IntKind.i64.wrap ny = ny := IntWalk.i64_in _ (by omega)
        have i1 : (k : Int) < (r : Int) := by omega
        have HNY := Lib.hid hny
        go_wp2
        go_roundw
        case rel =>
          have g1 := HAk.out.stored 0 (.int .i64 ny)
          have g2 := g1.1.stored 1 (.int .i64 dx)
          have g3 := g2.1
          rw [cls_one_set] at g3
          have hk1 := HRk.out.kept (grownBy_trans g1.2 g2.2) (.inr (by simp [Value.ownBlock]))
          refine ⟨k + 1, by omega, by go_num, ?_, hk1, (HBk.out.setCell (Nat.le_refl _) _).setCell (Nat.le_refl _) _⟩
          rw [HST.out]
          unfold rotC
          simp only [HNY.out]
          exact g3
        case measure => simp [intOf]; omega
      · skip
        obtain rfl : k = r := by omega
        have i1 : ¬ (k : Int) < (k : Int) := by omega
        generalize hD : rotN k (flipC m ⟨cx, cy⟩) = d at q0 q1 HAk
        have HD := Lib.hid hD
        clear hD
        obtain ⟨dx, dy⟩ := d
        simp only at q0 q1
        clear hin hst
        go_wp2
        have c0 : ((wr.setCell ⟨w.heap.size + 1, 0, none⟩ (.int .i64 dx)).setCell ⟨w.heap.size + 1, 1, none⟩ (.int .i64 dy)).cell? ⟨w.heap.size + 1, 0, none⟩ = some (.int .i64 dx) := by
          rw [World.cell?_setCell_other _ _ _ _ (by simp)]
          exact World.cell?_setCell_same _ _ _ r0
        have c1 : ((wr.setCell ⟨w.heap.size + 1, 0, none⟩ (.int .i64 dx)).setCell ⟨w.heap.size + 1, 1, none⟩ (.int .i64 dy)).cell? ⟨w.heap.size + 1, 1, none⟩ = some (.int .i64 dy) :=
          World.cell?_setCell_same _ _ _ ((World.cell?_setCell_other _ _ _ _ (by simp)).trans r1)
        (try simp only [Exit.inBlock, Exit.then])
        refine bodyPost_ret (v := .agg #[.int .i64 dx, .int .i64 dy]) (by simp [results, Tryz.results160, go_sem, c0, c1]) rfl ⟨by rw [HD.out], ?_⟩
        exact (HBk.out.setCell (Nat.le_succ _) _).setCell (Nat.le_succ _) _
end Go.Proofs.YtajmdgcnnipdoaaGreatDoor
