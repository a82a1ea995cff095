/- Near: the walks of l2Near and of beside: whether two cells share a side. -/
import Derived.Test.YtcoggnoeafpgbaaAllHead
import Derived.IntWalk
import Derived.Deep.RegionHeld3
import Derived.Deep.Cut
import Derived.BigRegion
import Derived.Deep.DrawnRows
namespace Go.Proofs.Ytcoggnoeafpgbaa
open Go.RowKit

attribute [local go_sem ↓] Go.wp_at_zero Go.wp_at_succ

def near (a b : Cl) : Bool := decide ((a.x - b.x) * (a.x - b.x) + (a.y - b.y) * (a.y - b.y) = 1)
def Fit (c : Cl) : Prop := (0 ≤ c.x ∧ c.x ≤ 100) ∧ 0 ≤ c.y ∧ c.y ≤ 100
theorem sq_nat (d : Int) : d * d = ((d.natAbs * d.natAbs : Nat) : Int) := (Int.natAbs_mul_self).symm
theorem sq_le {d : Int} (h : -100 ≤ d ∧ d ≤ 100) : 0 ≤ d * d ∧ d * d ≤ 10000 := by
  have h1 : d.natAbs ≤ 100 := by omega
  have h2 : d.natAbs * d.natAbs ≤ 100 * 100 := Nat.mul_le_mul h1 h1
  rw [sq_nat]
  omega
theorem near_max (a b : Cl) : decide (max (a.x - b.x) (b.x - a.x) + max (a.y - b.y) (b.y - a.y) = 1) = near a b := by
  unfold near
  generalize hp : a.x - b.x = p
  generalize hq : a.y - b.y = q
  rw [show b.x - a.x = -p by omega, show b.y - a.y = -q by omega, sq_nat, sq_nat]
  refine decide_eq_decide.2 ⟨fun h => ?_, fun h => ?_⟩
  · have hc : (p.natAbs = 0 ∧ q.natAbs = 1) ∨ (p.natAbs = 1 ∧ q.natAbs = 0) := by omega
    rcases hc with ⟨e1, e2⟩ | ⟨e1, e2⟩ <;> rw [e1, e2] <;> rfl
  · generalize hm : p.natAbs = m at h
    generalize hn : q.natAbs = n at h
    have h' : m * m + n * n = 1 := by exact_mod_cast h
    have hm2 : m ≤ 1 := by
      rcases Nat.lt_or_ge 1 m with e | e
      · have := Nat.mul_le_mul e e; omega
      · exact e
    have hn2 : n ≤ 1 := by
      rcases Nat.lt_or_ge 1 n with e | e
      · have := Nat.mul_le_mul e e; omega
      · exact e
    have : m = 0 ∧ n = 1 ∨ m = 1 ∧ n = 0 := by
      have c1 : m = 0 ∨ m = 1 := by omega
      have c2 : n = 0 ∨ n = 1 := by omega
      rcases c1 with rfl | rfl <;> rcases c2 with rfl | rfl <;> simp at h' ⊢
    omega

set_option maxRecDepth 100000 in
set_option maxHeartbeats 1600000 in
theorem specNear (a b : Cl) (w : World) (ha : Fit a) (hb : Fit b) :
    Calls Try.prog 31 #[.agg #[.int .i64 a.x, .int .i64 a.y], .agg #[.int .i64 b.x, .int .i64 b.y]] w fun e w' => e = .returned (.bool (near a b)) ∧ Below w.heap.size w w' := by
  obtain ⟨ax, ay⟩ := a
  obtain ⟨bx, by'⟩ := b
  unfold Fit at ha hb
  dsimp only at ha hb ⊢
  have hv : near ⟨ax, ay⟩ ⟨bx, by'⟩ = decide ((ax - bx) * (ax - bx) + (ay - by') * (ay - by') = 1) := rfl
  obtain ⟨p1, p2⟩ := sq_le (d := ax - bx) (by omega)
  obtain ⟨q1, q2⟩ := sq_le (d := ay - by') (by omega)
  have t1 : wrap64 (ax - bx) = ax - bx := IntWalk.wrap64_in _ (by omega)
  have t2 : wrap64 (ay - by') = ay - by' := IntWalk.wrap64_in _ (by omega)
  have t3 : wrap64 ((ax - bx) * (ax - bx)) = (ax - bx) * (ax - bx) := IntWalk.wrap64_in _ (by omega)
  have t4 : wrap64 ((ay - by') * (ay - by')) = (ay - by') * (ay - by') := IntWalk.wrap64_in _ (by omega)
  have t5 : wrap64 ((ax - bx) * (ax - bx) + (ay - by') * (ay - by')) = (ax - bx) * (ax - bx) + (ay - by') * (ay - by') := IntWalk.wrap64_in _ (by omega)
  have hbv : ((ax - bx) * (ax - bx) + (ay - by') * (ay - by') == 1) = near ⟨ax, ay⟩ ⟨bx, by'⟩ := by rw [hv]; rfl
  have HBV := Lib.hid hbv
  clear hv hbv p1 p2 q1 q2
  generalize near ⟨ax, ay⟩ ⟨bx, by'⟩ = r at HBV ⊢
  obtain ⟨w2, hw2⟩ : ∃ w2, w2 = (w.alloc (.cells #[.int .i64 ax, .int .i64 ay] 39)).alloc (.cells #[.int .i64 bx, .int .i64 by'] 39) := ⟨_, rfl⟩
  have hb2 : Below w.heap.size w w2 := by rw [hw2]; exact ((Below.refl _ _).alloc (Nat.le_refl _) _).alloc (by simp) _
  have HW2 := Lib.hid hw2
  have HB2 := Lib.hid hb2
  clear hw2 hb2
  go_enter Try.func31, Try.ntmps31
  go_wp2
  go_ret
  rw [← HW2.out]
  exact ⟨by first | (rw [HBV.out]; done) | (rw [HBV.out]; rfl), HB2.out⟩

set_option maxRecDepth 100000 in
set_option maxHeartbeats 3200000 in
theorem implNear (a b : Cl) (w : World) (ha : Fit a) (hb : Fit b) :
    Calls Try.prog 39 #[.agg #[.int .i64 a.x, .int .i64 a.y], .agg #[.int .i64 b.x, .int .i64 b.y]] w fun e w' => e = .returned (.bool (near a b)) ∧ Below w.heap.size w w' := by
  have hv := near_max a b
  obtain ⟨ax, ay⟩ := a
  obtain ⟨bx, by'⟩ := b
  unfold Fit at ha hb
  dsimp only at ha hb hv ⊢
  have t1 : IntKind.i64.wrap (ax - bx) = ax - bx := IntWalk.i64_in _ (by omega)
  have t2 : IntKind.i64.wrap (bx - ax) = bx - ax := IntWalk.i64_in _ (by omega)
  have t3 : IntKind.i64.wrap (ay - by') = ay - by' := IntWalk.i64_in _ (by omega)
  have t4 : IntKind.i64.wrap (by' - ay) = by' - ay := IntWalk.i64_in _ (by omega)
  have s1 : wrap64 (ax - bx) = ax - bx := IntWalk.wrap64_in _ (by omega)
  have s2 : wrap64 (bx - ax) = bx - ax := IntWalk.wrap64_in _ (by omega)
  have s3 : wrap64 (ay - by') = ay - by' := IntWalk.wrap64_in _ (by omega)
  have s4 : wrap64 (by' - ay) = by' - ay := IntWalk.wrap64_in _ (by omega)
  have s5 : wrap64 (max (ax - bx) (bx - ax) + max (ay - by') (by' - ay)) = max (ax - bx) (bx - ax) + max (ay - by') (by' - ay) := IntWalk.wrap64_in _ (by omega)
  have hbv : (max (ax - bx) (bx - ax) + max (ay - by') (by' - ay) == 1) = near ⟨ax, ay⟩ ⟨bx, by'⟩ := by rw [← hv]; rfl
  have HBV := Lib.hid hbv
  clear hv hbv
  generalize near ⟨ax, ay⟩ ⟨bx, by'⟩ = r at HBV ⊢
  obtain ⟨w2, hw2⟩ : ∃ w2, w2 = (w.alloc (.cells #[.int .i64 ax, .int .i64 ay] 39)).alloc (.cells #[.int .i64 bx, .int .i64 by'] 39) := ⟨_, rfl⟩
  have hb2 : Below w.heap.size w w2 := by rw [hw2]; exact ((Below.refl _ _).alloc (Nat.le_refl _) _).alloc (by simp) _
  have hz2 : w2.heap.size = w.heap.size + 2 := by rw [hw2]; simp
  have hk1 : w2.heap[w.heap.size + 1]? = some (.cells #[.int .i64 bx, .int .i64 by'] 39 (0, 0)) := by
    have q := heap_alloc_new (w.alloc (.cells #[.int .i64 ax, .int .i64 ay] 39)) (.cells #[.int .i64 bx, .int .i64 by'] 39)
    have e : (w.alloc (.cells #[.int .i64 ax, .int .i64 ay] 39)).heap.size = w.heap.size + 1 := by simp
    rw [e] at q
    rw [hw2]
    exact q
  have hk0 : w2.heap[w.heap.size]? = some (.cells #[.int .i64 ax, .int .i64 ay] 39 (0, 0)) := by
    have q := ((Below.refl (w.heap.size + 1) (w.alloc (.cells #[.int .i64 ax, .int .i64 ay] 39))).alloc (by simp) (.cells #[.int .i64 bx, .int .i64 by'] 39)).block w.heap.size (by omega)
    rw [hw2, q]
    exact heap_alloc_new w _
  have HW2 := Lib.hid hw2
  have HB2 := Lib.hid hb2
  obtain ⟨x0, x1⟩ := cl_box hk0
  obtain ⟨y0, y1⟩ := cl_box hk1
  clear hw2 hb2 hk0 hk1
  go_enter Try.func39, Try.ntmps39
  go_upto_region 1 with (fail)
  rw [← HW2.out]
  clear HW2
  go_region_held3 (fun w' => w'.cell? ⟨w.heap.size, 0, none⟩ = some (.int .i64 ax) ∧ w'.cell? ⟨w.heap.size, 1, none⟩ = some (.int .i64 ay) ∧ w'.cell? ⟨w.heap.size + 1, 0, none⟩ = some (.int .i64 bx) ∧ w'.cell? ⟨w.heap.size + 1, 1, none⟩ = some (.int .i64 by')) (go_keep) (fail)
  all_goals go_wp2
  all_goals go_ret
  all_goals refine ⟨?_, HB2.out.drew⟩
  all_goals (rw [← HBV.out]; show Ending.returned (Value.bool _) = Ending.returned (Value.bool _); congr 2; rw [Bool.eq_iff_iff, beq_iff_eq, beq_iff_eq]; omega)
end Go.Proofs.Ytcoggnoeafpgbaa
