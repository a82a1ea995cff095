/- UsefulA: what is left of the tiles round by round, for the walks of UsefulWang. -/
import Derived.Test.YtdnklmdmafbogaaDoorUseful0
import Derived.Test.YtdnklmdmafbogaaDoorAreWang
import Derived.Test.YtdnklmdmafbogaaDoorAllBase
import Derived.Deep.DeepCutAuto
namespace Go.Proofs.YtdnklmdmafbogaaDoor
open Go.RowKit

/-- Where it starts: all tiles, or none. -/
def useStart (ts : List Tile) : List Nat := if Wangs ts then List.range ts.length else []
def useful (ts : List Tile) : List Nat := useIter ts 6 (useStart ts)
theorem useStart_le (ts : List Tile) : (useStart ts).length ≤ 6 := by
  unfold useStart
  split
  · rename_i h; simpa using h.2.2
  · simp
theorem useStep_mem {ts : List Tile} {C : List Nat} (h : ∀ i ∈ C, i < ts.length) : ∀ i ∈ useStep ts C, i < ts.length := fun i hi => h i (List.mem_filter.1 hi).1
theorem useIter_le (ts : List Tile) : ∀ (n : Nat) (C : List Nat), (useIter ts n C).length ≤ C.length := by
  intro n
  induction n with
  | zero => intro C; exact Nat.le_refl _
  | succ n ih => intro C; exact Nat.le_trans (ih _) (useStep_le ts C)
theorem useful_length (ts : List Tile) : (useful ts).length ≤ 6 := Nat.le_trans (useIter_le ts 6 _) (useStart_le ts)
/-- What is known of the tiles that are left. -/
def Left (ts : List Tile) (C : List Nat) : Prop := C.length ≤ 6 ∧ ∀ i ∈ C, i < ts.length
theorem left_start (ts : List Tile) : Left ts (useStart ts) := by
  refine ⟨useStart_le ts, fun i hi => ?_⟩
  unfold useStart at hi
  split at hi
  · exact List.mem_range.1 hi
  · cases hi
theorem Left.step {ts : List Tile} {C : List Nat} (h : Left ts C) : Left ts (useStep ts C) := ⟨Nat.le_trans (useStep_le ts C) h.1, useStep_mem h.2⟩
theorem left_iter (ts : List Tile) : ∀ n, Left ts (useIter ts n (useStart ts)) := by
  intro n
  induction n with
  | zero => exact left_start ts
  | succ n ih => rw [useIter_succ]; exact ih.step
/-- One of the first k tiles that are left meets tile i, by p. -/
def met (ts : List Tile) (p : Tile → Tile → Bool) (C : List Nat) (i k : Nat) : Bool := (C.take k).any fun j => p (Tl ts j) (Tl ts i)
def pT (y x : Tile) : Bool := y.b == x.t
def pR (y x : Tile) : Bool := y.l == x.r
def pB (y x : Tile) : Bool := y.t == x.b
def pL (y x : Tile) : Bool := y.r == x.l
theorem met_zero (ts : List Tile) (p : Tile → Tile → Bool) (C : List Nat) (i : Nat) : met ts p C i 0 = false := by simp [met]
theorem met_succ (ts : List Tile) (p : Tile → Tile → Bool) {C : List Nat} (i : Nat) {k : Nat} (h : k < C.length) : met ts p C i (k + 1) = (met ts p C i k || p (Tl ts C[k]) (Tl ts i)) := by
  unfold met
  rw [List.take_succ_eq_append_getElem h, List.any_append]
  simp
theorem useB_met (ts : List Tile) (C : List Nat) (i : Nat) : useB ts C i = (met ts pT C i C.length && met ts pR C i C.length && met ts pB C i C.length && met ts pL C i C.length) := by
  unfold useB met
  rw [List.take_length]
  rfl
theorem filter_take_succ {p : Nat → Bool} {C : List Nat} {k : Nat} (h : k < C.length) : (C.take (k + 1)).filter p = (C.take k).filter p ++ (if p C[k] = true then [C[k]] else []) := by
  rw [List.take_succ_eq_append_getElem h, List.filter_append]
  congr 1
  by_cases q : p C[k] = true
  · rw [if_pos q, List.filter_cons_of_pos q]; rfl
  · rw [if_neg q, List.filter_cons_of_neg q]; rfl
theorem natsC_at {C : List Nat} {k : Nat} (h : k < C.length) : (ints (nats C))[k]? = some (.int .i64 (C[k] : Nat)) := by simp [ints, nats, h]
theorem Tl_eq {ts : List Tile} {j : Nat} (h : j < ts.length) : Tl ts j = ts[j] := by simp [Tl, List.getD_eq_getElem?_getD, h]

def UseTo (w wr : World) (C : List Nat) (v : Value) : Prop := wr.ownsRow w.heap.size 3 1 v C.length (ints (nats C)) ∧ Below w.heap.size w wr
end Go.Proofs.YtdnklmdmafbogaaDoor
