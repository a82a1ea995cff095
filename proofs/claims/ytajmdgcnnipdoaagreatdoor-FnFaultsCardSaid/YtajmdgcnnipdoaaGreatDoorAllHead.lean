/- AllHead: parts laid together: CellE, CellH, FrameCell, Shape0, RegP, RegH, FrameReg. -/
import Derived.Test.YtajmdgcnnipdoaaGreatDoorAllBase
import Derived.Test.YtajmdgcnnipdoaaGreatDoorAllFrame

/- CellE: cells as the elements of a slice. -/
namespace Go.Proofs.YtajmdgcnnipdoaaGreatDoor
open Go.RowKit

theorem Tryz.infoCl : (Tryz.prog.info? 91).map (fun i => (i.zero, i.size, i.bytes)) = some (some (.agg #[.int .i64 0, .int .i64 0]), 2, 16) := by kernel_rfl
theorem Tryz.elemCl : ElemT Tryz.prog 40 91 (.agg #[.int .i64 0, .int .i64 0]) 2 16 := ⟨Tryz.underlying40, info_parts Tryz.infoCl, rfl, by decide⟩
theorem clsl_ne {xs ys : List Cl} {k : Nat} (h1 : k < xs.length) (h2 : k < ys.length) (h : ¬ xs[k] = ys[k]) : ¬ xs = ys := by
  rintro rfl; exact h rfl
theorem clsl_take {xs ys : List Cl} {k : Nat} (h1 : k < xs.length) (h2 : k < ys.length) (ht : xs.take k = ys.take k) (h : xs[k] = ys[k]) : xs.take (k + 1) = ys.take (k + 1) := by
  rw [List.take_succ_eq_append_getElem h1, List.take_succ_eq_append_getElem h2, ht, h]
end Go.Proofs.YtajmdgcnnipdoaaGreatDoor

/- Shape0: when a list of cells is a shape; its corner and its extent; plain. -/
namespace Go.Proofs.YtajmdgcnnipdoaaGreatDoor
open Go.RowKit

def OnB (c : Cl) : Prop := (0 ≤ c.x ∧ c.x ≤ 7) ∧ 0 ≤ c.y ∧ c.y ≤ 7
instance (c : Cl) : Decidable (OnB c) := by unfold OnB; infer_instance
/-- A list of 1 to 8 cells on the board, in order. -/
def Shape (l : List Cl) : Prop := (AscG ltC l ∧ ∀ c ∈ l, OnB c) ∧ 1 ≤ l.length ∧ l.length ≤ 8
instance (l : List Cl) : Decidable (Shape l) := by unfold Shape AscG; infer_instance
/-- The first k cells have been found to be right. -/
def okTo (l : List Cl) (k : Nat) : Prop := ∀ i, i < k → ∀ h : i < l.length, OnB l[i] ∧ (0 < i → ltC (l.getD (i - 1) default) l[i] = true)
theorem okTo_zero (l : List Cl) : okTo l 0 := fun i h => by omega
theorem okTo_succ {l : List Cl} {k : Nat} (h : okTo l k) (hk : k < l.length) (h1 : OnB l[k]) (h2 : 0 < k → ltC (l.getD (k - 1) default) l[k] = true) : okTo l (k + 1) := by
  intro i hi hl
  by_cases e : i = k
  · subst e; exact ⟨h1, h2⟩
  · exact h i (by omega) hl
theorem asc_of_chain {l : List Cl} (h : ∀ i (hi : i < l.length), 0 < i → ltC (l.getD (i - 1) default) l[i] = true) : AscG ltC l := by
  unfold AscG
  rw [List.pairwise_iff_getElem]
  intro i j hi hj hij
  have key : ∀ d, ∀ hd : i + (d + 1) < l.length, ltC l[i] l[i + (d + 1)] = true := by
    intro d
    induction d with
    | zero =>
      intro hd
      have := h (i + 1) (by omega) (by omega)
      rw [Nat.add_sub_cancel, getDG (by omega)] at this
      exact this
    | succ d ih =>
      intro hd
      have h1 := ih (by omega)
      have h2 := h (i + (d + 1 + 1)) hd (by omega)
      rw [show i + (d + 1 + 1) - 1 = i + (d + 1) by omega, getDG (by omega)] at h2
      exact wholeC.tr _ _ _ h1 h2
  have := key (j - i - 1) (by omega)
  simpa [show i + (j - i - 1 + 1) = j by omega] using this
theorem shape_iff {l : List Cl} (h : okTo l l.length) : Shape l ↔ 1 ≤ l.length ∧ l.length ≤ 8 := by
  constructor
  · exact fun q => q.2
  · refine fun q => ⟨⟨asc_of_chain fun i hi h0 => (h i hi hi).2 h0, fun c hc => ?_⟩, q⟩
    obtain ⟨i, hi, rfl⟩ := List.mem_iff_getElem.1 hc
    exact (h i hi hi).1
theorem shape_ok {l : List Cl} (h : Shape l) : okTo l l.length := by
  intro i hi hl
  refine ⟨h.1.2 _ (List.getElem_mem hl), fun h0 => ?_⟩
  rw [getDG (by omega)]
  exact List.pairwise_iff_getElem.1 h.1.1 (i - 1) i (by omega) hl (by omega)
theorem not_shape {l : List Cl} {k : Nat} (hk : k < l.length) (h : ¬ (OnB l[k] ∧ (0 < k → ltC (l.getD (k - 1) default) l[k] = true))) : ¬ Shape l := fun q => h (shape_ok q k hk hk)

/-- The least of a coordinate over the first k cells; the greatest, and one more. -/
def minTo (f : Cl → Int) (l : List Cl) : Nat → Int
  | 0 => 0
  | k + 1 => if k = 0 then f (l.getD 0 default) else min (minTo f l k) (f (l.getD k default))
def maxTo (f : Cl → Int) (l : List Cl) : Nat → Int
  | 0 => 0
  | k + 1 => max (maxTo f l k) (f (l.getD k default) + 1)
theorem minTo_bd {f : Cl → Int} {l : List Cl} {a b : Int} (h : ∀ c ∈ l, a ≤ f c ∧ f c ≤ b) : ∀ k, 0 < k → k ≤ l.length → a ≤ minTo f l k ∧ minTo f l k ≤ b := by
  intro k
  induction k with
  | zero => intro h; omega
  | succ k ih =>
    intro _ hk
    have h1 := h (l.getD k default) (by rw [getDG (by omega)]; exact List.getElem_mem _)
    unfold minTo
    split
    · rename_i e
      subst e
      exact h1
    · have := ih (by omega) (by omega)
      omega
theorem minTo_le {f : Cl → Int} {l : List Cl} : ∀ k, k ≤ l.length → ∀ i, i < k → ∀ hi : i < l.length, minTo f l k ≤ f l[i] := by
  intro k
  induction k with
  | zero => intro _ i h; omega
  | succ k ih =>
    intro hk i hi hl
    unfold minTo
    split
    · rename_i e
      obtain rfl : i = 0 := by omega
      rw [getDG (by omega)]
      exact Int.le_refl _
    · by_cases e : i = k
      · subst e
        rw [getDG (by omega)]
        omega
      · have := ih (by omega) i (by omega) hl
        omega
theorem minTo_mem {f : Cl → Int} {l : List Cl} : ∀ k, 0 < k → k ≤ l.length → ∃ c ∈ l, minTo f l k = f c := by
  intro k
  induction k with
  | zero => intro h; omega
  | succ k ih =>
    intro _ hk
    unfold minTo
    split
    · exact ⟨_, by rw [getDG (by omega)]; exact List.getElem_mem _, rfl⟩
    · obtain ⟨c, hc, e⟩ := ih (by omega) (by omega)
      rcases Int.le_total (minTo f l k) (f (l.getD k default)) with q | q
      · exact ⟨c, hc, by omega⟩
      · exact ⟨l.getD k default, by rw [getDG (by omega)]; exact List.getElem_mem _, by omega⟩
theorem maxTo_bd {f : Cl → Int} {l : List Cl} {b : Int} (hb : 0 ≤ b) (h : ∀ c ∈ l, f c + 1 ≤ b) : ∀ k, k ≤ l.length → 0 ≤ maxTo f l k ∧ maxTo f l k ≤ b := by
  intro k
  induction k with
  | zero => intro _; exact ⟨Int.le_refl _, hb⟩
  | succ k ih =>
    intro hk
    have h1 := h (l.getD k default) (by rw [getDG (by omega)]; exact List.getElem_mem _)
    have := ih (by omega)
    unfold maxTo
    omega
theorem maxTo_ge {f : Cl → Int} {l : List Cl} : ∀ k, k ≤ l.length → ∀ i, i < k → ∀ hi : i < l.length, f l[i] + 1 ≤ maxTo f l k := by
  intro k
  induction k with
  | zero => intro _ i h; omega
  | succ k ih =>
    intro hk i hi hl
    unfold maxTo
    by_cases e : i = k
    · subst e
      rw [getDG (by omega)]
      omega
    · have := ih (by omega) i (by omega) hl
      omega
def shiftC (a b : Int) (c : Cl) : Cl := ⟨c.x - a, c.y - b⟩
def shift (l : List Cl) (a b : Int) : List Cl := l.map (shiftC a b)
theorem shift_length (l : List Cl) (a b : Int) : (shift l a b).length = l.length := by simp [shift]
theorem ltC_shift (a b : Int) (c d : Cl) : ltC (shiftC a b c) (shiftC a b d) = ltC c d := by
  rw [Bool.eq_iff_iff, ltC_iff, ltC_iff]
  simp only [shiftC]
  omega
theorem asc_shift {l : List Cl} (h : AscG ltC l) (a b : Int) : AscG ltC (shift l a b) := by
  unfold AscG shift
  rw [List.pairwise_map]
  exact h.imp fun {x y} q => by rw [ltC_shift]; exact q
theorem shift_putAll (l : List Cl) (a b : Int) : putAllG ltC (shift l a b) = shift (putAllG ltC l) a b := by
  refine putAllG_eq wholeC (asc_shift (asc_putAllG wholeC l) a b) fun c => ?_
  unfold shift
  simp only [List.mem_map, mem_putAllG wholeC]
/-- A list moved so that its least coordinates are 0. -/
def cornL (l : List Cl) : List Cl := shift l (minTo Cl.x l l.length) (minTo Cl.y l l.length)
theorem cornL_length (l : List Cl) : (cornL l).length = l.length := shift_length _ _ _
theorem asc_cornL {l : List Cl} (h : AscG ltC l) : AscG ltC (cornL l) := asc_shift h _ _
theorem corn_mem {l : List Cl} {c : Cl} (h : c ∈ cornL l) : ∃ d ∈ l, c = ⟨d.x - minTo Cl.x l l.length, d.y - minTo Cl.y l l.length⟩ := by
  unfold cornL shift at h
  rw [List.mem_map] at h
  obtain ⟨d, hd, rfl⟩ := h
  exact ⟨d, hd, rfl⟩
theorem cornL_in {l : List Cl} (h : Shape l) {c : Cl} (hc : c ∈ cornL l) : (0 ≤ c.x ∧ c.x ≤ 7) ∧ 0 ≤ c.y ∧ c.y ≤ 7 := by
  obtain ⟨d, hd, rfl⟩ := corn_mem hc
  have hb := h.1.2 d hd
  obtain ⟨i, hi, rfl⟩ := List.mem_iff_getElem.1 hd
  have h1 := minTo_le (f := Cl.x) l.length (Nat.le_refl _) i hi hi
  have h2 := minTo_le (f := Cl.y) l.length (Nat.le_refl _) i hi hi
  have b1 := minTo_bd (f := Cl.x) (a := 0) (b := 7) (fun c hc => (h.1.2 c hc).1) l.length h.2.1 (Nat.le_refl _)
  have b2 := minTo_bd (f := Cl.y) (a := 0) (b := 7) (fun c hc => (h.1.2 c hc).2) l.length h.2.1 (Nat.le_refl _)
  unfold OnB at hb
  simp only
  omega
/-- The width and the height. -/
def cornS (l : List Cl) : List Cl := if Shape l then cornL l else []
def sizeX (l : List Cl) : Int := maxTo Cl.x (cornS l) (cornS l).length
def sizeY (l : List Cl) : Int := maxTo Cl.y (cornS l) (cornS l).length
theorem cornS_in {l : List Cl} {c : Cl} (hc : c ∈ cornS l) : (0 ≤ c.x ∧ c.x ≤ 7) ∧ 0 ≤ c.y ∧ c.y ≤ 7 := by
  unfold cornS at hc
  split at hc
  · exact cornL_in ‹_› hc
  · simp at hc
theorem size_bd (l : List Cl) : (0 ≤ sizeX l ∧ sizeX l ≤ 8) ∧ 0 ≤ sizeY l ∧ sizeY l ≤ 8 :=
  ⟨maxTo_bd (by omega) (fun _ hc => by have := (cornS_in hc).1; omega) _ (Nat.le_refl _), maxTo_bd (by omega) (fun _ hc => by have := (cornS_in hc).2; omega) _ (Nat.le_refl _)⟩
theorem cornS_length (l : List Cl) : (cornS l).length ≤ 8 := by
  unfold cornS
  split
  · rename_i h
    rw [cornL_length]; exact h.2.2
  · simp
theorem cornS_yes {l : List Cl} (h : Shape l) : cornS l = cornL l := by unfold cornS; rw [if_pos h]
theorem cornS_no {l : List Cl} (h : ¬ Shape l) : cornS l = [] := by unfold cornS; rw [if_neg h]
theorem shape_len {l : List Cl} (h : Shape l) : 1 ≤ l.length ∧ l.length ≤ 8 := h.2
theorem shape_bd {l : List Cl} (h : Shape l) : ∀ d ∈ l, (-1000 ≤ d.x ∧ d.x ≤ 1000) ∧ -1000 ≤ d.y ∧ d.y ≤ 1000 := by
  intro d hd
  have hb := h.1.2 d hd
  unfold OnB at hb
  omega
theorem maxTo_succ (f : Cl → Int) (l : List Cl) (k : Nat) : maxTo f l (k + 1) = max (maxTo f l k) (f (l.getD k default) + 1) := rfl
end Go.Proofs.YtajmdgcnnipdoaaGreatDoor

/- RegP: when a region is valid; plain. -/
namespace Go.Proofs.YtajmdgcnnipdoaaGreatDoor
open Go.RowKit

def regV (b : Int) (ad : Option Addr) (n c : Nat) : Value := .agg #[.int .i64 b, .slice ad n c]
theorem lt_of_blk {w : World} {b : Nat} {o : Obj} (h : w.heap[b]? = some o) : b < w.heap.size := (Array.getElem?_eq_some_iff.1 h).1
/-- When a region is valid. -/
def Reg (b : Int) (xs : List Int) : Prop := (1 ≤ b ∧ b ≤ 6) ∧ (1 ≤ xs.length ∧ xs.length ≤ 6) ∧ ∀ x ∈ xs, 0 ≤ x ∧ x < 2 ^ b.toNat
instance (b : Int) (xs : List Int) : Decidable (Reg b xs) := by unfold Reg; infer_instance
end Go.Proofs.YtajmdgcnnipdoaaGreatDoor
