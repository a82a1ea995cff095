/- AllReg: parts laid together: RegOk, Mask0, RegMask, Turn0, Place0, InReg, InRegI. -/
import Derived.Test.YtgplpngphaaefaaDoorAllHead

/- Turn0: turned cells, a turned shape in its corner, the order of shapes, the shapes' putting; plain. -/
namespace Go.Proofs.YtgplpngphaaefaaDoor
open Go.RowKit

def negX (c : Cl) : Cl := ⟨-c.x, c.y⟩
def rotC (c : Cl) : Cl := ⟨-c.y, c.x⟩
def rotN : Nat → Cl → Cl
  | 0, c => c
  | k + 1, c => rotC (rotN k c)
def flipC (m : Nat) (c : Cl) : Cl := if 4 ≤ m then negX c else c
def carryC (m : Nat) (c : Cl) : Cl := rotN (m % 4) (flipC m c)
def In (B : Int) (c : Cl) : Prop := (-B ≤ c.x ∧ c.x ≤ B) ∧ -B ≤ c.y ∧ c.y ≤ B
theorem in_rot {B : Int} {c : Cl} (h : In B c) : In B (rotC c) := by unfold In rotC at *; simp only; omega
theorem in_neg {B : Int} {c : Cl} (h : In B c) : In B (negX c) := by unfold In negX at *; simp only; omega
theorem in_rotN {B : Int} {c : Cl} (h : In B c) : ∀ k, In B (rotN k c)
  | 0 => h
  | k + 1 => in_rot (in_rotN h k)
theorem in_flip {B : Int} {c : Cl} (h : In B c) (m : Nat) : In B (flipC m c) := by unfold flipC; split; exact in_neg h; exact h
theorem in_carry {B : Int} {c : Cl} (h : In B c) (m : Nat) : In B (carryC m c) := in_rotN (in_flip h m) _
def turnL (l : List Cl) (m : Nat) : List Cl := l.map (carryC m)
theorem turnL_length (l : List Cl) (m : Nat) : (turnL l m).length = l.length := by simp [turnL]
theorem turnL_take (l : List Cl) (m k : Nat) (hk : k < l.length) : turnL (l.take (k + 1)) m = turnL (l.take k) m ++ [carryC m l[k]] := by
  unfold turnL
  rw [List.take_succ_eq_append_getElem hk, List.map_append]
  rfl
theorem in_turnL {B : Int} {l : List Cl} (h : ∀ c ∈ l, In B c) (m : Nat) : ∀ c ∈ turnL l m, In B c := by
  intro c hc
  unfold turnL at hc
  rw [List.mem_map] at hc
  obtain ⟨d, hd, rfl⟩ := hc
  exact in_carry (h d hd) m
/-- A list of cells turned, put in order and into its corner. -/
def tcorn (l : List Cl) (m : Nat) : List Cl := cornL (putAllG ltC (turnL l m))
theorem putAllG_pos {l : List Cl} (h : 0 < l.length) : 0 < (putAllG ltC l).length := by
  obtain ⟨a, m, rfl⟩ : ∃ a m, l = a :: m := by
    cases l with
    | nil => simp at h
    | cons a m => exact ⟨a, m, rfl⟩
  exact List.length_pos_of_mem ((mem_putAllG wholeC _ a).2 List.mem_cons_self)
theorem minTo_same {f : Cl → Int} {l m : List Cl} (hl : 0 < l.length) (hm : 0 < m.length) (h : ∀ c, c ∈ l ↔ c ∈ m) : minTo f l l.length = minTo f m m.length := by
  obtain ⟨c, hc, e1⟩ := minTo_mem (f := f) (l := l) l.length hl (Nat.le_refl _)
  obtain ⟨d, hd, e2⟩ := minTo_mem (f := f) (l := m) m.length hm (Nat.le_refl _)
  obtain ⟨i, hi, hi'⟩ := List.mem_iff_getElem.1 ((h c).1 hc)
  obtain ⟨j, hj, hj'⟩ := List.mem_iff_getElem.1 ((h d).2 hd)
  have h1 := minTo_le (f := f) (l := m) m.length (Nat.le_refl _) i hi hi
  have h2 := minTo_le (f := f) (l := l) l.length (Nat.le_refl _) j hj hj
  rw [hi'] at h1
  rw [hj'] at h2
  omega
/-- The corner of a list of cells, put in order. -/
theorem corn_putAll {l : List Cl} (h : 0 < l.length) : putAllG ltC (cornL l) = cornL (putAllG ltC l) := by
  unfold cornL
  rw [shift_putAll, minTo_same (f := Cl.x) h (putAllG_pos h) (fun c => (mem_putAllG wholeC l c).symm), minTo_same (f := Cl.y) h (putAllG_pos h) (fun c => (mem_putAllG wholeC l c).symm)]
theorem carry_coords (m : Nat) (hm : m < 8) : ∃ sx sy : Int, (sx = 1 ∨ sx = -1) ∧ (sy = 1 ∨ sy = -1) ∧
    ((∀ c : Cl, carryC m c = ⟨sx * c.x, sy * c.y⟩) ∨ ∀ c : Cl, carryC m c = ⟨sx * c.y, sy * c.x⟩) := by
  have hc : m = 0 ∨ m = 1 ∨ m = 2 ∨ m = 3 ∨ m = 4 ∨ m = 5 ∨ m = 6 ∨ m = 7 := by omega
  rcases hc with rfl | rfl | rfl | rfl | rfl | rfl | rfl | rfl
  · exact ⟨1, 1, .inl rfl, .inl rfl, .inl fun c => by simp [carryC, rotN, flipC]⟩
  · exact ⟨-1, 1, .inr rfl, .inl rfl, .inr fun c => by simp [carryC, rotN, flipC, rotC]⟩
  · exact ⟨-1, -1, .inr rfl, .inr rfl, .inl fun c => by simp [carryC, rotN, flipC, rotC]⟩
  · exact ⟨1, -1, .inl rfl, .inr rfl, .inr fun c => by simp [carryC, rotN, flipC, rotC]⟩
  · exact ⟨-1, 1, .inr rfl, .inl rfl, .inl fun c => by simp [carryC, rotN, flipC, negX]⟩
  · exact ⟨-1, -1, .inr rfl, .inr rfl, .inr fun c => by simp [carryC, rotN, flipC, negX, rotC]⟩
  · exact ⟨1, -1, .inl rfl, .inr rfl, .inl fun c => by simp [carryC, rotN, flipC, negX, rotC]⟩
  · exact ⟨1, 1, .inl rfl, .inl rfl, .inr fun c => by simp [carryC, rotN, flipC, negX, rotC]⟩
/-- A turned shape is a shape. -/
theorem shape_tcorn {l : List Cl} (h : Shape l) {m : Nat} (hm : m < 8) : Shape (tcorn l m) := by
  have hpos : 0 < (turnL l m).length := by rw [turnL_length]; exact h.2.1
  refine ⟨⟨asc_cornL (asc_putAllG wholeC _), ?_⟩, ?_, ?_⟩
  · intro c hc
    unfold tcorn at hc
    obtain ⟨d, hd, rfl⟩ := corn_mem hc
    have hd1 := (mem_putAllG wholeC _ d).1 hd
    obtain ⟨ex, hex, e1⟩ := minTo_mem (f := Cl.x) (l := putAllG ltC (turnL l m)) _ (putAllG_pos hpos) (Nat.le_refl _)
    obtain ⟨ey, hey, e2⟩ := minTo_mem (f := Cl.y) (l := putAllG ltC (turnL l m)) _ (putAllG_pos hpos) (Nat.le_refl _)
    have hex1 := (mem_putAllG wholeC _ ex).1 hex
    have hey1 := (mem_putAllG wholeC _ ey).1 hey
    obtain ⟨i, hi, hi'⟩ := List.mem_iff_getElem.1 hd
    have l1 := minTo_le (f := Cl.x) (l := putAllG ltC (turnL l m)) _ (Nat.le_refl _) i hi hi
    have l2 := minTo_le (f := Cl.y) (l := putAllG ltC (turnL l m)) _ (Nat.le_refl _) i hi hi
    rw [hi'] at l1 l2
    rw [e1] at l1 ⊢
    rw [e2] at l2 ⊢
    unfold turnL at hd1 hex1 hey1
    rw [List.mem_map] at hd1 hex1 hey1
    obtain ⟨a, ha, rfl⟩ := hd1
    obtain ⟨b, hb, rfl⟩ := hex1
    obtain ⟨b', hb', rfl⟩ := hey1
    have q1 := h.1.2 a ha
    have q2 := h.1.2 b hb
    have q3 := h.1.2 b' hb'
    obtain ⟨sx, sy, h1, h2, h3⟩ := carry_coords m hm
    unfold OnB at q1 q2 q3 ⊢
    simp only at l1 l2 ⊢
    rcases h3 with h3 | h3
    · rw [h3, h3] at l1 l2
      rw [h3 a, h3 b, h3 b']
      simp only at l1 l2 ⊢
      rcases h1 with rfl | rfl <;> rcases h2 with rfl | rfl <;> omega
    · rw [h3, h3] at l1 l2
      rw [h3 a, h3 b, h3 b']
      simp only at l1 l2 ⊢
      rcases h1 with rfl | rfl <;> rcases h2 with rfl | rfl <;> omega
  · unfold tcorn
    rw [cornL_length]
    exact putAllG_pos hpos
  · unfold tcorn
    rw [cornL_length]
    have := putAllG_length (lt := ltC) (turnL l m)
    rw [turnL_length] at this
    exact Nat.le_trans this h.2.2
/-- The first k motions' results, put in order. -/
def orientTo (l : List Cl) : Nat → List (List Cl)
  | 0 => []
  | k + 1 => putG ltS (orientTo l k) (tcorn l k)
def orientL (l : List Cl) : List (List Cl) := if Shape l then orientTo l 8 else []
theorem orientTo_length (l : List Cl) : ∀ k, (orientTo l k).length ≤ k
  | 0 => Nat.le_refl _
  | k + 1 => by
    have h1 := orientTo_length l k
    have h2 := putG_length (lt := ltS) (orientTo l k) (tcorn l k)
    unfold orientTo
    omega
theorem orientTo_asc (l : List Cl) : ∀ k, AscG ltS (orientTo l k)
  | 0 => List.Pairwise.nil
  | k + 1 => asc_putG wholeS (orientTo_asc l k) _
theorem mem_orientTo {l x : List Cl} : ∀ {k}, x ∈ orientTo l k → ∃ m, m < k ∧ x = tcorn l m
  | 0, h => by simp [orientTo] at h
  | k + 1, h => by
    unfold orientTo at h
    rcases (mem_putG _ _ x).1 h with rfl | h
    · exact ⟨k, Nat.lt_succ_self k, rfl⟩
    · obtain ⟨m, hm, e⟩ := mem_orientTo h
      exact ⟨m, Nat.lt_succ_of_lt hm, e⟩
theorem orientL_shape {l x : List Cl} (h : x ∈ orientL l) : Shape x := by
  unfold orientL at h
  split at h
  · rename_i hs
    obtain ⟨m, hm, rfl⟩ := mem_orientTo h
    exact shape_tcorn hs hm
  · simp at h
theorem orientL_length (l : List Cl) : (orientL l).length ≤ 8 := by
  unfold orientL
  split
  · exact orientTo_length l 8
  · simp
theorem shape_in {l : List Cl} (h : Shape l) : ∀ c ∈ l, In 7 c := fun c hc => by
  have := h.1.2 c hc
  unfold OnB at this
  unfold In
  omega
/-- What CompareShapes hands back. -/
def cmpS (a b : List Cl) : Int := if ltS a b = true then -1 else if ltS b a = true then 1 else 0
end Go.Proofs.YtgplpngphaaefaaDoor
