/- SortG0: cells in an array while they are sorted: the array's swap in the row, the sort's result as a list; plain. -/
import Derived.Test.YtipikojinfpidaaOrderG
import Derived.Test.YtipikojinfpidaaCl0
import Derived.Shelf.GgSortFunc.InsertionK
namespace Go.Proofs.Ytipikojinfpidaa
open Go.RowKit

def encC (c : Cl) : List Value := [.int .i64 c.x, .int .i64 c.y]
theorem encC_len (c : Cl) : (encC c).length = 2 := rfl
theorem encC_one (c : Cl) : ∀ v ∈ encC c, v.oneCell' = true := by
  intro v hv
  unfold encC at hv
  simp only [List.mem_cons, List.not_mem_nil, or_false] at hv
  rcases hv with rfl | rfl <;> rfl
theorem cls_cons (c : Cl) (l : List Cl) : cls (c :: l) = .int .i64 c.x :: .int .i64 c.y :: cls l := rfl
theorem cls_put (x y : Int) : ∀ (l : List Cl) (k : Nat), ((cls l).set (k * 2) (.int .i64 x)).set (k * 2 + 1) (.int .i64 y) = cls (l.set k ⟨x, y⟩)
  | [], k => by simp [cls]
  | c :: l, 0 => by rw [cls_cons]; rfl
  | c :: l, k + 1 => by
    rw [cls_cons, List.set_cons_succ, cls_cons, ← cls_put x y l k, show (k + 1) * 2 = k * 2 + 1 + 1 from by omega]
    rfl
theorem swp_toList (d : Array Cl) (i j : Nat) : (Go.Sort.swp d i j).toList = (d.toList.set i d[j]!).set j d[i]! := by
  unfold Go.Sort.swp
  rw [Array.toList_setIfInBounds, Array.toList_setIfInBounds]
theorem cls_swp (d : Array Cl) (i j : Nat) : (((((cls d.toList).set (i * 2) (.int .i64 d[j]!.x)).set (i * 2 + 1) (.int .i64 d[j]!.y)).set (j * 2) (.int .i64 d[i]!.x)).set (j * 2 + 1) (.int .i64 d[i]!.y)) = cls (Go.Sort.swp d i j).toList := by
  rw [cls_put, cls_put, swp_toList]
theorem cls_arr_length (d : Array Cl) : (cls d.toList).length = d.size * 2 := by rw [cls_length, Array.length_toList]
/-- The row's cells are the array's, flat. -/
theorem cls_flat (d : Array Cl) (t : Nat) (h : t < d.size * 2) : (cls d.toList)[t]? = some (Go.Sort.flatK encC 2 d)[t]! := by
  rw [Go.Sort.get_flatK encC 2 d t h]
  have hk : t / 2 < d.toList.length := by rw [Array.length_toList]; omega
  obtain ⟨h1, h2⟩ := cls_at d.toList (t / 2) hk
  have e : d.toList[t / 2] = d[t / 2]! := by
    rw [Array.getElem_toList, getElem!_pos d (t / 2) (by rw [Array.length_toList] at hk; exact hk)]
  rw [e] at h1 h2
  rcases Nat.mod_two_eq_zero_or_one t with q | q
  · rw [q, show t = t / 2 * 2 from by omega, h1, show t / 2 * 2 / 2 = t / 2 from by omega]; rfl
  · rw [q]
    have : t = t / 2 * 2 + 1 := by omega
    rw [this, h2, show (t / 2 * 2 + 1) / 2 = t / 2 from by omega]; rfl
theorem holdsK_of {w : World} {base g n c : Nat} {d : Array Cl} (hs : d.size = n) (h : w.ownsRow base 47 2 (.slice (some ⟨g, 0, none⟩) n c) n (cls d.toList)) : Go.Sort.HoldsK encC 2 w g 0 d := by
  intro t ht
  rw [Go.Sort.size_flatK] at ht
  refine ⟨?_, ?_⟩
  · rw [Nat.zero_add, h.cellAt t (by omega), cls_flat d t ht]
    rfl
  · rw [Nat.zero_add]
    exact h.frozenAt t
theorem swoC : Go.Sort.SWO ltC where
  irrefl a := wholeC.irr a
  trans a b c h1 h2 := wholeC.tr a b c h1 h2
  ntrans a b c h1 h2 := by
    cases q : ltC a c with
    | false => rfl
    | true =>
      rw [ltC_iff] at q
      have n1 : ¬ (a.y < b.y ∨ (a.y = b.y ∧ a.x < b.x)) := fun r => by rw [ltC_iff.2 r] at h1; cases h1
      have n2 : ¬ (b.y < c.y ∨ (b.y = c.y ∧ b.x < c.x)) := fun r => by rw [ltC_iff.2 r] at h2; cases h2
      omega
/-- What the sort leaves, as a list: the same cells, none ahead of a lesser one. -/
theorem sorted_list (l : List Cl) : ∃ s : List Cl, s = (Go.Sort.insertionSort ltC l.toArray 0 l.length).toList ∧ s.length = l.length ∧ (∀ x, x ∈ s ↔ x ∈ l) ∧ s.Pairwise (fun a b => ltC b a = false) := by
  obtain ⟨⟨h1, _, h2⟩, h3⟩ := Go.Sort.insertionSort_holds swoC l.toArray 0 l.length (Nat.zero_le _) (by simp)
  generalize Go.Sort.insertionSort ltC l.toArray 0 l.length = d at h1 h2 h3
  have hs : d.size = l.length := by rw [h1]; simp
  have e1 : (d.extract 0 l.length) = d := by rw [← hs]; exact Array.extract_size
  have e2 : (l.toArray.extract 0 l.length).toList = l := by simp
  rw [e1, e2] at h2
  refine ⟨d.toList, rfl, by rw [Array.length_toList, hs], fun x => h2.mem_iff, ?_⟩
  rw [List.pairwise_iff_getElem]
  intro i j hi hj hij
  rw [Array.length_toList] at hi hj
  have := h3 i j (Nat.zero_le _) hij (by omega)
  rw [getElem!_pos d i hi, getElem!_pos d j hj] at this
  exact this
theorem dedC_hit {l : List Cl} {i : Nat} (h : i = 0 ∨ l.getD (i - 1) default ≠ l.getD i default) : dedToG l (i + 1) = dedToG l i ++ [l.getD i default] := by
  rw [dedToG, if_pos h]
theorem dedC_miss {l : List Cl} {i : Nat} (h : ¬ (i = 0 ∨ l.getD (i - 1) default ≠ l.getD i default)) : dedToG l (i + 1) = dedToG l i := by
  rw [dedToG, if_neg h]
end Go.Proofs.Ytipikojinfpidaa
