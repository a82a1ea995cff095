/- Shapes: lists of shapes in memory: their slices in a row of the call's own, each with cells of the call's own. -/
import Derived.Test.YtcoggnoeafpgbaaGreatAllReg
import Derived.Test.YtcoggnoeafpgbaaGreatAllHead
import Derived.Test.YtcoggnoeafpgbaaGreatAllBase
namespace Go.Proofs.YtcoggnoeafpgbaaGreat
open Go.RowKit

theorem Tryz.infoShp : (Tryz.prog.info? 61).map (fun i => (i.zero, i.size, i.bytes)) = some (some (Value.slice none 0 0), 1, 24) := by kernel_rfl
theorem Tryz.elemShp : ElemT Tryz.prog 31 61 (.slice none 0 0) 1 24 := ⟨Tryz.underlying31, info_parts Tryz.infoShp, rfl, by decide⟩
def All2 (R : Value → List Cl → Prop) : List Value → List (List Cl) → Prop
  | [], [] => True
  | v :: vs, x :: xs => R v x ∧ All2 R vs xs
  | _, _ => False
theorem All2.length {R : Value → List Cl → Prop} : ∀ {vs : List Value} {xs : List (List Cl)}, All2 R vs xs → vs.length = xs.length
  | [], [], _ => rfl
  | _ :: _, _ :: _, h => by simp [All2.length h.2]
theorem All2.imp {R S : Value → List Cl → Prop} (hi : ∀ v x, R v x → S v x) : ∀ {vs : List Value} {xs : List (List Cl)}, All2 R vs xs → All2 S vs xs
  | [], [], _ => trivial
  | _ :: _, _ :: _, h => ⟨hi _ _ h.1, All2.imp hi h.2⟩
theorem All2.append {R : Value → List Cl → Prop} : ∀ {vs us : List Value} {xs ys : List (List Cl)}, All2 R vs xs → All2 R us ys → All2 R (vs ++ us) (xs ++ ys)
  | [], _, [], _, _, k => k
  | _ :: _, _, _ :: _, _, h, k => ⟨h.1, All2.append h.2 k⟩
  | [], _, _ :: _, _, h, _ => h.elim
  | _ :: _, _, [], _, h, _ => h.elim
theorem All2.take {R : Value → List Cl → Prop} : ∀ {vs : List Value} {xs : List (List Cl)} (k : Nat), All2 R vs xs → All2 R (vs.take k) (xs.take k)
  | [], [], k, _ => by simp [All2]
  | _ :: _, _ :: _, 0, _ => by simp [All2]
  | _ :: _, _ :: _, k + 1, h => ⟨h.1, All2.take k h.2⟩
theorem All2.drop {R : Value → List Cl → Prop} : ∀ {vs : List Value} {xs : List (List Cl)} (k : Nat), All2 R vs xs → All2 R (vs.drop k) (xs.drop k)
  | [], [], k, _ => by simp [All2]
  | _ :: _, _ :: _, 0, h => h
  | _ :: _, _ :: _, k + 1, h => All2.drop k h.2
theorem All2.at {R : Value → List Cl → Prop} : ∀ {vs : List Value} {xs : List (List Cl)} {k : Nat} (_ : All2 R vs xs) (hk : k < xs.length), ∃ v, vs[k]? = some v ∧ R v xs[k]
  | [], [], k, _, hk => by simp at hk
  | _ :: _, _ :: _, 0, h, _ => ⟨_, rfl, h.1⟩
  | _ :: vs, _ :: xs, k + 1, h, hk => by
    obtain ⟨v, h1, h2⟩ := All2.at (k := k) h.2 (by simpa using hk)
    exact ⟨v, by simpa using h1, h2⟩
/-- A shape's slice, its cells being of the call's own. -/
def ShpAt (w : World) (base : Nat) (v : Value) (x : List Cl) : Prop := ∃ ai ci, v = .slice ai x.length ci ∧ w.ownsRow base 81 2 (.slice ai x.length ci) x.length (cls x)
theorem ShpAt.below {w w' : World} {base : Nat} {v : Value} {x : List Cl} (h : ShpAt w base v x) (hb : Below w.heap.size w w') : ShpAt w' base v x := by
  obtain ⟨ai, ci, h1, h2⟩ := h
  exact ⟨ai, ci, h1, ownsRow_far_below h2 hb (Nat.le_refl _)⟩
theorem ShpAt.rebase {w : World} {base base' : Nat} {v : Value} {x : List Cl} (h : ShpAt w base v x) (hb : base' ≤ base) : ShpAt w base' v x := by
  obtain ⟨ai, ci, h1, h2⟩ := h
  exact ⟨ai, ci, h1, ownsRow_rebase h2 hb⟩
/-- Behind writes to the row of the slices. -/
theorem ShpAt.grown {w w' : World} {base b n : Nat} {v r : Value} {cs : List Value} {x : List Cl} (h : ShpAt w base v x) (ho : w.ownsRow b 61 1 r n cs) (hg : w.grownBy w' r.ownBlock) : ShpAt w' base v x := by
  obtain ⟨ai, ci, h1, q2⟩ := h
  refine ⟨ai, ci, h1, q2.kept hg ?_⟩
  rcases q2.2 with ⟨hv, _⟩ | ⟨g, c, cur, hv, _, hblk, _⟩
  · left; rw [hv]; rfl
  · rcases ho.2 with ⟨hv', _⟩ | ⟨g', c', cur', hv', _, hblk', _⟩
    · right; rw [hv, hv']; simp [Value.ownBlock]
    · right
      rw [hv, hv']
      intro hgg
      have hgg' : g = g' := by simpa [Value.ownBlock] using hgg
      subst hgg'
      rw [hblk] at hblk'
      simp at hblk'
def ShapesIn (w : World) (base : Nat) (vs : List Value) (xs : List (List Cl)) : Prop := All2 (ShpAt w base) vs xs
theorem ShapesIn.below {w w' : World} {base : Nat} {vs : List Value} {xs : List (List Cl)} (h : ShapesIn w base vs xs) (hb : Below w.heap.size w w') : ShapesIn w' base vs xs := All2.imp (fun _ _ q => q.below hb) h
theorem ShapesIn.grown {w w' : World} {base b n : Nat} {r : Value} {cs : List Value} {vs : List Value} {xs : List (List Cl)} (h : ShapesIn w base vs xs) (ho : w.ownsRow b 61 1 r n cs) (hg : w.grownBy w' r.ownBlock) : ShapesIn w' base vs xs :=
  All2.imp (fun _ _ q => q.grown ho hg) h
theorem ShapesIn.rebase {w : World} {base base' : Nat} {vs : List Value} {xs : List (List Cl)} (h : ShapesIn w base vs xs) (hb : base' ≤ base) : ShapesIn w base' vs xs := All2.imp (fun _ _ q => q.rebase hb) h
/-- One more shape, at a place. -/
theorem ShapesIn.put {w : World} {base : Nat} {vs : List Value} {xs : List (List Cl)} {v : Value} {x : List Cl} (h : ShapesIn w base vs xs) (hv : ShpAt w base v x) (k : Nat) : ShapesIn w base (vs.take k ++ [v] ++ vs.drop k) (xs.take k ++ [x] ++ xs.drop k) :=
  All2.append (All2.append (All2.take k h) ⟨hv, trivial⟩) (All2.drop k h)
theorem shps_one {w : World} {base : Nat} : ∀ {vs : List Value} {xs : List (List Cl)}, ShapesIn w base vs xs → ∀ u ∈ vs, u.oneCell' = true
  | [], _, _ => fun u hu => by simp at hu
  | v :: vs, x :: xs, h => fun u hu => by
    rcases List.mem_cons.1 hu with rfl | hu
    · obtain ⟨ai, ci, rfl, _⟩ := h.1
      rfl
    · exact shps_one (vs := vs) (xs := xs) h.2 u hu
/-- A slice of shapes, whoever made it: how it is read. -/
def ShpsAt (w : World) (ad : Option Addr) (xs : List (List Cl)) : Prop :=
  ∃ vs, CellsAt w ad vs ∧ All2 (fun v x => ∃ ai ci, v = .slice ai x.length ci ∧ CellsAt w ai (cls x)) vs xs
theorem ShpsAt.below {w w' : World} {ad : Option Addr} {xs : List (List Cl)} (h : ShpsAt w ad xs) (hb : Below w.heap.size w w') : ShpsAt w' ad xs := by
  obtain ⟨vs, h1, h2⟩ := h
  exact ⟨vs, h1.below hb, All2.imp (fun _ _ ⟨ai, ci, q1, q2⟩ => ⟨ai, ci, q1, q2.below hb⟩) h2⟩
theorem ShpsAt.of {w : World} {base n c : Nat} {ad : Option Addr} {vs : List Value} {xs : List (List Cl)} (h : w.ownsRow base 61 1 (.slice ad n c) n vs) (hs : ShapesIn w base vs xs) : ShpsAt w ad xs :=
  ⟨vs, ownsRow_cellsAt h, All2.imp (fun _ _ ⟨ai, ci, q1, q2⟩ => ⟨ai, ci, q1, ownsRow_cellsAt q2⟩) hs⟩
theorem ShpsAt.row {w : World} {ad : Option Addr} {xs : List (List Cl)} (h : ShpsAt w ad xs) {i : Nat} (hi : i < xs.length) :
    ∃ g off ai ci, ad = some ⟨g, off, none⟩ ∧ g < w.heap.size ∧ w.cell? ⟨g, off + i, none⟩ = some (Value.slice ai xs[i].length ci) ∧ CellsAt w ai (cls xs[i]) := by
  obtain ⟨vs, h1, h2⟩ := h
  have hl := h2.length
  obtain ⟨g, off, rfl, hg, hc⟩ := h1.open (by omega)
  obtain ⟨v, q1, ai, ci, rfl, q2⟩ := h2.at hi
  exact ⟨g, off, ai, ci, rfl, hg, hc i _ q1, q2⟩
theorem lexPut {rows : List (List Cl)} {s : List Cl} {i : Nat} (h : AscG ltS rows) (hi : i ≤ rows.length) (h1 : ∀ j (hj : j < rows.length), j < i → ltS rows[j] s = true) (h2 : ∀ j (hj : j < rows.length), i ≤ j → ltS rows[j] s = false)
    (hne : ∀ hj : i < rows.length, rows[i] ≠ s) : putG ltS rows s = rows.take i ++ [s] ++ rows.drop i := by
  refine ascG_ext wholeS (asc_putG wholeS h s) ?_ fun x => ?_
  · have hgt : ∀ j (hj : j < rows.length), i ≤ j → ltS s rows[j] = true := by
      intro j hj hij
      rcases wholeS.of_not (h2 j hj hij) with q | q
      · exfalso
        by_cases e : j = i
        · subst e; exact hne hj q
        · have h3 := List.pairwise_iff_getElem.1 h i j (by omega) hj (by omega)
          rw [q, h2 i (by omega) (Nat.le_refl _)] at h3
          cases h3
      · exact q
    unfold AscG at h ⊢
    rw [List.append_assoc]
    refine List.pairwise_append.2 ⟨h.sublist (List.take_sublist _ _), ?_, ?_⟩
    · show List.Pairwise _ (s :: rows.drop i)
      refine List.pairwise_cons.2 ⟨fun b hb => ?_, h.sublist (List.drop_sublist _ _)⟩
      obtain ⟨j, hj, rfl⟩ := List.mem_iff_getElem.1 hb
      rw [List.length_drop] at hj
      rw [List.getElem_drop]
      exact hgt _ (by omega) (by omega)
    · intro a ha b hb
      obtain ⟨j, hj, rfl⟩ := List.mem_iff_getElem.1 ha
      rw [List.length_take] at hj
      rw [List.getElem_take]
      have hjs := h1 j (by omega) (by omega)
      have hb' : b ∈ s :: rows.drop i := hb
      rcases List.mem_cons.1 hb' with rfl | hb
      · exact hjs
      · obtain ⟨j', hj', rfl⟩ := List.mem_iff_getElem.1 hb
        rw [List.length_drop] at hj'
        rw [List.getElem_drop]
        exact wholeS.tr _ _ _ hjs (hgt _ (by omega) (by omega))
  · rw [mem_putG]
    constructor
    · rintro (rfl | q)
      · simp
      · rw [← List.take_append_drop i rows] at q
        rcases List.mem_append.1 q with q | q
        · simp [q]
        · simp [q]
    · intro q
      rcases List.mem_append.1 q with q | q
      · rcases List.mem_append.1 q with q | q
        · exact .inr (List.mem_of_mem_take q)
        · exact .inl (List.mem_singleton.1 q)
      · exact .inr (List.mem_of_mem_drop q)
end Go.Proofs.YtcoggnoeafpgbaaGreat
