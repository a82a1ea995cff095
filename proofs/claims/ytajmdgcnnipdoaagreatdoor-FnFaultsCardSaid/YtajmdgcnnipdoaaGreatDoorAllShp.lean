/- AllShp: parts laid together: Shapes, Pieces. -/
import Derived.Test.YtajmdgcnnipdoaaGreatDoorAllReg
import Derived.Test.YtajmdgcnnipdoaaGreatDoorAllHead
import Derived.Test.YtajmdgcnnipdoaaGreatDoorAllBase
import Derived.Test.YtajmdgcnnipdoaaGreatDoorAllShape

/- Shapes: lists of shapes in memory: their slices in a row of the call's own, each with cells of the call's own. -/
namespace Go.Proofs.YtajmdgcnnipdoaaGreatDoor
open Go.RowKit

theorem Tryz.infoShp : (Tryz.prog.info? 40).map (fun i => (i.zero, i.size, i.bytes)) = some (some (Value.slice none 0 0), 1, 24) := by kernel_rfl
theorem Tryz.elemShp : ElemT Tryz.prog 27 40 (.slice none 0 0) 1 24 := ⟨Tryz.underlying27, info_parts Tryz.infoShp, rfl, by decide⟩
def All2 (R : Value → List Cl → Prop) : List Value → List (List Cl) → Prop
  | [], [] => True
  | v :: vs, x :: xs => R v x ∧ All2 R vs xs
  | _, _ => False
theorem All2.length {R : Value → List Cl → Prop} : ∀ {vs : List Value} {xs : List (List Cl)}, All2 R vs xs → vs.length = xs.length
  | [], [], _ => rfl
  | _ :: _, _ :: _, h => by simp [All2.length h.2]
theorem All2.imp {R S : Value → List Cl → Prop} (hi : ∀ v x, R v x → S v x) : ∀ {vs : List Value} {xs : List (List Cl)}, All2 R vs xs → All2 S vs xs
  | [], [], _ => trivial
  | _ :: _, _ :: _, h => ⟨hi _ _ h.1, All2.imp hi h.2⟩
theorem All2.append {R : Value → List Cl → Prop} : ∀ {vs us : List Value} {xs ys : List (List Cl)}, All2 R vs xs → All2 R us ys → All2 R (vs ++ us) (xs ++ ys)
  | [], _, [], _, _, k => k
  | _ :: _, _, _ :: _, _, h, k => ⟨h.1, All2.append h.2 k⟩
  | [], _, _ :: _, _, h, _ => h.elim
  | _ :: _, _, [], _, h, _ => h.elim
theorem All2.take {R : Value → List Cl → Prop} : ∀ {vs : List Value} {xs : List (List Cl)} (k : Nat), All2 R vs xs → All2 R (vs.take k) (xs.take k)
  | [], [], k, _ => by simp [All2]
  | _ :: _, _ :: _, 0, _ => by simp [All2]
  | _ :: _, _ :: _, k + 1, h => ⟨h.1, All2.take k h.2⟩
theorem All2.drop {R : Value → List Cl → Prop} : ∀ {vs : List Value} {xs : List (List Cl)} (k : Nat), All2 R vs xs → All2 R (vs.drop k) (xs.drop k)
  | [], [], k, _ => by simp [All2]
  | _ :: _, _ :: _, 0, h => h
  | _ :: _, _ :: _, k + 1, h => All2.drop k h.2
theorem All2.at {R : Value → List Cl → Prop} : ∀ {vs : List Value} {xs : List (List Cl)} {k : Nat} (_ : All2 R vs xs) (hk : k < xs.length), ∃ v, vs[k]? = some v ∧ R v xs[k]
  | [], [], k, _, hk => by simp at hk
  | _ :: _, _ :: _, 0, h, _ => ⟨_, rfl, h.1⟩
  | _ :: vs, _ :: xs, k + 1, h, hk => by
    obtain ⟨v, h1, h2⟩ := All2.at (k := k) h.2 (by simpa using hk)
    exact ⟨v, by simpa using h1, h2⟩
/-- A shape's slice, its cells being of the call's own. -/
def ShpAt (w : World) (base : Nat) (v : Value) (x : List Cl) : Prop := ∃ ai ci, v = .slice ai x.length ci ∧ w.ownsRow base 91 2 (.slice ai x.length ci) x.length (cls x)
theorem ShpAt.below {w w' : World} {base : Nat} {v : Value} {x : List Cl} (h : ShpAt w base v x) (hb : Below w.heap.size w w') : ShpAt w' base v x := by
  obtain ⟨ai, ci, h1, h2⟩ := h
  exact ⟨ai, ci, h1, ownsRow_far_below h2 hb (Nat.le_refl _)⟩
theorem ShpAt.rebase {w : World} {base base' : Nat} {v : Value} {x : List Cl} (h : ShpAt w base v x) (hb : base' ≤ base) : ShpAt w base' v x := by
  obtain ⟨ai, ci, h1, h2⟩ := h
  exact ⟨ai, ci, h1, ownsRow_rebase h2 hb⟩
/-- Behind writes to the row of the slices. -/
theorem ShpAt.grown {w w' : World} {base b n : Nat} {v r : Value} {cs : List Value} {x : List Cl} (h : ShpAt w base v x) (ho : w.ownsRow b 40 1 r n cs) (hg : w.grownBy w' r.ownBlock) : ShpAt w' base v x := by
  obtain ⟨ai, ci, h1, q2⟩ := h
  refine ⟨ai, ci, h1, q2.kept hg ?_⟩
  rcases q2.2 with ⟨hv, _⟩ | ⟨g, c, cur, hv, _, hblk, _⟩
  · left; rw [hv]; rfl
  · rcases ho.2 with ⟨hv', _⟩ | ⟨g', c', cur', hv', _, hblk', _⟩
    · right; rw [hv, hv']; simp [Value.ownBlock]
    · right
      rw [hv, hv']
      intro hgg
      have hgg' : g = g' := by simpa [Value.ownBlock] using hgg
      subst hgg'
      rw [hblk] at hblk'
      simp at hblk'
def ShapesIn (w : World) (base : Nat) (vs : List Value) (xs : List (List Cl)) : Prop := All2 (ShpAt w base) vs xs
theorem ShapesIn.below {w w' : World} {base : Nat} {vs : List Value} {xs : List (List Cl)} (h : ShapesIn w base vs xs) (hb : Below w.heap.size w w') : ShapesIn w' base vs xs := All2.imp (fun _ _ q => q.below hb) h
theorem ShapesIn.grown {w w' : World} {base b n : Nat} {r : Value} {cs : List Value} {vs : List Value} {xs : List (List Cl)} (h : ShapesIn w base vs xs) (ho : w.ownsRow b 40 1 r n cs) (hg : w.grownBy w' r.ownBlock) : ShapesIn w' base vs xs :=
  All2.imp (fun _ _ q => q.grown ho hg) h
theorem ShapesIn.rebase {w : World} {base base' : Nat} {vs : List Value} {xs : List (List Cl)} (h : ShapesIn w base vs xs) (hb : base' ≤ base) : ShapesIn w base' vs xs := All2.imp (fun _ _ q => q.rebase hb) h
/-- One more shape, at a place. -/
theorem ShapesIn.put {w : World} {base : Nat} {vs : List Value} {xs : List (List Cl)} {v : Value} {x : List Cl} (h : ShapesIn w base vs xs) (hv : ShpAt w base v x) (k : Nat) : ShapesIn w base (vs.take k ++ [v] ++ vs.drop k) (xs.take k ++ [x] ++ xs.drop k) :=
  All2.append (All2.append (All2.take k h) ⟨hv, trivial⟩) (All2.drop k h)
theorem shps_one {w : World} {base : Nat} : ∀ {vs : List Value} {xs : List (List Cl)}, ShapesIn w base vs xs → ∀ u ∈ vs, u.oneCell' = true
  | [], _, _ => fun u hu => by simp at hu
  | v :: vs, x :: xs, h => fun u hu => by
    rcases List.mem_cons.1 hu with rfl | hu
    · obtain ⟨ai, ci, rfl, _⟩ := h.1
      rfl
    · exact shps_one (vs := vs) (xs := xs) h.2 u hu
/-- A slice of shapes, whoever made it: how it is read. -/
def ShpsAt (w : World) (ad : Option Addr) (xs : List (List Cl)) : Prop :=
  ∃ vs, CellsAt w ad vs ∧ All2 (fun v x => ∃ ai ci, v = .slice ai x.length ci ∧ CellsAt w ai (cls x)) vs xs
theorem ShpsAt.below {w w' : World} {ad : Option Addr} {xs : List (List Cl)} (h : ShpsAt w ad xs) (hb : Below w.heap.size w w') : ShpsAt w' ad xs := by
  obtain ⟨vs, h1, h2⟩ := h
  exact ⟨vs, h1.below hb, All2.imp (fun _ _ ⟨ai, ci, q1, q2⟩ => ⟨ai, ci, q1, q2.below hb⟩) h2⟩
theorem ShpsAt.of {w : World} {base n c : Nat} {ad : Option Addr} {vs : List Value} {xs : List (List Cl)} (h : w.ownsRow base 40 1 (.slice ad n c) n vs) (hs : ShapesIn w base vs xs) : ShpsAt w ad xs :=
  ⟨vs, ownsRow_cellsAt h, All2.imp (fun _ _ ⟨ai, ci, q1, q2⟩ => ⟨ai, ci, q1, ownsRow_cellsAt q2⟩) hs⟩
theorem ShpsAt.row {w : World} {ad : Option Addr} {xs : List (List Cl)} (h : ShpsAt w ad xs) {i : Nat} (hi : i < xs.length) :
    ∃ g off ai ci, ad = some ⟨g, off, none⟩ ∧ g < w.heap.size ∧ w.cell? ⟨g, off + i, none⟩ = some (Value.slice ai xs[i].length ci) ∧ CellsAt w ai (cls xs[i]) := by
  obtain ⟨vs, h1, h2⟩ := h
  have hl := h2.length
  obtain ⟨g, off, rfl, hg, hc⟩ := h1.open (by omega)
  obtain ⟨v, q1, ai, ci, rfl, q2⟩ := h2.at hi
  exact ⟨g, off, ai, ci, rfl, hg, hc i _ q1, q2⟩
theorem lexPut {rows : List (List Cl)} {s : List Cl} {i : Nat} (h : AscG ltS rows) (hi : i ≤ rows.length) (h1 : ∀ j (hj : j < rows.length), j < i → ltS rows[j] s = true) (h2 : ∀ j (hj : j < rows.length), i ≤ j → ltS rows[j] s = false)
    (hne : ∀ hj : i < rows.length, rows[i] ≠ s) : putG ltS rows s = rows.take i ++ [s] ++ rows.drop i := by
  refine ascG_ext wholeS (asc_putG wholeS h s) ?_ fun x => ?_
  · have hgt : ∀ j (hj : j < rows.length), i ≤ j → ltS s rows[j] = true := by
      intro j hj hij
      rcases wholeS.of_not (h2 j hj hij) with q | q
      · exfalso
        by_cases e : j = i
        · subst e; exact hne hj q
        · have h3 := List.pairwise_iff_getElem.1 h i j (by omega) hj (by omega)
          rw [q, h2 i (by omega) (Nat.le_refl _)] at h3
          cases h3
      · exact q
    unfold AscG at h ⊢
    rw [List.append_assoc]
    refine List.pairwise_append.2 ⟨h.sublist (List.take_sublist _ _), ?_, ?_⟩
    · show List.Pairwise _ (s :: rows.drop i)
      refine List.pairwise_cons.2 ⟨fun b hb => ?_, h.sublist (List.drop_sublist _ _)⟩
      obtain ⟨j, hj, rfl⟩ := List.mem_iff_getElem.1 hb
      rw [List.length_drop] at hj
      rw [List.getElem_drop]
      exact hgt _ (by omega) (by omega)
    · intro a ha b hb
      obtain ⟨j, hj, rfl⟩ := List.mem_iff_getElem.1 ha
      rw [List.length_take] at hj
      rw [List.getElem_take]
      have hjs := h1 j (by omega) (by omega)
      have hb' : b ∈ s :: rows.drop i := hb
      rcases List.mem_cons.1 hb' with rfl | hb
      · exact hjs
      · obtain ⟨j', hj', rfl⟩ := List.mem_iff_getElem.1 hb
        rw [List.length_drop] at hj'
        rw [List.getElem_drop]
        exact wholeS.tr _ _ _ hjs (hgt _ (by omega) (by omega))
  · rw [mem_putG]
    constructor
    · rintro (rfl | q)
      · simp
      · rw [← List.take_append_drop i rows] at q
        rcases List.mem_append.1 q with q | q
        · simp [q]
        · simp [q]
    · intro q
      rcases List.mem_append.1 q with q | q
      · rcases List.mem_append.1 q with q | q
        · exact .inr (List.mem_of_mem_take q)
        · exact .inl (List.mem_singleton.1 q)
      · exact .inr (List.mem_of_mem_drop q)
end Go.Proofs.YtajmdgcnnipdoaaGreatDoor

/- Pieces: the walks of ArePieces, the reference's and the program's. -/
namespace Go.Proofs.YtajmdgcnnipdoaaGreatDoor
open Go.RowKit

def Pcs (ps : List (List Cl)) : Prop := (∀ p ∈ ps, Shape p) ∧ 1 ≤ ps.length ∧ ps.length ≤ 5
instance (ps : List (List Cl)) : Decidable (Pcs ps) := by unfold Pcs; infer_instance

set_option maxRecDepth 100000 in
set_option maxHeartbeats 1600000 in
theorem specPieces (ad : Option Addr) (c : Nat) (ps : List (List Cl)) (w : World) (hn : ps.length ≤ 1048576) (hl : ∀ p ∈ ps, p.length ≤ 1048576) (hc : ShpsAt w ad ps) :
    Calls Tryz.prog 66 #[.slice ad ps.length c] w fun e w' => e = .returned (.bool (decide (Pcs ps))) ∧ Below w.heap.size w w' := by
  have HC := Lib.hid hc
  have HL := Lib.hid hl
  clear hc hl
  go_enter Tryz.func66, Tryz.ntmps66
  go_wp2
  go_loopw [3] (fun i wr => ∃ k : Nat, k ≤ ps.length ∧ i = .int .i64 k ∧ (∀ p ∈ ps.take k, Shape p) ∧ Below w.heap.size w wr) (fun i _ => ps.length - (intOf i).toNat)
  case atStart => exact ⟨0, Nat.zero_le _, rfl, by simp, Below.refl _ _⟩
  case round =>
    obtain ⟨k, hk, rfl, hs, hb⟩ := hrel
    have HS := Lib.hid hs
    have HB := Lib.hid hb
    have hszr := hb.size
    clear hs
    by_cases hlt : k < ps.length
    · obtain ⟨g, off, ai, ci, rfl, hg, hcell, hrow⟩ := HC.out.row hlt
      have x0 := (hb.cell (p := ⟨g, off + k, none⟩) hg).trans hcell
      have hpl := HL.out _ (List.getElem_mem hlt)
      have htk := List.take_succ_eq_append_getElem hlt
      have i1 : (k : Int) < (ps.length : Int) := by omega
      have hsh := specShape ai ci ps[k] wr hpl (hrow.below hb)
      have hmem := List.getElem_mem hlt
      have HTK := Lib.hid htk
      have HMEM := Lib.hid hmem
      clear hcell hrow htk hb hmem
      generalize ps[k] = p at x0 hsh hpl HTK HMEM
      by_cases hp : Shape p
      · rw [decide_eq_true hp] at hsh
        have HSH := Lib.hid hsh
        have HP := Lib.hid hp
        clear hsh hp
        go_wp2_with fail
        refine HSH.out.mono ?_
        rintro e w2 ⟨rfl, hb2⟩
        have HB2 := Lib.hid (HB.out.trans (hb2.mono hszr))
        clear hb2
        go_wp2
        go_roundw
        case rel =>
          refine ⟨k + 1, by omega, by go_num, ?_, HB2.out⟩
          rw [HTK.out]
          intro q hq
          rcases List.mem_append.1 hq with hq | hq
          · exact HS.out q hq
          · rw [List.mem_singleton.1 hq]; exact HP.out
        case measure => simp [intOf]; omega
      · rw [decide_eq_false hp] at hsh
        have hno : ¬ Pcs ps := fun h => hp (h.1 p HMEM.out)
        have HV := Lib.hid (decide_eq_false hno)
        have HSH := Lib.hid hsh
        clear hsh hp hno
        go_wp2_with fail
        refine HSH.out.mono ?_
        rintro e w2 ⟨rfl, hb2⟩
        have HB2 := Lib.hid (HB.out.trans (hb2.mono hszr))
        clear hb2
        go_wp2
        go_ret
        rw [HV.out]
        exact ⟨rfl, HB2.out⟩
    · obtain rfl : k = ps.length := by omega
      rw [List.take_length] at HS
      have hv : decide (Pcs ps) = (decide ((1 : Int) ≤ (ps.length : Int)) && decide ((ps.length : Int) ≤ 5)) := by
        rw [Bool.eq_iff_iff, Bool.and_eq_true, decide_eq_true_iff, decide_eq_true_iff, decide_eq_true_iff]
        exact ⟨fun h => ⟨by have := h.2.1; omega, by have := h.2.2; omega⟩, fun h => ⟨HS.out, by omega, by omega⟩⟩
      have HV := Lib.hid hv
      clear hv
      go_wp2_with fail
      refine (l1In_any _ _ _ _).mono ?_
      rintro e w2 ⟨rfl, rfl⟩
      go_wp2
      go_ret
      rw [HV.out]
      exact ⟨rfl, HB.out⟩

set_option maxRecDepth 100000 in
set_option maxHeartbeats 1600000 in
theorem implPieces (ad : Option Addr) (c : Nat) (ps : List (List Cl)) (w : World) (hn : ps.length ≤ 1048576) (hl : ∀ p ∈ ps, p.length ≤ 1048576) (hc : ShpsAt w ad ps) :
    Calls Tryz.prog 118 #[.slice ad ps.length c] w fun e w' => e = .returned (.bool (decide (Pcs ps))) ∧ Below w.heap.size w w' := by
  have HC := Lib.hid hc
  have HL := Lib.hid hl
  clear hc hl
  go_enter Tryz.func118, Tryz.ntmps118
  go_wp2
  go_loopw [7] (fun i wr => ∃ k : Nat, k ≤ ps.length ∧ i = .int .i64 k ∧ (∀ p ∈ ps.take k, Shape p) ∧ Below w.heap.size w wr) (fun i _ => ps.length - (intOf i).toNat)
  case atStart => exact ⟨0, Nat.zero_le _, rfl, by simp, Below.refl _ _⟩
  case round =>
    obtain ⟨k, hk, rfl, hs, hb⟩ := hrel
    have HS := Lib.hid hs
    have HB := Lib.hid hb
    have hszr := hb.size
    clear hs
    by_cases hlt : k < ps.length
    · obtain ⟨g, off, ai, ci, rfl, hg, hcell, hrow⟩ := HC.out.row hlt
      have x0 := (hb.cell (p := ⟨g, off + k, none⟩) hg).trans hcell
      have hpl := HL.out _ (List.getElem_mem hlt)
      have htk := List.take_succ_eq_append_getElem hlt
      have i1 : (k : Int) < (ps.length : Int) := by omega
      have hsh := implShape ai ci ps[k] wr hpl (hrow.below hb)
      have hmem := List.getElem_mem hlt
      have HTK := Lib.hid htk
      have HMEM := Lib.hid hmem
      clear hcell hrow htk hb hmem
      generalize ps[k] = p at x0 hsh hpl HTK HMEM
      by_cases hp : Shape p
      · rw [decide_eq_true hp] at hsh
        have HSH := Lib.hid hsh
        have HP := Lib.hid hp
        clear hsh hp
        go_wp2_with fail
        refine HSH.out.mono ?_
        rintro e w2 ⟨rfl, hb2⟩
        have HB2 := Lib.hid (HB.out.trans (hb2.mono hszr))
        clear hb2
        go_wp2
        go_roundw
        case rel =>
          refine ⟨k + 1, by omega, by go_num, ?_, HB2.out⟩
          rw [HTK.out]
          intro q hq
          rcases List.mem_append.1 hq with hq | hq
          · exact HS.out q hq
          · rw [List.mem_singleton.1 hq]; exact HP.out
        case measure => simp [intOf]; omega
      · rw [decide_eq_false hp] at hsh
        have hno : ¬ Pcs ps := fun h => hp (h.1 p HMEM.out)
        have HV := Lib.hid (decide_eq_false hno)
        have HSH := Lib.hid hsh
        clear hsh hp hno
        go_wp2_with fail
        refine HSH.out.mono ?_
        rintro e w2 ⟨rfl, hb2⟩
        have HB2 := Lib.hid (HB.out.trans (hb2.mono hszr))
        clear hb2
        go_wp2
        go_ret
        rw [HV.out]
        exact ⟨rfl, HB2.out⟩
    · obtain rfl : k = ps.length := by omega
      rw [List.take_length] at HS
      have hv : decide (Pcs ps) = (decide ((1 : Int) ≤ (ps.length : Int)) && decide ((ps.length : Int) ≤ 5)) := by
        rw [Bool.eq_iff_iff, Bool.and_eq_true, decide_eq_true_iff, decide_eq_true_iff, decide_eq_true_iff]
        exact ⟨fun h => ⟨by have := h.2.1; omega, by have := h.2.2; omega⟩, fun h => ⟨HS.out, by omega, by omega⟩⟩
      have HV := Lib.hid hv
      clear hv
      go_wp2_with fail
      refine (between_any _ _ _ _).mono ?_
      rintro e w2 ⟨rfl, rfl⟩
      go_wp2
      go_ret
      rw [HV.out]
      exact ⟨rfl, HB.out⟩
end Go.Proofs.YtajmdgcnnipdoaaGreatDoor
