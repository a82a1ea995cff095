/- AllFir: parts laid together: FirL, FirI, FF0. -/
import Derived.Test.YtajmdgcnnipdoaaGreatDoorAllFill
import Derived.Test.YtajmdgcnnipdoaaGreatDoorAllSS
import Derived.Test.YtajmdgcnnipdoaaGreatDoorAllRows
import Derived.OneCell
import Derived.BigRegion
import Derived.Deep.RegionHeld3
import Derived.Laws.EntriesVeiled
import Derived.Test.YtajmdgcnnipdoaaGreatDoorAllPl
import Derived.Test.YtajmdgcnnipdoaaGreatDoorAllCr

/- FirL: what a visitor that collects tilings leaves of the search. -/
namespace Go.Proofs.YtajmdgcnnipdoaaGreatDoor
open Go.RowKit

theorem AtOK.kin {w w' : World} {S lo hi : Nat} {vis : Value} {L : Nat → List Int} (h : AtOK w S vis L) (hk : Kin lo hi w w') (hS : hi ≤ S) : AtOK w' S vis L := by
  obtain ⟨arr, h1, h2, h3, h4, h5, h6⟩ := h
  refine ⟨arr, hk.high S _ _ _ hS h1 (by decide), h2, h3, h4, fun k hk' => ?_, h6⟩
  have ho := h5 k hk'
  refine ⟨ho.1, ?_⟩
  rcases ho.2 with q2 | ⟨g, c, cur, q1, q2, q3, r⟩
  · exact .inl q2
  · exact .inr ⟨g, c, cur, q1, q2, hk.high g _ _ _ (by omega) q3 (by decide), r⟩
theorem Tab.kin {w w' : World} {lo hi : Nat} (h : Tab w) (hk : Kin lo hi w w') (hlo : 1 < lo) : Tab w' :=
  ⟨Nat.lt_of_lt_of_le h.1 hk.size, fun j hj => (World.cell?_of_block (hk.low _ h.1 hlo)).trans (h.2 j hj)⟩
end Go.Proofs.YtajmdgcnnipdoaaGreatDoor

/- FirI: the walk of firstTilings: the first tilings, at most so many. -/
namespace Go.Proofs.YtajmdgcnnipdoaaGreatDoor
open Go.RowKit

theorem callFunc_fir (args : Array Value) (w : World) : Sem.run Tryz.prog (callFunc 148 args) w = .ok (.enter 148 args) w := by kernel_rfl

/-- A slice of rows, each of the call's own. -/
def OwnW (w : World) (base : Nat) (v : Value) (rows : List (List Int)) : Prop := ∃ vals, w.ownsRow base 24 1 v rows.length vals ∧ RowsW w base vals rows
theorem OwnW.below {w w' : World} {base : Nat} {v : Value} {rows : List (List Int)} (h : OwnW w base v rows) (hb : Below w.heap.size w w') : OwnW w' base v rows := by
  obtain ⟨vals, h1, h2⟩ := h
  exact ⟨vals, ownsRow_far_below h1 hb (Nat.le_refl _), h2.below hb⟩
theorem OwnW.rebase {w : World} {base base' : Nat} {v : Value} {rows : List (List Int)} (h : OwnW w base v rows) (hb : base' ≤ base) : OwnW w base' v rows := by
  obtain ⟨vals, h1, h2⟩ := h
  exact ⟨vals, ownsRow_rebase h1 hb, h2.rebase hb⟩
/-- What is known of the world while tilings are collected: the bound, the list, the search. -/
def FirI (lo S most : Nat) (A : List Int) (L : List (List Int)) (w : World) : Prop :=
  (w.heap[lo]? = some (.cells #[.int .i64 most] 3 (0, 0)) ∧ ∃ ao co, w.heap[lo + 1]? = some (.cells #[.slice ao L.length co] 44 (0, 0)) ∧ OwnW w (lo + 2) (.slice ao L.length co) L) ∧ L.length ≤ most ∧
    AtOK w S (.func (.func 148) #[] #[.pointer (some ⟨lo + 1, 0, none⟩), .pointer (some ⟨lo, 0, none⟩)]) (atL A) ∧ Tab w
theorem FirI.below {lo S most : Nat} {A : List Int} {L : List (List Int)} {w w' : World} (h : FirI lo S most A L w) (hb : Below w.heap.size w w') : FirI lo S most A L w' := by
  obtain ⟨⟨h0, ao, co, h1, h2⟩, h3, h4, h5⟩ := h
  exact ⟨⟨(hb.block lo (lt_of_block h0)).trans h0, ao, co, (hb.block (lo + 1) (lt_of_block h1)).trans h1, h2.below hb⟩, h3, h4.below hb, h5.below hb⟩

set_option maxRecDepth 100000 in
set_option maxHeartbeats 1600000 in
theorem firVisit (lo S most : Nat) (A : List Int) (hlo : 1 < lo) (hS : lo + 2 ≤ S) (hm : most ≤ 2000) (L : List (List Int)) (l : List Int) (w : World) (al : Option Addr) (cl : Nat) (hg : GoL (cntG most) L) (h1m : 1 ≤ most) (hI : FirI lo S most A L w)
    (hown : w.ownsRow (lo + 2) 3 1 (.slice al l.length cl) l.length (ints l)) :
    Calls Tryz.prog 148 #[.slice al l.length cl, .pointer (some ⟨lo + 1, 0, none⟩), .pointer (some ⟨lo, 0, none⟩)] w fun e w' => e = .returned (.bool (cntG most (L ++ [l]))) ∧ FirI lo S most A (L ++ [l]) w' ∧ Kin lo (lo + 2) w w' := by
  have hlt : L.length < most := by
    rcases hg with q | q
    · rw [q]; exact h1m
    · exact of_decide_eq_true q
  obtain ⟨⟨h1, ao, co, h2, vals, h3, h3r⟩, _, h4, h5⟩ := hI
  have x1 := cell_of_one h1
  have x2 := cell_of_one h2
  have y2 := free_of_one h2
  have hszw := lt_of_block h2
  have HX1 := Lib.hid x1
  have HX2 := Lib.hid x2
  have HY2 := Lib.hid y2
  have H1 := Lib.hid h1
  have H2 := Lib.hid h2
  have H3 := Lib.hid h3
  have H3R := Lib.hid h3r
  have H4 := Lib.hid h4
  have H5 := Lib.hid h5
  have HOW := Lib.hid hown
  have hl : (L ++ [l]).length = L.length + 1 := by simp
  have hcg : cntG most (L ++ [l]) = decide (L.length + 1 < most) := by unfold cntG; rw [hl]
  have HL := Lib.hid hl
  rw [hcg]
  have hpush : ∀ (g' cap : Nat) (w2 : World), w2.ownsRow (lo + 2) 24 1 (.slice (some ⟨g', 0, none⟩) (L.length + 1) cap) (L.length + 1) (vals ++ (#[Value.slice al l.length cl]).toList) → Below (lo + 2) w w2 → w.grownBy w2 (Value.slice ao L.length co).ownBlock →
      FirI lo S most A (L ++ [l]) (w2.setCell ⟨lo + 1, 0, none⟩ (.slice (some ⟨g', 0, none⟩) (L.length + 1) cap)) ∧ Kin lo (lo + 2) w (w2.setCell ⟨lo + 1, 0, none⟩ (.slice (some ⟨g', 0, none⟩) (L.length + 1) cap)) := by
    intro g' cap w2 q1 q2 q3
    have hk1 : Kin lo (lo + 2) w w2 := Kin.grown H3.out (by omega) q3
    have hk2 : Kin lo (lo + 2) w2 (w2.setCell ⟨lo + 1, 0, none⟩ (.slice (some ⟨g', 0, none⟩) (L.length + 1) cap)) := Kin.of_touched ((Touched.refl lo (lo + 2) w2).setCell (p := ⟨lo + 1, 0, none⟩) (by show lo ≤ lo + 1; omega) (by show lo + 1 < lo + 2; omega) _)
    have hk := hk1.trans hk2
    refine ⟨⟨⟨?_, some ⟨g', 0, none⟩, cap, ?_, ?_⟩, by rw [HL.out]; omega, H4.out.kin hk hS, H5.out.kin hk hlo⟩, hk⟩
    · rw [Below.heap_setCell _ _ _ _ (by show lo ≠ lo + 1; omega)]
      exact (q2.block lo (by omega)).trans H1.out
    · rw [HL.out]
      exact one_setCell ((q2.block (lo + 1) (by omega)).trans H2.out)
    · rw [HL.out]
      refine ⟨vals ++ [.slice al l.length cl], ?_, ?_⟩
      · rw [HL.out]
        exact ownsRow_setCell_below q1 (by show lo + 1 < lo + 2; omega) _
      · exact RowsW.snoc (H3R.out.mono fun _ _ _ q => hk.owns q) (hk.owns HOW.out)
  have HPUSH := Lib.hid hpush
  have hc1 : L.length + 1 ≤ maxLen := by unfold maxLen; omega
  have hbal : Below w.heap.size w (w.alloc (.cells #[.slice al l.length cl] 24)).drew := ((Below.refl w.heap.size w).alloc (Nat.le_refl _) _).drew
  have ka1 := (hbal.cell (p := ⟨lo + 1, 0, none⟩) hszw).trans x2
  have ka2 := (hbal.frozen (p := ⟨lo + 1, 0, none⟩) hszw).trans y2
  have ka3 := (show (w.alloc (.cells #[.slice al l.length cl] 24)).cell? ⟨lo + 1, 0, none⟩ = some (.slice ao L.length co) from ka1)
  have ka4 := (show (w.alloc (.cells #[.slice al l.length cl] 24)).frozen? ⟨lo + 1, 0, none⟩ = false from ka2)
  have kb := (hbal.cell (p := ⟨lo, 0, none⟩) (by show lo < _; omega)).trans x1
  clear h1 h2 h3 h3r h4 h5 hl hcg hg hpush hown hbal
  have hle : L.length ≤ 2000 := by omega
  have HD := Lib.hid (show decide ((L.length : Int) + 1 < (most : Int)) = decide (L.length + 1 < most) by rw [decide_eq_decide]; omega)
  go_enter Tryz.func148, Tryz.ntmps148
  go_wp2_with (at_builtin; refine wpList_app1 rfl (.tmp 5) (.tmp 7) 44 rfl (lo + 2) 24 (.slice none 0 0) 1 24 Tryz.elemInts _ L.length vals _ _ _ rfl rfl rfl H3.out (by rfl) (by simp [Value.oneCell']) (by exact hc1) (by omega) (by omega) ?_; intro g' cap w2 q1 q2 q3 q4 q5 q6; have kc2 := (q2.cell (p := ⟨lo + 1, 0, none⟩) (by show lo + 1 < lo + 2; omega)).trans HX2.out; have kf2 := (q2.frozen (p := ⟨lo + 1, 0, none⟩) (by show lo + 1 < lo + 2; omega)).trans HY2.out; have kz2 := (q2.cell (p := ⟨lo, 0, none⟩) (by show lo < lo + 2; omega)).trans HX1.out)
  have hp := HPUSH.out _ _ _ q1 q2 q3
  have HP := Lib.hid hp
  clear hp q1 q3 q4 q5 q6
  go_wp2
  go_ret
  exact ⟨by rw [← HD.out]; rfl, HP.out.1, HP.out.2⟩

set_option maxRecDepth 100000 in
set_option maxHeartbeats 3200000 in
theorem implFirst (ad : Option Addr) (c : Nat) (A : List Int) (free most : Nat) (w : World) (hn : A.length ≤ 1048576) (hs : ∀ v ∈ A, Mk v) (h36 : free < 68719476736) (h1 : 1 ≤ most) (hm : most ≤ 2000) (hT : Tab w) (hc : CellsAt w ad (ints A)) :
    Calls Tryz.prog 119 #[.slice ad A.length c, .int .i64 free, .int .i64 most] w fun e w' => ∃ ad' cap', e = .returned (.slice ad' ((srchF A free free).take most).length cap') ∧ OwnW w' w.heap.size (.slice ad' ((srchF A free free).take most).length cap') ((srchF A free free).take most) ∧ Below w.heap.size w w' := by
  obtain ⟨wA, hwA⟩ : ∃ wA, wA = (w.alloc (.cells #[.int .i64 most] 3)).alloc (.cells #[.slice none 0 0] 44) := ⟨_, rfl⟩
  have hbA : Below w.heap.size w wA := by rw [hwA]; exact ((Below.refl _ _).alloc (Nat.le_refl _) _).alloc (by simp) _
  have hszA : wA.heap.size = w.heap.size + 2 := by rw [hwA]; simp
  have hA0 : wA.heap[w.heap.size]? = some (.cells #[.int .i64 most] 3 (0, 0)) := by
    rw [hwA, Below.heap_alloc _ _ _ (by simp)]
    exact heap_alloc_new w _
  have hA1 : wA.heap[w.heap.size + 1]? = some (.cells #[.slice none 0 0] 44 (0, 0)) := by
    have h := heap_alloc_new (w.alloc (.cells #[.int .i64 most] 3)) (.cells #[.slice none 0 0] 44)
    rw [hwA]
    simpa using h
  have hns := newSearch_any ad c A 148 #[.pointer (some ⟨w.heap.size + 1, 0, none⟩), .pointer (some ⟨w.heap.size, 0, none⟩)] wA hn hs (hc.below hbA)
  rw [hszA] at hns
  have hfills : ∀ w1 : World, FirI w.heap.size (w.heap.size + 2) most A [] w1 → w.heap.size + 2 ≤ w1.heap.size → _ := fun w1 hI hz => fill_gen 148 #[.pointer (some ⟨w.heap.size + 1, 0, none⟩), .pointer (some ⟨w.heap.size, 0, none⟩)] (w.heap.size + 2) (w.heap.size + 2) (Kin w.heap.size (w.heap.size + 2)) A (FirI w.heap.size (w.heap.size + 2) most A) (cntG most) (Nat.le_refl _) hn hs callFunc_fir
    (fun _ _ h => Kin.of_below h) (fun _ _ _ h k => h.trans k) (fun _ _ h => h.size) (fun _ _ _ _ _ h o => h.owns o)
    (fun L w h => h.2.2) (fun L w w' h hb => h.below hb) (fun L l w' al cl hg hI _ ho => firVisit w.heap.size (w.heap.size + 2) most A hT.1 (Nat.le_refl _) hm L l w' al cl hg h1 hI ho)
    free free [] [] w1 none 0 (Nat.le_refl _) h36 ⟨by simp, by simp⟩ (.inl rfl) hI hz (World.ownsRow_nil _ _ _ _)
  have hcnt := visitG_take most (srchF A free free) h1
  generalize (srchF A free free).take most = T at hcnt ⊢
  have HCNT := Lib.hid hcnt
  have HFI := Lib.hid hfills
  have HNS := Lib.hid hns
  have HBA := Lib.hid hbA
  have HWA := Lib.hid hwA
  have HA0 := Lib.hid hA0
  have HA1 := Lib.hid hA1
  have HTT := Lib.hid (hT.below hbA)
  have hsz0 := hbA.size
  clear hns hbA hwA hA0 hA1 hT hc hs hfills hcnt
  go_enter Tryz.func119, Tryz.ntmps119
  go_wp2_with fail
  rw [← HWA.out]
  refine HNS.out.mono ?_
  rintro e w1 ⟨rfl, hat, hb1⟩
  have hz1 := hb1.size
  have hI : FirI w.heap.size (w.heap.size + 2) most A [] w1 :=
    ⟨⟨(hb1.block _ (by omega)).trans HA0.out, none, 0, (hb1.block _ (by omega)).trans HA1.out, [], World.ownsRow_nil _ _ _ _, RowsW.nil _ _⟩, Nat.zero_le _, hat, HTT.out.below (hb1.mono (by omega))⟩
  have HF := Lib.hid (HFI.out w1 hI (by omega))
  have HB1 := Lib.hid (HBA.out.trans (hb1.mono (by omega)))
  have hsz1 := HB1.out.size
  clear hI hat hb1
  go_wp2_with fail
  refine HF.out.mono ?_
  rintro e w2 ⟨rfl, hI2, ht2⟩
  rw [laid_none] at hI2
  obtain ⟨⟨_, ao, co, h2, h3⟩, _, _, _⟩ := hI2
  rw [HCNT.out] at h2 h3
  have x2 := cell_of_one h2
  have HB2 := Lib.hid (HB1.out.trans (ht2.below hsz1))
  have HO := Lib.hid (h3.rebase (show w.heap.size ≤ w.heap.size + 2 by omega))
  clear h2 h3 ht2
  go_wp2
  go_ret
  exact ⟨ao, co, rfl, HO.out, HB2.out⟩
end Go.Proofs.YtajmdgcnnipdoaaGreatDoor

/- FF0: the tilings without faults among the first ones; plain. -/
namespace Go.Proofs.YtajmdgcnnipdoaaGreatDoor
open Go.RowKit

/-- Of the first tilings those without faults. -/
def ffTo (b : Int) (xs : List Int) (T : List (List Int)) (k : Nat) : List (List Int) := (T.take k).filter fun l => decide ((faultsL b xs l).length = 0)
theorem ffTo_yes {b : Int} {xs : List Int} {T : List (List Int)} {k : Nat} (hk : k < T.length) (h : (faultsL b xs T[k]).length = 0) : ffTo b xs T (k + 1) = ffTo b xs T k ++ [T[k]] := by
  unfold ffTo
  rw [List.take_succ_eq_append_getElem hk, List.filter_append, List.filter_cons, if_pos (decide_eq_true h)]
  rfl
theorem ffTo_no {b : Int} {xs : List Int} {T : List (List Int)} {k : Nat} (hk : k < T.length) (h : ¬ (faultsL b xs T[k]).length = 0) : ffTo b xs T (k + 1) = ffTo b xs T k := by
  unfold ffTo
  rw [List.take_succ_eq_append_getElem hk, List.filter_append, List.filter_cons, if_neg (fun q => h (of_decide_eq_true q)), List.filter_nil, List.append_nil]
theorem ffTo_le (b : Int) (xs : List Int) (T : List (List Int)) (k : Nat) : (ffTo b xs T k).length ≤ k := by
  unfold ffTo
  have h1 := List.length_filter_le (fun l => decide ((faultsL b xs l).length = 0)) (T.take k)
  rw [List.length_take] at h1
  omega
theorem ffTo_prefix (b : Int) (xs : List Int) (T : List (List Int)) {j k : Nat} (h : j ≤ k) : ffTo b xs T j <+: ffTo b xs T k := by
  unfold ffTo
  obtain ⟨r, hr⟩ := List.take_prefix_take_left (l := T) h
  rw [← hr, List.filter_append]
  exact List.prefix_append _ _
def ffL (b : Int) (xs : List Int) (ps : List (List Cl)) : List (List Int) := ffTo b xs ((regF b xs ps).take 500) ((regF b xs ps).take 500).length
theorem ffL_len (b : Int) (xs : List Int) (ps : List (List Cl)) : ∀ l ∈ ffL b xs ps, l.length ≤ 36 := fun l hl => by
  unfold ffL ffTo at hl
  exact regF_len b xs ps l (List.mem_of_mem_take (List.mem_of_mem_take (List.mem_filter.1 hl).1))
theorem ffL_no {b : Int} {xs : List Int} {ps : List (List Cl)} (h : ¬ (Reg b xs ∧ Pcs ps)) : ffL b xs ps = [] := by
  unfold ffL
  rw [regF_no h]
  rfl
theorem ffL_yes {B : Nat} {xs : List Int} {ps : List (List Cl)} (hr : Reg (B : Int) xs) (hp : Pcs ps) : ffL B xs ps = ffTo B xs ((srchF (allL B xs ps) (regMask B xs) (regMask B xs)).take 500) ((srchF (allL B xs ps) (regMask B xs) (regMask B xs)).take 500).length := by
  unfold ffL
  rw [regF_yes hr hp]
/-- Masks are numbers of 64 bits. -/
theorem srchF_wf {A : List Int} (hs : ∀ v ∈ A, Mk v) : ∀ (f free : Nat), ∀ l ∈ srchF A f free, ∀ v ∈ l, (Lit.int .i64 v).wf = true := by
  have key : ∀ v, Mk v → (Lit.int .i64 v).wf = true := fun v h => by
    obtain ⟨h1, h2⟩ := h
    have e1 : IntKind.i64.min = -9223372036854775808 := by decide
    have e2 : IntKind.i64.max = 9223372036854775807 := by decide
    have q1 : decide (IntKind.i64.min ≤ v) = true := decide_eq_true (by rw [e1]; omega)
    have q2 : decide (v ≤ IntKind.i64.max) = true := decide_eq_true (by rw [e2]; omega)
    show (decide (IntKind.i64.min ≤ v) && decide (v ≤ IntKind.i64.max)) = true
    rw [q1, q2]
    rfl
  have mem : ∀ (f free : Nat), ∀ l ∈ srchF A f free, ∀ v ∈ l, v ∈ A := by
    intro f
    induction f with
    | zero =>
      intro free l hl v hv
      unfold srchF at hl
      split at hl <;> simp_all
    | succ f ih =>
      intro free l hl v hv
      by_cases h0 : free = 0
      · subst h0
        rw [srchF_zero, List.mem_singleton] at hl
        subst hl
        simp at hv
      · rw [srchF_pos A f h0, goS_flat _ _ _ _ (Nat.le_refl _), List.take_length, List.mem_flatMap] at hl
        obtain ⟨u, hu, h⟩ := hl
        split at h
        · obtain ⟨r, hr, rfl⟩ := List.mem_map.1 h
          rcases List.mem_cons.1 hv with rfl | hv
          · exact hu
          · exact ih _ r hr v hv
        · simp at h
  exact fun f free l hl v hv => key v (hs v (mem f free l hl v hv))
end Go.Proofs.YtajmdgcnnipdoaaGreatDoor
