/- AllFill: parts laid together: At0, FillI, NewS, CountI, OrdI. -/
import Derived.Test.YtajmdgcnnipdoaaGreatDoorAllPl
import Derived.Test.YtajmdgcnnipdoaaGreatDoorAllBase
import Derived.Test.YtajmdgcnnipdoaaGreatDoorAllPut0
import Derived.OneCell
import Derived.Test.YtajmdgcnnipdoaaGreatDoorAllLow
import Derived.Lib.QuietBelow
import Derived.BigQuiet
import Derived.IntWalk
import Derived.Deep.DrawnRows
import Derived.Deep.RegionHeld3
import Derived.BigRegion
import Derived.StillTailTactics
import Derived.Laws.EntriesVeiled

/- At0: the search's struct in memory: 64 rows of the search's own, the visitor, no second visitor; how it is kept. -/
namespace Go.Proofs.YtajmdgcnnipdoaaGreatDoor
open Go.RowKit

def rowAt (arr : Array Value) (k : Nat) : Value := (arr[k]?).getD .nilFunc
/-- What the search's struct at block S holds: at k the list L k, in a row of its own; the visitor. -/
def AtOK (w : World) (S : Nat) (vis : Value) (L : Nat → List Int) : Prop :=
  ∃ arr : Array Value, w.heap[S]? = some (.cells arr 133 (0, 0)) ∧ arr.size = 66 ∧ arr[64]? = some vis ∧ arr[65]? = some .nilFunc ∧
    (∀ k, k < 64 → w.ownsRow (S + 1) 3 1 (rowAt arr k) (L k).length (ints (L k))) ∧
    ∀ i j, i < 64 → j < 64 → i ≠ j → ∀ g, (rowAt arr i).ownBlock = some g → (rowAt arr j).ownBlock ≠ some g
theorem getD_arr {arr : Array Value} {k : Nat} (h : k < arr.size) : arr[k]? = some (rowAt arr k) := by
  unfold rowAt
  rw [Array.getElem?_eq_getElem h]
  rfl
theorem AtOK.lt {w : World} {S : Nat} {vis : Value} {L : Nat → List Int} (h : AtOK w S vis L) : S < w.heap.size := by
  obtain ⟨arr, h1, _⟩ := h
  exact lt_of_block h1
theorem AtOK.row {w : World} {S : Nat} {vis : Value} {L : Nat → List Int} (h : AtOK w S vis L) {k : Nat} (hk : k < 64) :
    ∃ ad cap, w.cell? ⟨S, k, none⟩ = some (.slice ad (L k).length cap) ∧ w.ownsRow (S + 1) 3 1 (.slice ad (L k).length cap) (L k).length (ints (L k)) := by
  obtain ⟨arr, h1, h2, _, _, h5, _⟩ := h
  have h := h5 k hk
  obtain ⟨ad, cap, hv, _⟩ := ownsRow_cells h
  refine ⟨ad, cap, ?_, by rw [← hv]; exact h⟩
  rw [cell_of_row w S k arr _ (0, 0) h1, getD_arr (by omega), hv]
theorem AtOK.vis {w : World} {S : Nat} {vis : Value} {L : Nat → List Int} (h : AtOK w S vis L) : w.cell? ⟨S, 64, none⟩ = some vis := by
  obtain ⟨arr, h1, _, h3, _⟩ := h
  rw [cell_of_row w S 64 arr _ (0, 0) h1, h3]
theorem AtOK.tried {w : World} {S : Nat} {vis : Value} {L : Nat → List Int} (h : AtOK w S vis L) : w.cell? ⟨S, 65, none⟩ = some .nilFunc := by
  obtain ⟨arr, h1, _, _, h4, _⟩ := h
  rw [cell_of_row w S 65 arr _ (0, 0) h1, h4]
theorem AtOK.free {w : World} {S : Nat} {vis : Value} {L : Nat → List Int} (h : AtOK w S vis L) (k : Nat) : w.frozen? ⟨S, k, none⟩ = false := by
  obtain ⟨arr, h1, _⟩ := h
  simp [World.frozen?, h1]
theorem AtOK.below {w w' : World} {S : Nat} {vis : Value} {L : Nat → List Int} (h : AtOK w S vis L) (hb : Below w.heap.size w w') : AtOK w' S vis L := by
  have hS := h.lt
  obtain ⟨arr, h1, h2, h3, h4, h5, h6⟩ := h
  exact ⟨arr, (hb.block S hS).trans h1, h2, h3, h4, fun k hk => ownsRow_far_below (h5 k hk) hb (Nat.le_refl _), h6⟩
theorem AtOK.congr {w : World} {S : Nat} {vis : Value} {L M : Nat → List Int} (h : AtOK w S vis L) (he : ∀ k, k < 64 → L k = M k) : AtOK w S vis M := by
  obtain ⟨arr, h1, h2, h3, h4, h5, h6⟩ := h
  exact ⟨arr, h1, h2, h3, h4, fun k hk => by rw [← he k hk]; exact h5 k hk, h6⟩
/-- A mask has been appended to the row at k, and the row stored. -/
theorem AtOK.push {w w2 : World} {S : Nat} {vis : Value} {L : Nat → List Int} (h : AtOK w S vis L) {k : Nat} (hk : k < 64) {v : Value} (hv : w.cell? ⟨S, k, none⟩ = some v) {g n cap : Nat} {xs : List Int} (hn : n = xs.length)
    (ho : w2.ownsRow (S + 1) 3 1 (.slice (some ⟨g, 0, none⟩) n cap) n (ints xs)) (hg : w.grownBy w2 v.ownBlock) (hw : v.ownBlock = some g ∨ w.heap.size ≤ g) :
    AtOK (w2.setCell ⟨S, k, none⟩ (.slice (some ⟨g, 0, none⟩) n cap)) S vis (fun j => if j = k then xs else L j) := by
  have hS := h.lt
  obtain ⟨arr, h1, h2, h3, h4, h5, h6⟩ := h
  have hvk : rowAt arr k = v := by
    rw [cell_of_row w S k arr _ (0, 0) h1, getD_arr (by omega)] at hv
    exact Option.some.inj hv
  have hown := h5 k hk
  have hne : v.ownBlock ≠ some S := fun e => by
    have := (hown.lt S (by rw [hvk]; exact e)).1
    omega
  have hS2 : w2.heap[S]? = some (.cells arr 133 (0, 0)) := (hg.block S hS (fun e => hne e.symm)).trans h1
  have hgS : g ≠ S := by
    rcases hw with e | e
    · intro q; exact hne (by rw [e, q])
    · omega
  have hget : ∀ j, rowAt (arr.setIfInBounds k (.slice (some ⟨g, 0, none⟩) n cap)) j = if j = k then .slice (some ⟨g, 0, none⟩) n cap else rowAt arr j := by
    intro j
    unfold rowAt
    rw [Array.getElem?_setIfInBounds]
    by_cases e : j = k
    · rw [if_pos e, if_pos e.symm, if_pos (by omega)]
      rfl
    · rw [if_neg e, if_neg (fun q => e q.symm)]
  refine ⟨arr.setIfInBounds k (.slice (some ⟨g, 0, none⟩) n cap), heap_setCell_same w2 S k arr _ _ hS2, by simp [h2], ?_, ?_, ?_, ?_⟩
  · rw [Array.getElem?_setIfInBounds_ne (by omega)]; exact h3
  · rw [Array.getElem?_setIfInBounds_ne (by omega)]; exact h4
  · intro j hj
    rw [hget j]
    by_cases e : j = k
    · subst e
      simp only [if_pos]
      rw [← hn]
      exact ownsRow_setCell_other ho (fun q => hgS (by simpa [Value.ownBlock] using q)) _
    · simp only [if_neg e]
      have hj5 := h5 j hj
      have hjn : ∀ q, (rowAt arr j).ownBlock = some q → v.ownBlock ≠ some q := fun q hq => by
        rw [← hvk]
        exact h6 j k hj hk e q hq
      refine ownsRow_setCell_other (hj5.kept hg ?_) (fun q => ?_) _
      · cases hb : (rowAt arr j).ownBlock with
        | none => exact .inl rfl
        | some b => exact .inr fun q => hjn b hb q.symm
      · have := (hj5.lt S q).1
        omega
  · intro i j hi hj hij b hb
    rw [hget i] at hb
    rw [hget j]
    have key : ∀ m, m < 64 → m ≠ k → (rowAt arr m).ownBlock ≠ some g := fun m hm hmk q => by
      rcases hw with e | e
      · exact h6 k m hk hm (fun z => hmk z.symm) g (by rw [hvk]; exact e) q
      · have := ((h5 m hm).lt g q).2
        omega
    by_cases ei : i = k
    · rw [if_pos ei] at hb
      rw [if_neg (fun q => hij (ei.trans q.symm))]
      have : b = g := by simpa [Value.ownBlock] using hb.symm
      subst this
      exact key j hj (fun q => hij (ei.trans q.symm))
    · rw [if_neg ei] at hb
      by_cases ej : j = k
      · rw [if_pos ej]
        intro q
        have : b = g := by simpa [Value.ownBlock] using q.symm
        subst this
        exact key i hi ei hb
      · rw [if_neg ej]
        exact h6 i j hi hj hij b hb
end Go.Proofs.YtajmdgcnnipdoaaGreatDoor

/- FillI: the walk of the program's fill, over any visitor: which tilings it shows, in which order, when it stops. -/
namespace Go.Proofs.YtajmdgcnnipdoaaGreatDoor
open Go.RowKit

attribute [local go_sem ↓] Go.wp_at_zero Go.wp_at_succ

theorem touched_of_below {lo hi : Nat} {w w' : World} (h : Below w.heap.size w w') : Touched lo hi w w' := ⟨h.os, h.tape, h.output, h.size, fun k hk _ => h.block k hk⟩
theorem ownsRow_touched {w w' : World} {lo hi base e size n : Nat} {v : Value} {xs : List Value} (h : w.ownsRow base e size v n xs) (ht : Touched lo hi w w') (hb : hi ≤ base) : w'.ownsRow base e size v n xs := by
  refine ⟨h.1, ?_⟩
  rcases h.2 with q2 | ⟨g, c, cur, q1, q2, q3, r⟩
  · exact .inl q2
  · refine .inr ⟨g, c, cur, q1, q2, ?_, r⟩
    rw [ht.block g (Array.getElem?_eq_some_iff.1 q3).1 (by omega)]
    exact q3
theorem ownsRow_nil_cap {w : World} {base e size n m cap : Nat} {ad : Option Addr} {xs : List Value} (h : w.ownsRow base e size (.slice ad m cap) n xs) : ad = none → cap = 0 := by
  intro hn
  rcases h.2 with ⟨h1, _⟩ | ⟨g, c, cur, h1, _⟩
  · cases h1; rfl
  · cases h1; cases hn
theorem AtOK.touched {w w' : World} {S lo hi : Nat} {vis : Value} {L : Nat → List Int} (h : AtOK w S vis L) (ht : Touched lo hi w w') (hS : hi ≤ S) : AtOK w' S vis L := by
  have hlt := h.lt
  obtain ⟨arr, h1, h2, h3, h4, h5, h6⟩ := h
  exact ⟨arr, (ht.block S hlt (.inr hS)).trans h1, h2, h3, h4, fun k hk => ownsRow_touched (h5 k hk) ht (by omega), h6⟩
theorem Tab.touched {w w' : World} {lo hi : Nat} (h : Tab w) (ht : Touched lo hi w w') (hlo : 1 < lo) : Tab w' :=
  ⟨Nat.lt_of_lt_of_le h.1 ht.size, fun j hj => (World.cell?_of_block (ht.block _ h.1 (.inl hlo))).trans (h.2 j hj)⟩

set_option maxRecDepth 100000 in
set_option maxHeartbeats 3200000 in
theorem fill_gen (K : FuncId) (caps : Array Value) (hi S : Nat) (R0 : World → World → Prop) (A : List Int) (I : List (List Int) → World → Prop) (cont : List (List Int) → Bool) (hhS : hi ≤ S)
    (hlA : A.length ≤ 1048576) (hs : ∀ v ∈ A, Mk v) (hK : ∀ (args : Array Value) (w : World), Sem.run Tryz.prog (callFunc K args) w = .ok (.enter K args) w)
    (hRb : ∀ w w', Below w.heap.size w w' → R0 w w') (hRt : ∀ a b c, R0 a b → R0 b c → R0 a c) (hRs : ∀ w w', R0 w w' → w.heap.size ≤ w'.heap.size) (hRo : ∀ (w w' : World) (v : Value) (n : Nat) (xs : List Value), R0 w w' → w.ownsRow hi 3 1 v n xs → w'.ownsRow hi 3 1 v n xs)
    (hIc : ∀ L w, I L w → AtOK w S (.func (.func K) #[] caps) (atL A) ∧ Tab w) (hIb : ∀ L w w', I L w → Below w.heap.size w w' → I L w')
    (hV : ∀ L l w al cl, GoL cont L → I L w → hi ≤ w.heap.size → w.ownsRow hi 3 1 (.slice al l.length cl) l.length (ints l) →
      Calls Tryz.prog K (#[.slice al l.length cl] ++ caps) w fun e w' => e = .returned (.bool (cont (L ++ [l]))) ∧ I (L ++ [l]) w' ∧ R0 w w') :
    ∀ (f free : Nat) (l : List Int) (L : List (List Int)) (w : World) (al : Option Addr) (cl : Nat), free ≤ f → free < 68719476736 → (l.length ≤ 36 ∧ ∀ i, i < l.length → free.testBit i = false) → GoL cont L → I L w → hi ≤ w.heap.size → w.ownsRow hi 3 1 (.slice al l.length cl) l.length (ints l) →
      Calls Tryz.prog 122 #[.pointer (some ⟨S, 0, none⟩), .int .i64 free, .slice al l.length cl] w fun e w' =>
        e = .returned (.bool (visitG cont (laid l (srchF A f free)) L).2) ∧ I (visitG cont (laid l (srchF A f free)) L).1 w' ∧ R0 w w' := by
  have HIC := Lib.hid hIc
  have HIB := Lib.hid hIb
  have HV := Lib.hid hV
  have HS := Lib.hid hs
  have HRB := Lib.hid hRb
  have HRT := Lib.hid hRt
  have HRS := Lib.hid hRs
  have HRO := Lib.hid hRo
  clear hRb hRt hRs hRo
  have zero : ∀ (f : Nat) (l : List Int) (L : List (List Int)) (w : World) (al : Option Addr) (cl : Nat), GoL cont L → I L w → hi ≤ w.heap.size → w.ownsRow hi 3 1 (.slice al l.length cl) l.length (ints l) →
      Calls Tryz.prog 122 #[.pointer (some ⟨S, 0, none⟩), .int .i64 (0 : Nat), .slice al l.length cl] w fun e w' =>
        e = .returned (.bool (visitG cont (laid l (srchF A f 0)) L).2) ∧ I (visitG cont (laid l (srchF A f 0)) L).1 w' ∧ R0 w w' := by
    intro f l L w al cl hgl hI hhi hown
    rw [srchF_zero, laid_one, visitG_one]
    have x0 := (HIC.out _ _ hI).1.vis
    have HCALL := Lib.hid (HV.out L l w al cl hgl hI hhi hown)
    clear hI hown hIc hIb hV hs
    go_enter Tryz.func122, Tryz.ntmps122
    go_wp2_with fail
    refine HCALL.out.mono ?_
    rintro e w1 ⟨rfl, hI1, ht1⟩
    have HI1 := Lib.hid hI1
    clear hI1
    go_wp2
    go_ret
    exact ⟨rfl, HI1.out, ht1⟩
  intro f
  induction f with
  | zero =>
    intro free l L w al cl hf _ _ hgl hI hhi hown
    obtain rfl : free = 0 := by omega
    exact zero 0 l L w al cl hgl hI hhi hown
  | succ f ih =>
    intro free l L w al cl hf h36 hbits hgl hI hhi hown
    by_cases h0 : free = 0
    · subst h0
      exact zero _ l L w al cl hgl hI hhi hown
    · have hz : ((free : Int) == 0) = false := by simp; omega
      rw [srchF_pos A f h0, ← goR_all]
      have hlow := low_lt (m := free) (by omega) (by omega)
      obtain ⟨ar, cr, x0, hrow⟩ := (HIC.out _ _ hI).1.row hlow
      have hTab := (HIC.out _ _ hI).2
      have HTZ := Lib.hid (fun d os => Calls.regrown_of (d := d) (os := os) ((implTz free (by omega) (by omega) (Go.Sort.grow (redrawn w d) os) (hTab.below (below_regrown w d os))).mono fun e w' q => (⟨q.1, by rw [q.2]; exact Below.refl _ _⟩ : e = .returned (.int .i64 (lowB free)) ∧ Below (Go.Sort.grow (redrawn w d) os).heap.size (Go.Sort.grow (redrawn w d) os) w')))
      have HRM := Lib.hid (fun v (hv : v ∈ atL A (lowB free)) => (⟨HS.out v (atL_mem hv).1, fun q => sub_low h0 h36 q (atL_mem hv).2 (low_ge h0 h36 hbits.2)⟩ : Mk v ∧ (v.toNat &&& free = v.toNat → ∀ i, i < l.length + 1 → (free - v.toNat).testBit i = false)))
      have hl35 := low36 h0 h36
      have hl36 := low_ge h0 h36 hbits.2
      have hRl := Nat.le_trans (atL_length A (lowB free)) hlA
      have HIH := Lib.hid ih
      have HI := Lib.hid hI
      have HO := Lib.hid hown
      have HRW := Lib.hid hrow
      have hSlt := (HIC.out _ _ hI).1.lt
      have X0 := cell_regrown x0
      have hlen36 : l.length ≤ 35 := by omega
      have H36 := Lib.hid h36
      have HGL := Lib.hid hgl
      have i64 : (lowB free : Int) < 64 := by omega
      have hwu : IntKind.u64.wrap (free : Int) = (free : Int) := IntWalk.u64_in _ (by omega)
      clear ih hI hown hrow hIc hIb hV hs zero hTab x0 h36 hl35 hl36 hbits hgl
      generalize atL A (lowB free) = R at X0 HRM hRl HRW ⊢
      generalize lowB free = low at hlow X0 HTZ i64 ⊢
      go_enter Tryz.func122, Tryz.ntmps122
      go_wp2
      refine wp_region_quiet_below (by kernel_rfl) (by kernel_rfl) ?_
      repeat (go_big_quiet_step (exact HTZ.out _ _))
      refine wpQuiet_nil ?_
      intro _ hw'
      obtain ⟨⟨dq, osq⟩, hw''⟩ := hw'
      subst hw''
      have hbr := below_regrown w dq osq
      generalize Go.Sort.grow (redrawn w dq) osq = w0 at hbr ⊢
      have hszw := hbr.size
      have HI0 := Lib.hid (HIB.out _ _ _ HI.out hbr)
      have HO0 := Lib.hid (ownsRow_far_below HO.out hbr (Nat.le_refl _))
      have HRW0 := Lib.hid (ownsRow_far_below HRW.out hbr (Nat.le_refl _))
      have HT0 := Lib.hid (HRB.out _ _ hbr)
      clear hbr X0 HI HO HRW HTZ
      go_wp2
      go_loopw [26] (fun i wr => ∃ j : Nat, j ≤ R.length ∧ i = .int .i64 j ∧ (visitG cont (laid l (goR R (srchF A f) free j)) L).2 = true ∧ I (visitG cont (laid l (goR R (srchF A f) free j)) L).1 wr ∧ R0 w0 wr) (fun i _ => R.length - (intOf i).toNat)
      case atStart => exact ⟨0, Nat.zero_le _, rfl, rfl, HI0.out, HRB.out _ _ (Below.refl _ _)⟩
      case round =>
        obtain ⟨j, hj, rfl, hgo, hIj, ht⟩ := hrel
        have HGO := Lib.hid hgo
        have HIJ := Lib.hid hIj
        have HT := Lib.hid ht
        have hsz := HRS.out _ _ ht
        have HOW := Lib.hid (HRO.out _ _ _ _ _ ht HO0.out)
        have hcl := ownsRow_cellsAt (HRO.out _ _ _ _ _ ht (ownsRow_rebase HRW0.out (show hi ≤ S + 1 by omega)))
        have hst := (HIC.out _ _ hIj).1
        clear hgo hIj ht
        by_cases hlt : j < R.length
        · have i1 : (j : Int) < (R.length : Int) := by omega
          obtain ⟨g, off, rfl, hg, hcc⟩ := hcl.open (by rw [ints_length]; omega)
          have x0 := hcc j _ (ints_at R j hlt)
          obtain ⟨hsm, hlow2⟩ := HRM.out _ (List.getElem_mem hlt)
          have HLOW2 := Lib.hid hlow2
          have HYES := Lib.hid (fun h => goR_yes (rec := srchF A f) (free := free) hlt h)
          have HNO := Lib.hid (fun h => goR_no (rec := srchF A f) (free := free) hlt h)
          clear hcc hcl hlow2
          generalize R[j] = v at x0 hsm HYES HNO HLOW2
          obtain ⟨u, rfl⟩ : ∃ u : Nat, v = (u : Int) := ⟨v.toNat, by have := hsm.1; omega⟩
          have hu0 : 0 < u := by have := hsm.1; omega
          have hu : u < 68719476736 := by have := hsm.2; omega
          rw [Int.toNat_natCast] at HYES HNO HLOW2
          clear hsm
          have hand := i64_andNot_nat u free (by omega) (by have := H36.out; omega)
          by_cases hq : u &&& free = u
          · rw [hq, Nat.sub_self] at hand
            have hand2 := i64_andNot_nat free u (by have := H36.out; omega) (by omega)
            rw [Nat.and_comm free u, hq] at hand2
            have hle := fits_sub hq
            obtain ⟨fr2, hfr⟩ : ∃ fr2 : Nat, free = fr2 + u := ⟨free - u, by omega⟩
            have hyes := HYES.out hq
            rw [show free - u = fr2 by omega] at hyes hand2
            have hv : visitG cont (laid l (goR R (srchF A f) free (j + 1))) L = visitG cont (laid (l ++ [(u : Int)]) (srchF A f fr2)) (visitG cont (laid l (goR R (srchF A f) free j)) L).1 := by
              rw [hyes, laid_append, laid_cons, visitG_go HGO.out]
            have HVV := Lib.hid hv
            have HSTOP := Lib.hid (fun h => visitG_stopped (cont := cont) (L := L) (laid_prefix l (goR_prefix R (srchF A f) free (show j + 1 ≤ R.length by omega))) h)
            have hff : fr2 ≤ f := by omega
            have hbit2 := HLOW2.out hq
            rw [show free - u = fr2 by omega] at hbit2
            have HBIT2 := Lib.hid (⟨by rw [List.length_append, List.length_singleton]; omega, by rw [List.length_append, List.length_singleton]; exact hbit2⟩ : (l ++ [(u : Int)]).length ≤ 36 ∧ ∀ i, i < (l ++ [(u : Int)]).length → fr2.testBit i = false)
            have h36b : fr2 < 68719476736 := by have := H36.out; omega
            have hcopy := copyInts_any al cl l wr (by omega) (ownsRow_nil_cap HOW.out) (ownsRow_cellsAt HOW.out)
            have HCOPY := Lib.hid hcopy
            have hil := ints_length l
            have hz0 : (((0 : Nat) : Int) != 0) = false := rfl
            have xt := hst.tried
            have hfn : Sem.run Tryz.prog (binOp BinOp.neq 131 Value.nilFunc Value.nilFunc) wr = .ok (.bool false) wr := by kernel_rfl
            have H36B := Lib.hid h36b
            have HFR := Lib.hid hfr
            clear hv hyes hq hle hfr hcopy h36b HYES HNO hst hbit2 HLOW2
            go_wp2_with fail
            refine HCOPY.out.mono ?_
            rintro e w1 ⟨a1, c1, rfl, ho1, hb1⟩
            have HO1 := Lib.hid ho1
            have hz1 := hb1.size
            clear ho1 xt x0
            go_wp2_with (at_builtin; refine wpList_app1 rfl (.tmp 52) (.tmp 54) 24 rfl wr.heap.size 3 _ 1 8 Tryz.elemInt _ l.length (ints l) _ _ _ rfl rfl rfl HO1.out (by rfl) (by simp [Value.oneCell']) (by unfold maxLen; omega) (by omega) (by omega) ?_; intro g2 c2 w2 r1 r2 r3 r4 r5 r6)
            have hb2 : Below wr.heap.size wr w2 := hb1.trans r2
            have ho2 : w2.ownsRow wr.heap.size 3 1 (.slice (some ⟨g2, 0, none⟩) (l.length + 1) c2) (l.length + 1) (ints (l ++ [(u : Int)])) := by
              rw [ints_append]; exact r1
            have hz2 := hb2.size
            have hI2 := HIB.out _ _ _ HIJ.out hb2
            have ho3 := ownsRow_rebase ho2 (show hi ≤ wr.heap.size by omega)
            have hrec := HIH.out fr2 (l ++ [(u : Int)]) (visitG cont (laid l (goR R (srchF A f) free j)) L).1 w2 (some ⟨g2, 0, none⟩) c2 hff H36B.out HBIT2.out (visitG_goL HGL.out HGO.out) hI2 (by omega)
              (by rw [List.length_append, List.length_singleton]; exact ho3)
            rw [List.length_append, List.length_singleton] at hrec
            have HREC := Lib.hid hrec
            have HT2 := Lib.hid (HRT.out _ _ _ HT.out (HRB.out _ _ hb2))
            clear hrec hI2 ho3 ho2 r1 r3 r2
            go_wp2_with fail
            refine HREC.out.mono ?_
            by_cases hb : (visitG cont (laid (l ++ [(u : Int)]) (srchF A f fr2)) (visitG cont (laid l (goR R (srchF A f) free j)) L).1).2 = true
            · rw [hb]
              have HBB := Lib.hid hb
              clear hb
              rintro e w4 ⟨rfl, hI4, ht4⟩
              have HI4 := Lib.hid hI4
              clear hI4
              go_wp2
              go_roundw
              case rel => exact ⟨j + 1, by omega, by go_num, by rw [HVV.out]; exact HBB.out, by rw [HVV.out]; exact HI4.out, HRT.out _ _ _ HT2.out ht4⟩
              case measure => simp [intOf]; omega
            · have hb' : (visitG cont (laid (l ++ [(u : Int)]) (srchF A f fr2)) (visitG cont (laid l (goR R (srchF A f) free j)) L).1).2 = false := by simpa using hb
              rw [hb']
              have HBB := Lib.hid hb'
              clear hb hb'
              rintro e w4 ⟨rfl, hI4, ht4⟩
              have HI4 := Lib.hid hI4
              clear hI4
              have hst2 := HSTOP.out (by rw [HVV.out]; exact HBB.out)
              have HST2 := Lib.hid hst2
              clear hst2
              go_wp2
              go_ret
              rw [HST2.out, HVV.out]
              exact ⟨by first | (rw [HBB.out]; done) | (rw [HBB.out]; rfl), HI4.out, HRT.out _ _ _ HT0.out (HRT.out _ _ _ HT2.out ht4)⟩
          · obtain ⟨q, hqd⟩ : ∃ q, q = u - (u &&& free) := ⟨_, rfl⟩
            rw [← hqd] at hand
            have hle : u &&& free ≤ u := Nat.and_le_left
            have hq0 : ((q : Int) != 0) = true := by simp; omega
            have HSAME := Lib.hid (HNO.out hq)
            clear hqd hle hq HYES HNO hst HLOW2
            go_wp2
            go_roundw
            case rel => exact ⟨j + 1, by omega, by go_num, by rw [HSAME.out]; exact HGO.out, by rw [HSAME.out]; exact HIJ.out, HT.out⟩
            case measure => simp [intOf]; omega
        · obtain rfl : j = R.length := by omega
          clear hst hcl
          go_wp2
          go_ret
          exact ⟨by first | (rw [HGO.out]; done) | (rw [HGO.out]; rfl), HIJ.out, HRT.out _ _ _ HT0.out HT.out⟩

set_option maxRecDepth 100000 in
set_option maxHeartbeats 3200000 in
theorem fill_any (K : FuncId) (caps : Array Value) (lo hi S : Nat) (A : List Int) (I : List (List Int) → World → Prop) (cont : List (List Int) → Bool) (hhS : hi ≤ S)
    (hlA : A.length ≤ 1048576) (hs : ∀ v ∈ A, Mk v) (hK : ∀ (args : Array Value) (w : World), Sem.run Tryz.prog (callFunc K args) w = .ok (.enter K args) w)
    (hIc : ∀ L w, I L w → AtOK w S (.func (.func K) #[] caps) (atL A) ∧ Tab w) (hIb : ∀ L w w', I L w → Below w.heap.size w w' → I L w')
    (hV : ∀ L l w al cl, GoL cont L → I L w → hi ≤ w.heap.size → w.ownsRow hi 3 1 (.slice al l.length cl) l.length (ints l) →
      Calls Tryz.prog K (#[.slice al l.length cl] ++ caps) w fun e w' => e = .returned (.bool (cont (L ++ [l]))) ∧ I (L ++ [l]) w' ∧ Touched lo hi w w') :
    ∀ (f free : Nat) (l : List Int) (L : List (List Int)) (w : World) (al : Option Addr) (cl : Nat), free ≤ f → free < 68719476736 → (l.length ≤ 36 ∧ ∀ i, i < l.length → free.testBit i = false) → GoL cont L → I L w → hi ≤ w.heap.size → w.ownsRow hi 3 1 (.slice al l.length cl) l.length (ints l) →
      Calls Tryz.prog 122 #[.pointer (some ⟨S, 0, none⟩), .int .i64 free, .slice al l.length cl] w fun e w' =>
        e = .returned (.bool (visitG cont (laid l (srchF A f free)) L).2) ∧ I (visitG cont (laid l (srchF A f free)) L).1 w' ∧ Touched lo hi w w' :=
  fill_gen K caps hi S (Touched lo hi) A I cont hhS hlA hs hK (fun _ _ h => touched_of_below h) (fun _ _ _ h k => h.trans k) (fun _ _ h => h.size) (fun _ _ _ _ _ h o => ownsRow_touched o h (Nat.le_refl _)) hIc hIb hV
end Go.Proofs.YtajmdgcnnipdoaaGreatDoor

/- NewS: the walk of newSearch. -/
namespace Go.Proofs.YtajmdgcnnipdoaaGreatDoor
open Go.RowKit

attribute [local go_sem ↓] Go.wp_at_zero Go.wp_at_succ

theorem zero_search : Tryz.zeroCells133 = Array.replicate 64 (.slice none 0 0) ++ #[.nilFunc, .nilFunc] := by kernel_rfl
theorem at_start (w : World) (vis : Value) : AtOK (w.alloc (.cells (Tryz.zeroCells133.setIfInBounds 64 vis) 133)) w.heap.size vis (fun _ => []) := by
  have hr : ∀ k, k < 64 → rowAt (Tryz.zeroCells133.setIfInBounds 64 vis) k = .slice none 0 0 := by
    intro k hk
    unfold rowAt
    rw [Array.getElem?_setIfInBounds_ne (by omega), zero_search, Array.getElem?_append_left (by simp; omega), Array.getElem?_replicate, if_pos hk]
    rfl
  refine ⟨_, heap_alloc_new w _, by simp [zero_search], ?_, ?_, ?_, ?_⟩
  · rw [Array.getElem?_setIfInBounds, if_pos rfl, if_pos (by simp [zero_search])]
  · rw [Array.getElem?_setIfInBounds_ne (by omega), zero_search, Array.getElem?_append_right (by simp)]
    simp
  · intro k hk
    rw [hr k hk]
    exact World.ownsRow_nil _ _ _ _
  · intro i j hi hj hij g hg
    rw [hr i hi] at hg
    cases hg
theorem shr_ne (u k : Nat) : (((u : Int) / 2 ^ k) != 0) = decide (2 ^ k ≤ u) := by
  have h1 : ((u : Int) / 2 ^ k) = ((u / 2 ^ k : Nat) : Int) := by norm_cast
  have hp : 0 < 2 ^ k := Nat.two_pow_pos k
  rw [h1, Bool.eq_iff_iff, bne_iff_ne, decide_eq_true_eq]
  have h2 := Nat.div_pos_iff (a := u) (b := 2 ^ k)
  constructor
  · intro h
    have : 0 < u / 2 ^ k := by
      rcases Nat.eq_zero_or_pos (u / 2 ^ k) with q | q
      · rw [q] at h; exact absurd rfl h
      · exact q
    exact (h2.1 this).2
  · intro h e
    have := h2.2 ⟨hp, h⟩
    have e2 : u / 2 ^ k = 0 := by exact_mod_cast e
    omega

set_option maxRecDepth 100000 in
set_option maxHeartbeats 3200000 in
theorem newSearch_any (ad : Option Addr) (c : Nat) (A : List Int) (K : FuncId) (caps : Array Value) (w : World) (hn : A.length ≤ 1048576) (hs : ∀ v ∈ A, Mk v) (hc : CellsAt w ad (ints A)) :
    Calls Tryz.prog 120 #[.slice ad A.length c, .func (.func K) #[] caps] w fun e w' => e = .returned (.pointer (some ⟨w.heap.size, 0, none⟩)) ∧ AtOK w' w.heap.size (.func (.func K) #[] caps) (atL A) ∧ Below w.heap.size w w' := by
  have HC := Lib.hid hc
  have HS := Lib.hid hs
  have hat := at_start w (.func (.func K) #[] caps)
  have HLEN := Lib.hid (fun i j => Nat.le_trans (atL_length (A.take i) j) (by rw [List.length_take]; omega : (A.take i).length ≤ 1048576))
  have hb0 : Below w.heap.size w (w.alloc (.cells (Tryz.zeroCells133.setIfInBounds 64 (.func (.func K) #[] caps)) 133)) := (Below.refl _ _).alloc (Nat.le_refl _) _
  have HAT := Lib.hid hat
  have HB0 := Lib.hid hb0
  clear hc hs hat hb0
  go_enter Tryz.func120, Tryz.ntmps120
  go_wp2_with fail
  generalize w.alloc (.cells (Tryz.zeroCells133.setIfInBounds 64 (.func (.func K) #[] caps)) 133) = w0 at HAT HB0 ⊢
  go_loopw [14] (fun iv wr => ∃ i : Nat, i ≤ A.length ∧ iv = .int .i64 i ∧ AtOK wr w.heap.size (.func (.func K) #[] caps) (atL (A.take i)) ∧ Below w.heap.size w wr) (fun iv _ => A.length - (intOf iv).toNat)
  case atStart => exact ⟨0, Nat.zero_le _, rfl, HAT.out.congr (fun k _ => by simp [atL]), HB0.out⟩
  case round =>
    obtain ⟨i, hi, rfl, hat, hb⟩ := hrel
    have HA := Lib.hid hat
    have HB := Lib.hid hb
    clear hat hb
    by_cases hlt : i < A.length
    · have i1 : (i : Int) < (A.length : Int) := by omega
      obtain ⟨g, off, rfl, hg, hcc⟩ := HC.out.open (by rw [ints_length]; omega)
      have x0 := (HB.out.cell (p := ⟨g, off + i, none⟩) hg).trans (hcc i _ (ints_at A i hlt))
      have hsm := HS.out _ (List.getElem_mem hlt)
      have htk := List.take_succ_eq_append_getElem hlt
      have HTK := Lib.hid (fun j => (by rw [htk, atL_snoc] : atL (A.take (i + 1)) j = atL (A.take i) j ++ (if A[i].toNat.testBit j = true then [A[i]] else [])))
      clear hcc htk
      generalize A[i] = v at x0 hsm HTK
      obtain ⟨u, rfl⟩ : ∃ u : Nat, v = (u : Int) := ⟨v.toNat, by have := hsm.1; omega⟩
      have hu : u < 68719476736 := by have := hsm.2; omega
      have HU := Lib.hid hu
      have HTK2 := Lib.hid HTK.out
      have HL0 := Lib.hid (HLEN.out i)
      generalize hM : atL (A.take (i + 1)) = M at HTK
      have HM := Lib.hid hM
      generalize atL (A.take i) = L at HA HTK HL0
      clear hsm HTK2 hM
      go_wp2
      go_loopw [8] (fun kv wr => ∃ k : Nat, k ≤ 36 ∧ kv = .int .i64 k ∧ AtOK wr w.heap.size (.func (.func K) #[] caps) (fun j => if j < k then M j else L j) ∧ Below w.heap.size w wr) (fun kv _ => 36 - (intOf kv).toNat)
      case atStart => exact ⟨0, Nat.zero_le _, rfl, HA.out.congr (fun j _ => by simp), HB.out⟩
      case round =>
        obtain ⟨k, hk, rfl, hat, hb⟩ := hrel
        have HA2 := Lib.hid hat
        have HB2 := Lib.hid hb
        have hsz2 := hb.size
        clear hat hb
        have hsn := shr_ne u k
        by_cases hq : 2 ^ k ≤ u
        · rw [decide_eq_true hq] at hsn
          have hk35 : k < 36 := by
            refine (Nat.pow_lt_pow_iff_right (a := 2) (by decide)).1 (Nat.lt_of_le_of_lt hq ?_)
            exact HU.out
          have hsh := and_shr_one u k (Nat.lt_trans HU.out (by decide))
          clear hq
          cases htb : u.testBit k with
          | true =>
            rw [htb, if_pos rfl] at hsh
            obtain ⟨ar, cr, hcell, hown⟩ := HA2.out.row (k := k) (by omega)
            rw [if_neg (Nat.lt_irrefl k)] at hcell hown
            have hfz := HA2.out.free k
            have hMk : M k = L k ++ [(u : Int)] := by rw [HTK.out k, Int.toNat_natCast, htb, if_pos rfl]
            have hlk := HL0.out k
            have hlt2 := HA2.out.lt
            have HMK := Lib.hid hMk
            have HOWN := Lib.hid hown
            have HCELL := Lib.hid hcell
            clear hMk hown
            generalize L k = R at HMK HOWN hcell HCELL hlk
            have c1 : R.length + 1 ≤ maxLen := by unfold maxLen; omega
            have hk64 : (k : Int) < 64 := by omega
            have HFZ := Lib.hid hfz
            have hbal : Below wr.heap.size wr (wr.alloc (.cells #[.int .i64 u] 3)).drew := ((Below.refl wr.heap.size wr).alloc (Nat.le_refl _) _).drew
            have KA1 := Lib.hid ((hbal.cell (p := ⟨w.heap.size, k, none⟩) hlt2).trans HCELL.out)
            have KA2 := Lib.hid ((hbal.frozen (p := ⟨w.heap.size, k, none⟩) hlt2).trans HFZ.out)
            have KA3 := Lib.hid (show (wr.alloc (.cells #[.int .i64 u] 3)).cell? ⟨w.heap.size, k, none⟩ = some (.slice ar R.length cr) from KA1.out)
            have KA4 := Lib.hid (show (wr.alloc (.cells #[.int .i64 u] 3)).frozen? ⟨w.heap.size, k, none⟩ = false from KA2.out)
            clear hbal
            have hpush : ∀ (g' cap : Nat) (w2 : World), w2.ownsRow (w.heap.size + 1) 3 1 (.slice (some ⟨g', 0, none⟩) (R.length + 1) cap) (R.length + 1) (ints R ++ (#[Value.int .i64 (u : Int)]).toList) → Below (w.heap.size + 1) wr w2 → wr.grownBy w2 (Value.slice ar R.length cr).ownBlock →
                ((Value.slice ar R.length cr).ownBlock = some g' ∨ wr.heap.size ≤ g') → AtOK (w2.setCell ⟨w.heap.size, k, none⟩ (.slice (some ⟨g', 0, none⟩) (R.length + 1) cap)) w.heap.size (.func (.func K) #[] caps) (fun j => if j < k + 1 then M j else L j) ∧
                  Below w.heap.size w (w2.setCell ⟨w.heap.size, k, none⟩ (.slice (some ⟨g', 0, none⟩) (R.length + 1) cap)) := by
              intro g' cap w2 q1 q2 q3 q6
              refine ⟨(AtOK.push (xs := R ++ [(u : Int)]) HA2.out (by omega : k < 64) HCELL.out (by simp) (by rw [ints_append]; exact q1) q3 q6).congr (fun j _ => ?_), (HB2.out.trans (q2.mono (Nat.le_succ _))).setCell (Nat.le_refl _) _⟩
              show (if j = k then R ++ [(u : Int)] else if j < k then M j else L j) = _
              by_cases e : j = k
              · subst e
                rw [if_pos rfl, if_pos (Nat.lt_succ_self _), HMK.out]
              · by_cases e2 : j < k
                · rw [if_neg e, if_pos e2, if_pos (by omega)]
                · rw [if_neg e, if_neg e2, if_neg (by omega)]
            have HPUSH := Lib.hid hpush
            clear hpush
            go_wp2
            have ka1 := KA1.out
            have ka2 := KA2.out
            have ka3 := KA3.out
            have ka4 := KA4.out
            go_region_law
              ((refine step_app1 (by rfl) (.tmp 36) (.tmp 38) 24 (by rfl) (w.heap.size + 1) 3 _ 1 8 Tryz.elemInt _ R.length _ _ _ _ (by rfl) (by rfl) rfl HOWN.out (by rfl) (by simp [Value.oneCell']) (by exact c1) (by omega) (by omega) ?_; intro g' cap w2 q1 q2 q3 q4 q5 q6; have kc2 := (q2.cell (p := ⟨w.heap.size, k, none⟩) (by first | omega | (simp; done) | (simp; omega))).trans HCELL.out; have kf2 := (q2.frozen (p := ⟨w.heap.size, k, none⟩) (by first | omega | (simp; done) | (simp; omega))).trans HFZ.out))
            all_goals go_wp2
            all_goals go_roundw
            all_goals (first
              | (show _ < _; simp [intOf]; omega)
              | exact ⟨k + 1, Nat.succ_le_of_lt hk35, by go_num, (HPUSH.out _ _ _ q1 q2 q3 q6).1, (HPUSH.out _ _ _ q1 q2 q3 q6).2⟩)
          | false =>
            rw [htb, if_neg (by simp)] at hsh
            have HMK := Lib.hid (show M k = L k by rw [HTK.out k, Int.toNat_natCast, htb, if_neg (by simp), List.append_nil])
            go_wp2
            go_roundw
            case rel =>
              refine ⟨k + 1, by omega, by go_num, HA2.out.congr (fun j _ => ?_), HB2.out⟩
              by_cases e : j = k
              · subst e
                rw [if_neg (Nat.lt_irrefl j), if_pos (Nat.lt_succ_self j), HMK.out]
              · by_cases e2 : j < k
                · rw [if_pos e2, if_pos (by omega)]
                · rw [if_neg e2, if_neg (by omega)]
            case measure => simp [intOf]; omega
        · rw [decide_eq_false hq] at hsn
          have HMJ := Lib.hid (fun j (hj : ¬ j < k) => (by
            rw [HTK.out j, Int.toNat_natCast, Nat.testBit_lt_two_pow (Nat.lt_of_lt_of_le (Nat.lt_of_not_le hq) (Nat.pow_le_pow_right (by decide) (by omega))), if_neg (by simp), List.append_nil] : M j = L j))
          clear hq
          go_wp2
          go_roundw
          case rel =>
            refine ⟨i + 1, by omega, by go_num, HA2.out.congr (fun j _ => ?_), HB2.out⟩
            rw [HM.out]
            by_cases e2 : j < k
            · rw [if_pos e2]
            · rw [if_neg e2, HMJ.out j e2]
          case measure => simp [intOf]; omega
    · obtain rfl : i = A.length := by omega
      rw [List.take_length] at HA
      go_wp2
      go_ret
      exact ⟨rfl, HA.out, HB.out⟩
end Go.Proofs.YtajmdgcnnipdoaaGreatDoor

/- CountI: the walk of countUpTo. -/
namespace Go.Proofs.YtajmdgcnnipdoaaGreatDoor
open Go.RowKit

theorem callFunc_cnt (args : Array Value) (w : World) : Sem.run Tryz.prog (callFunc 121 args) w = .ok (.enter 121 args) w := by kernel_rfl

/-- What is known of the world while tilings are counted: the bound, the count, the search. -/
def CntI (lo S most : Nat) (A : List Int) (L : List (List Int)) (w : World) : Prop :=
  (w.heap[lo]? = some (.cells #[.int .i64 most] 3 (0, 0)) ∧ w.heap[lo + 1]? = some (.cells #[.int .i64 (L.length : Nat)] 3 (0, 0))) ∧ L.length ≤ most ∧
    AtOK w S (.func (.func 121) #[] #[.pointer (some ⟨lo + 1, 0, none⟩), .pointer (some ⟨lo, 0, none⟩)]) (atL A) ∧ Tab w
theorem CntI.below {lo S most : Nat} {A : List Int} {L : List (List Int)} {w w' : World} (h : CntI lo S most A L w) (hb : Below w.heap.size w w') : CntI lo S most A L w' :=
  ⟨⟨(hb.block lo (lt_of_block h.1.1)).trans h.1.1, (hb.block (lo + 1) (lt_of_block h.1.2)).trans h.1.2⟩, h.2.1, h.2.2.1.below hb, h.2.2.2.below hb⟩

set_option maxRecDepth 100000 in
set_option maxHeartbeats 1600000 in
theorem cntVisit (lo S most : Nat) (A : List Int) (hlo : 1 < lo) (hS : lo + 2 ≤ S) (hm : most ≤ 2000) (L : List (List Int)) (l : List Int) (w : World) (al : Option Addr) (n cl : Nat) (hg : GoL (cntG most) L) (h1m : 1 ≤ most) (hI : CntI lo S most A L w) :
    Calls Tryz.prog 121 #[.slice al n cl, .pointer (some ⟨lo + 1, 0, none⟩), .pointer (some ⟨lo, 0, none⟩)] w fun e w' => e = .returned (.bool (cntG most (L ++ [l]))) ∧ CntI lo S most A (L ++ [l]) w' ∧ Touched lo (lo + 2) w w' := by
  have hlt : L.length < most := by
    rcases hg with q | q
    · rw [q]; exact h1m
    · exact of_decide_eq_true q
  obtain ⟨⟨h1, h2⟩, _, h4, h5⟩ := hI
  have x1 := cell_of_one h1
  have x2 := cell_of_one h2
  have y2 := free_of_one h2
  have H1 := Lib.hid h1
  have H2 := Lib.hid h2
  have H4 := Lib.hid h4
  have H5 := Lib.hid h5
  have hl : (L ++ [l]).length = L.length + 1 := by simp
  have hcg : cntG most (L ++ [l]) = decide (L.length + 1 < most) := by unfold cntG; rw [hl]
  have HL := Lib.hid hl
  rw [hcg]
  clear h1 h2 h4 h5 hl hcg hg
  obtain ⟨m, hm0⟩ : ∃ m, m = L.length := ⟨_, rfl⟩
  obtain ⟨m1, hm1⟩ : ∃ m1, m1 = m + 1 := ⟨_, rfl⟩
  rw [← hm0, ← hm1] at HL
  rw [← hm0, ← hm1]
  have e0 : (m : Int) + 1 = (m1 : Int) := by omega
  have e1 : wrap64 (m1 : Int) = (m1 : Int) := wrap_nat (by omega)
  have e2 : IntKind.i64.wrap (m1 : Int) = (m1 : Int) := by rw [IntWalk.i64_left]; exact e1
  rw [← hm0] at x2 H2
  have hle : m1 ≤ most := by omega
  clear hm0 hm1 hlt
  have x1' : (w.setCell ⟨lo + 1, 0, none⟩ (.int .i64 m1)).cell? ⟨lo, 0, none⟩ = some (.int .i64 most) := by
    rw [World.cell?_setCell_other _ _ _ _ (by simp)]; exact x1
  have ht : Touched lo (lo + 2) w (w.setCell ⟨lo + 1, 0, none⟩ (.int .i64 m1)) := (Touched.refl lo (lo + 2) w).setCell (p := ⟨lo + 1, 0, none⟩) (by show lo ≤ lo + 1; omega) (by show lo + 1 < lo + 2; omega) _
  have HT := Lib.hid ht
  clear ht
  go_enter Tryz.func121, Tryz.ntmps121
  go_wp2
  go_ret
  refine ⟨by simp, ⟨⟨?_, ?_⟩, by rw [HL.out]; exact hle, H4.out.touched HT.out hS, H5.out.touched HT.out hlo⟩, HT.out⟩
  · rw [Below.heap_setCell _ _ _ _ (by show lo ≠ lo + 1; omega)]
    exact H1.out
  · rw [HL.out]
    exact one_setCell H2.out

set_option maxRecDepth 100000 in
set_option maxHeartbeats 3200000 in
theorem implCountUpTo (ad : Option Addr) (c : Nat) (A : List Int) (free most : Nat) (w : World) (hn : A.length ≤ 1048576) (hs : ∀ v ∈ A, Mk v) (h36 : free < 68719476736) (h1 : 1 ≤ most) (hm : most ≤ 2000) (hT : Tab w) (hc : CellsAt w ad (ints A)) :
    Calls Tryz.prog 75 #[.slice ad A.length c, .int .i64 free, .int .i64 most] w fun e w' => e = .returned (.int .i64 (min most (srchF A free free).length : Nat)) ∧ Below w.heap.size w w' := by
  obtain ⟨wA, hwA⟩ : ∃ wA, wA = (w.alloc (.cells #[.int .i64 most] 3)).alloc (.cells #[.int .i64 0] 3) := ⟨_, rfl⟩
  have hbA : Below w.heap.size w wA := by rw [hwA]; exact ((Below.refl _ _).alloc (Nat.le_refl _) _).alloc (by simp) _
  have hszA : wA.heap.size = w.heap.size + 2 := by rw [hwA]; simp
  have hA0 : wA.heap[w.heap.size]? = some (.cells #[.int .i64 most] 3 (0, 0)) := by
    rw [hwA, Below.heap_alloc _ _ _ (by simp)]
    exact heap_alloc_new w _
  have hA1 : wA.heap[w.heap.size + 1]? = some (.cells #[.int .i64 0] 3 (0, 0)) := by
    have h := heap_alloc_new (w.alloc (.cells #[.int .i64 most] 3)) (.cells #[.int .i64 0] 3)
    rw [hwA]
    simpa using h
  have hns := newSearch_any ad c A 121 #[.pointer (some ⟨w.heap.size + 1, 0, none⟩), .pointer (some ⟨w.heap.size, 0, none⟩)] wA hn hs (hc.below hbA)
  rw [hszA] at hns
  have hfills : ∀ w1 : World, CntI w.heap.size (w.heap.size + 2) most A [] w1 → w.heap.size + 2 ≤ w1.heap.size → _ := fun w1 hI hz => fill_any 121 #[.pointer (some ⟨w.heap.size + 1, 0, none⟩), .pointer (some ⟨w.heap.size, 0, none⟩)] w.heap.size (w.heap.size + 2) (w.heap.size + 2) A (CntI w.heap.size (w.heap.size + 2) most A) (cntG most) (Nat.le_refl _) hn hs callFunc_cnt
    (fun L w h => h.2.2) (fun L w w' h hb => h.below hb) (fun L l w' al cl hg hI _ _ => cntVisit w.heap.size (w.heap.size + 2) most A hT.1 (Nat.le_refl _) hm L l w' al l.length cl hg h1 hI)
    free free [] [] w1 none 0 (Nat.le_refl _) h36 ⟨by simp, by simp⟩ (.inl rfl) hI hz (World.ownsRow_nil _ _ _ _)
  have hcnt := visitG_cnt most (srchF A free free) [] (by rw [List.length_nil]; omega)
  rw [List.length_nil, Nat.zero_add] at hcnt
  have HCNT := Lib.hid hcnt
  have HFI := Lib.hid hfills
  have HNS := Lib.hid hns
  have HBA := Lib.hid hbA
  have HWA := Lib.hid hwA
  have HA0 := Lib.hid hA0
  have HA1 := Lib.hid hA1
  have HTT := Lib.hid (hT.below hbA)
  have hsz0 := hbA.size
  clear hns hbA hwA hA0 hA1 hT hc hs hfills hcnt
  go_enter Tryz.func75, Tryz.ntmps75
  go_wp2_with fail
  rw [← HWA.out]
  refine HNS.out.mono ?_
  rintro e w1 ⟨rfl, hat, hb1⟩
  have hz1 := hb1.size
  have hI : CntI w.heap.size (w.heap.size + 2) most A [] w1 :=
    ⟨⟨(hb1.block _ (by omega)).trans HA0.out, (hb1.block _ (by omega)).trans HA1.out⟩, Nat.zero_le _, hat, HTT.out.below (hb1.mono (by omega))⟩
  have HF := Lib.hid (HFI.out w1 hI (by omega))
  have HB1 := Lib.hid (HBA.out.trans (hb1.mono (by omega)))
  have hsz1 := HB1.out.size
  clear hI hat hb1
  go_wp2_with fail
  refine HF.out.mono ?_
  rintro e w2 ⟨rfl, hI2, ht2⟩
  rw [laid_none] at hI2
  obtain ⟨⟨_, h2⟩, _, _, _⟩ := hI2
  rw [HCNT.out] at h2
  have x2 := cell_of_one h2
  have HB2 := Lib.hid (HB1.out.trans (ht2.below (Nat.le_refl _) hsz1))
  clear h2 ht2
  go_wp2
  go_ret
  exact ⟨rfl, HB2.out⟩
end Go.Proofs.YtajmdgcnnipdoaaGreatDoor

/- OrdI: the walk of ordinal at 0: the first tiling. -/
namespace Go.Proofs.YtajmdgcnnipdoaaGreatDoor
open Go.RowKit

theorem callFunc_ord (args : Array Value) (w : World) : Sem.run Tryz.prog (callFunc 138 args) w = .ok (.enter 138 args) w := by kernel_rfl

/-- What is known of the world while a tiling is looked for: the number that is left, the last tiling that was shown, the search. -/
def OrdI (lo S : Nat) (A : List Int) (L : List (List Int)) (w : World) : Prop :=
  (w.heap[lo]? = some (.cells #[.int .i64 0] 3 (0, 0)) ∧
    (∃ af cf, w.heap[lo + 1]? = some (.cells #[.slice af (L.getLastD []).length cf] 24 (0, 0)) ∧ w.ownsRow (lo + 3) 3 1 (.slice af (L.getLastD []).length cf) (L.getLastD []).length (ints (L.getLastD []))) ∧
    w.heap[lo + 2]? = some (.cells #[.bool (!L.isEmpty)] 4 (0, 0))) ∧
    AtOK w S (.func (.func 138) #[] #[.pointer (some ⟨lo, 0, none⟩), .pointer (some ⟨lo + 1, 0, none⟩), .pointer (some ⟨lo + 2, 0, none⟩)]) (atL A) ∧ Tab w
theorem OrdI.below {lo S : Nat} {A : List Int} {L : List (List Int)} {w w' : World} (h : OrdI lo S A L w) (hb : Below w.heap.size w w') : OrdI lo S A L w' := by
  obtain ⟨⟨h0, ⟨af, cf, h1, h2⟩, h3⟩, h4, h5⟩ := h
  exact ⟨⟨(hb.block lo (lt_of_block h0)).trans h0, ⟨af, cf, (hb.block (lo + 1) (lt_of_block h1)).trans h1, ownsRow_far_below h2 hb (Nat.le_refl _)⟩, (hb.block (lo + 2) (lt_of_block h3)).trans h3⟩, h4.below hb, h5.below hb⟩

set_option maxRecDepth 100000 in
set_option maxHeartbeats 1600000 in
theorem ordVisit (lo S : Nat) (A : List Int) (hlo : 1 < lo) (hS : lo + 3 ≤ S) (L : List (List Int)) (l : List Int) (w : World) (al : Option Addr) (cl : Nat) (hI : OrdI lo S A L w) (hown : w.ownsRow (lo + 3) 3 1 (.slice al l.length cl) l.length (ints l)) :
    Calls Tryz.prog 138 #[.slice al l.length cl, .pointer (some ⟨lo, 0, none⟩), .pointer (some ⟨lo + 1, 0, none⟩), .pointer (some ⟨lo + 2, 0, none⟩)] w fun e w' => e = .returned (.bool (stopG (L ++ [l]))) ∧ OrdI lo S A (L ++ [l]) w' ∧ Touched lo (lo + 3) w w' := by
  obtain ⟨⟨h0, ⟨a0, c0, h1, _⟩, h2⟩, h4, h5⟩ := hI
  have x0 := cell_of_one h0
  have x1 := cell_of_one h1
  have y1 := free_of_one h1
  have x2 := cell_of_one h2
  have y2 := free_of_one h2
  have H0 := Lib.hid h0
  have H1 := Lib.hid h1
  have H2 := Lib.hid h2
  have H4 := Lib.hid h4
  have H5 := Lib.hid h5
  have HO := Lib.hid hown
  have ht : Touched lo (lo + 3) w ((w.setCell ⟨lo + 1, 0, none⟩ (.slice al l.length cl)).setCell ⟨lo + 2, 0, none⟩ (.bool true)) := ((Touched.refl lo (lo + 3) w).setCell (p := ⟨lo + 1, 0, none⟩) (by show lo ≤ lo + 1; omega) (by show lo + 1 < lo + 3; omega) _).setCell (p := ⟨lo + 2, 0, none⟩) (by show lo ≤ lo + 2; omega) (by show lo + 2 < lo + 3; omega) _
  have HT := Lib.hid ht
  clear h0 h1 h2 h4 h5 hown ht
  go_enter Tryz.func138, Tryz.ntmps138
  go_wp2
  go_ret
  have e : (L ++ [l]).getLastD [] = l := by simp
  have e2 : (!(L ++ [l]).isEmpty) = true := by simp
  refine ⟨rfl, ⟨⟨?_, ⟨al, cl, ?_, ?_⟩, ?_⟩, H4.out.touched HT.out hS, H5.out.touched HT.out hlo⟩, HT.out⟩
  · rw [Below.heap_setCell _ _ _ _ (by show lo ≠ lo + 2; omega), Below.heap_setCell _ _ _ _ (by show lo ≠ lo + 1; omega)]
    exact H0.out
  · rw [e, Below.heap_setCell _ _ _ _ (by show lo + 1 ≠ lo + 2; omega)]
    exact one_setCell H1.out
  · rw [e]
    exact ownsRow_touched HO.out HT.out (Nat.le_refl _)
  · rw [e2]
    refine one_setCell (v := .bool (!L.isEmpty)) ?_
    rw [Below.heap_setCell _ _ _ _ (by show lo + 2 ≠ lo + 1; omega)]
    exact H2.out

set_option maxRecDepth 100000 in
set_option maxHeartbeats 3200000 in
theorem implOrdinal (ad : Option Addr) (c : Nat) (A : List Int) (free : Nat) (w : World) (hn : A.length ≤ 1048576) (hs : ∀ v ∈ A, Mk v) (h36 : free < 68719476736) (hT : Tab w) (hc : CellsAt w ad (ints A)) :
    Calls Tryz.prog 100 #[.slice ad A.length c, .int .i64 free, .int .i64 0] w fun e w' => ∃ ad' cap', e = .returned (.tuple #[.slice ad' (firstT (srchF A free free)).length cap', .bool (someT (srchF A free free))]) ∧
      w'.ownsRow w.heap.size 3 1 (.slice ad' (firstT (srchF A free free)).length cap') (firstT (srchF A free free)).length (ints (firstT (srchF A free free))) ∧ Below w.heap.size w w' := by
  obtain ⟨wA, hwA⟩ : ∃ wA, wA = ((w.alloc (.cells #[.int .i64 0] 3)).alloc (.cells #[.slice none 0 0] 24)).alloc (.cells #[.bool false] 4) := ⟨_, rfl⟩
  have hbA : Below w.heap.size w wA := by rw [hwA]; exact (((Below.refl _ _).alloc (Nat.le_refl _) _).alloc (by simp) _).alloc (by simp; omega) _
  have hszA : wA.heap.size = w.heap.size + 3 := by rw [hwA]; simp
  have hA0 : wA.heap[w.heap.size]? = some (.cells #[.int .i64 0] 3 (0, 0)) := by
    rw [hwA, Below.heap_alloc _ _ _ (by simp; omega), Below.heap_alloc _ _ _ (by simp)]
    exact heap_alloc_new w _
  have hA1 : wA.heap[w.heap.size + 1]? = some (.cells #[.slice none 0 0] 24 (0, 0)) := by
    have h := heap_alloc_new (w.alloc (.cells #[.int .i64 0] 3)) (.cells #[.slice none 0 0] 24)
    rw [hwA, Below.heap_alloc _ _ _ (by simp)]
    simpa using h
  have hA2 : wA.heap[w.heap.size + 2]? = some (.cells #[.bool false] 4 (0, 0)) := by
    have h := heap_alloc_new ((w.alloc (.cells #[.int .i64 0] 3)).alloc (.cells #[.slice none 0 0] 24)) (.cells #[.bool false] 4)
    rw [hwA]
    simpa using h
  have hns := newSearch_any ad c A 138 #[.pointer (some ⟨w.heap.size, 0, none⟩), .pointer (some ⟨w.heap.size + 1, 0, none⟩), .pointer (some ⟨w.heap.size + 2, 0, none⟩)] wA hn hs (hc.below hbA)
  rw [hszA] at hns
  have hfills : ∀ w1 : World, OrdI w.heap.size (w.heap.size + 3) A [] w1 → w.heap.size + 3 ≤ w1.heap.size → _ := fun w1 hI hz => fill_any 138 #[.pointer (some ⟨w.heap.size, 0, none⟩), .pointer (some ⟨w.heap.size + 1, 0, none⟩), .pointer (some ⟨w.heap.size + 2, 0, none⟩)] w.heap.size (w.heap.size + 3) (w.heap.size + 3) A (OrdI w.heap.size (w.heap.size + 3) A) stopG (Nat.le_refl _) hn hs callFunc_ord
    (fun L w h => h.2) (fun L w w' h hb => h.below hb) (fun L l w' al cl _ hI _ ho => ordVisit w.heap.size (w.heap.size + 3) A hT.1 (Nat.le_refl _) L l w' al cl hI ho)
    free free [] [] w1 none 0 (Nat.le_refl _) h36 ⟨by simp, by simp⟩ (.inl rfl) hI hz (World.ownsRow_nil _ _ _ _)
  have hst := visitG_stop (srchF A free free)
  generalize firstT (srchF A free free) = r0 at hst ⊢
  generalize someT (srchF A free free) = r1 at hst ⊢
  have HST := Lib.hid hst
  have HFI := Lib.hid hfills
  have HNS := Lib.hid hns
  have HBA := Lib.hid hbA
  have HWA := Lib.hid hwA
  have HA0 := Lib.hid hA0
  have HA1 := Lib.hid hA1
  have HA2 := Lib.hid hA2
  have HTT := Lib.hid (hT.below hbA)
  have hsz0 := hbA.size
  clear hns hbA hwA hA0 hA1 hA2 hT hc hs hfills hst
  go_enter Tryz.func100, Tryz.ntmps100
  go_wp2_with fail
  rw [← HWA.out]
  refine HNS.out.mono ?_
  rintro e w1 ⟨rfl, hat, hb1⟩
  have hz1 := hb1.size
  have hI : OrdI w.heap.size (w.heap.size + 3) A [] w1 :=
    ⟨⟨(hb1.block _ (by omega)).trans HA0.out, ⟨none, 0, (hb1.block _ (by omega)).trans HA1.out, World.ownsRow_nil _ _ _ _⟩, (hb1.block _ (by omega)).trans HA2.out⟩, hat, HTT.out.below (hb1.mono (by omega))⟩
  have HF := Lib.hid (HFI.out w1 hI (by omega))
  have HB1 := Lib.hid (HBA.out.trans (hb1.mono (by omega)))
  have hsz1 := HB1.out.size
  clear hI hat hb1
  go_wp2_with fail
  refine HF.out.mono ?_
  rintro e w2 ⟨rfl, hI2, ht2⟩
  rw [laid_none] at hI2
  obtain ⟨⟨_, ⟨a0, c0, h1, h0⟩, h2⟩, _, _⟩ := hI2
  rw [HST.out.1] at h1 h0
  rw [HST.out.2] at h2
  have x1 := cell_of_one h1
  have x2 := cell_of_one h2
  have HB2 := Lib.hid (HB1.out.trans (ht2.below (Nat.le_refl _) hsz1))
  have HO := Lib.hid (ownsRow_rebase h0 (show w.heap.size ≤ w.heap.size + 3 by omega))
  clear h1 h2 h0 ht2
  go_wp2
  go_big_quiet (fail)
  go_wp2
  go_ret2
  exact ⟨a0, c0, rfl, HO.out, below_drewN HB2.out _⟩
end Go.Proofs.YtajmdgcnnipdoaaGreatDoor
