/- FillI: the walk of the program's fill, over any visitor: which tilings it shows, in which order, when it stops. -/
import Derived.Test.YtmpcmeeoiapbdaaGreatDoorSrch1
import Derived.Test.YtmpcmeeoiapbdaaGreatDoorLow
import Derived.Test.YtmpcmeeoiapbdaaGreatDoorAllBase
import Derived.Lib.QuietBelow
import Derived.BigQuiet
import Derived.IntWalk
namespace Go.Proofs.YtmpcmeeoiapbdaaGreatDoor
open Go.RowKit

attribute [local go_sem ↓] Go.wp_at_zero Go.wp_at_succ

theorem touched_of_below {lo hi : Nat} {w w' : World} (h : Below w.heap.size w w') : Touched lo hi w w' := ⟨h.os, h.tape, h.output, h.size, fun k hk _ => h.block k hk⟩
theorem ownsRow_touched {w w' : World} {lo hi base e size n : Nat} {v : Value} {xs : List Value} (h : w.ownsRow base e size v n xs) (ht : Touched lo hi w w') (hb : hi ≤ base) : w'.ownsRow base e size v n xs := by
  refine ⟨h.1, ?_⟩
  rcases h.2 with q2 | ⟨g, c, cur, q1, q2, q3, r⟩
  · exact .inl q2
  · refine .inr ⟨g, c, cur, q1, q2, ?_, r⟩
    rw [ht.block g (Array.getElem?_eq_some_iff.1 q3).1 (by omega)]
    exact q3
theorem ownsRow_nil_cap {w : World} {base e size n m cap : Nat} {ad : Option Addr} {xs : List Value} (h : w.ownsRow base e size (.slice ad m cap) n xs) : ad = none → cap = 0 := by
  intro hn
  rcases h.2 with ⟨h1, _⟩ | ⟨g, c, cur, h1, _⟩
  · cases h1; rfl
  · cases h1; cases hn
theorem AtOK.touched {w w' : World} {S lo hi : Nat} {vis : Value} {L : Nat → List Int} (h : AtOK w S vis L) (ht : Touched lo hi w w') (hS : hi ≤ S) : AtOK w' S vis L := by
  have hlt := h.lt
  obtain ⟨arr, h1, h2, h3, h4, h5, h6⟩ := h
  exact ⟨arr, (ht.block S hlt (.inr hS)).trans h1, h2, h3, h4, fun k hk => ownsRow_touched (h5 k hk) ht (by omega), h6⟩
theorem Tab.touched {w w' : World} {lo hi : Nat} (h : Tab w) (ht : Touched lo hi w w') (hlo : 1 < lo) : Tab w' :=
  ⟨Nat.lt_of_lt_of_le h.1 ht.size, fun j hj => (World.cell?_of_block (ht.block _ h.1 (.inl hlo))).trans (h.2 j hj)⟩

set_option maxRecDepth 100000 in
set_option maxHeartbeats 3200000 in
theorem fill_any (K : FuncId) (caps : Array Value) (lo hi S : Nat) (A : List Int) (I : List (List Int) → World → Prop) (cont : List (List Int) → Bool) (hhS : hi ≤ S)
    (hlA : A.length ≤ 1048576) (hs : ∀ v ∈ A, Mk v) (hK : ∀ (args : Array Value) (w : World), Sem.run Tryz.prog (callFunc K args) w = .ok (.enter K args) w)
    (hIc : ∀ L w, I L w → AtOK w S (.func (.func K) #[] caps) (atL A) ∧ Tab w) (hIb : ∀ L w w', I L w → Below w.heap.size w w' → I L w')
    (hV : ∀ L l w al cl, GoL cont L → I L w → hi ≤ w.heap.size → w.ownsRow hi 3 1 (.slice al l.length cl) l.length (ints l) →
      Calls Tryz.prog K (#[.slice al l.length cl] ++ caps) w fun e w' => e = .returned (.bool (cont (L ++ [l]))) ∧ I (L ++ [l]) w' ∧ Touched lo hi w w') :
    ∀ (f free : Nat) (l : List Int) (L : List (List Int)) (w : World) (al : Option Addr) (cl : Nat), free ≤ f → free < 68719476736 → (l.length ≤ 36 ∧ ∀ i, i < l.length → free.testBit i = false) → GoL cont L → I L w → hi ≤ w.heap.size → w.ownsRow hi 3 1 (.slice al l.length cl) l.length (ints l) →
      Calls Tryz.prog 74 #[.pointer (some ⟨S, 0, none⟩), .int .i64 free, .slice al l.length cl] w fun e w' =>
        e = .returned (.bool (visitG cont (laid l (srchF A f free)) L).2) ∧ I (visitG cont (laid l (srchF A f free)) L).1 w' ∧ Touched lo hi w w' := by
  have HIC := Lib.hid hIc
  have HIB := Lib.hid hIb
  have HV := Lib.hid hV
  have HS := Lib.hid hs
  have zero : ∀ (f : Nat) (l : List Int) (L : List (List Int)) (w : World) (al : Option Addr) (cl : Nat), GoL cont L → I L w → hi ≤ w.heap.size → w.ownsRow hi 3 1 (.slice al l.length cl) l.length (ints l) →
      Calls Tryz.prog 74 #[.pointer (some ⟨S, 0, none⟩), .int .i64 (0 : Nat), .slice al l.length cl] w fun e w' =>
        e = .returned (.bool (visitG cont (laid l (srchF A f 0)) L).2) ∧ I (visitG cont (laid l (srchF A f 0)) L).1 w' ∧ Touched lo hi w w' := by
    intro f l L w al cl hgl hI hhi hown
    rw [srchF_zero, laid_one, visitG_one]
    have x0 := (HIC.out _ _ hI).1.vis
    have HCALL := Lib.hid (HV.out L l w al cl hgl hI hhi hown)
    clear hI hown hIc hIb hV hs
    go_enter Tryz.func74, Tryz.ntmps74
    go_wp2_with fail
    refine HCALL.out.mono ?_
    rintro e w1 ⟨rfl, hI1, ht1⟩
    have HI1 := Lib.hid hI1
    clear hI1
    go_wp2
    go_ret
    exact ⟨rfl, HI1.out, ht1⟩
  intro f
  induction f with
  | zero =>
    intro free l L w al cl hf _ _ hgl hI hhi hown
    obtain rfl : free = 0 := by omega
    exact zero 0 l L w al cl hgl hI hhi hown
  | succ f ih =>
    intro free l L w al cl hf h36 hbits hgl hI hhi hown
    by_cases h0 : free = 0
    · subst h0
      exact zero _ l L w al cl hgl hI hhi hown
    · have hz : ((free : Int) == 0) = false := by simp; omega
      rw [srchF_pos A f h0, ← goR_all]
      have hlow := low_lt (m := free) (by omega) (by omega)
      obtain ⟨ar, cr, x0, hrow⟩ := (HIC.out _ _ hI).1.row hlow
      have hTab := (HIC.out _ _ hI).2
      have HTZ := Lib.hid (fun d os => Calls.regrown_of (d := d) (os := os) ((implTz free (by omega) (by omega) (Go.Sort.grow (redrawn w d) os) (hTab.below (below_regrown w d os))).mono fun e w' q => (⟨q.1, by rw [q.2]; exact Below.refl _ _⟩ : e = .returned (.int .i64 (lowB free)) ∧ Below (Go.Sort.grow (redrawn w d) os).heap.size (Go.Sort.grow (redrawn w d) os) w')))
      have HRM := Lib.hid (fun v (hv : v ∈ atL A (lowB free)) => (⟨HS.out v (atL_mem hv).1, fun q => sub_low h0 h36 q (atL_mem hv).2 (low_ge h0 h36 hbits.2)⟩ : Mk v ∧ (v.toNat &&& free = v.toNat → ∀ i, i < l.length + 1 → (free - v.toNat).testBit i = false)))
      have hl35 := low36 h0 h36
      have hl36 := low_ge h0 h36 hbits.2
      have hRl := Nat.le_trans (atL_length A (lowB free)) hlA
      have HIH := Lib.hid ih
      have HI := Lib.hid hI
      have HO := Lib.hid hown
      have HRW := Lib.hid hrow
      have hSlt := (HIC.out _ _ hI).1.lt
      have X0 := cell_regrown x0
      have hlen36 : l.length ≤ 35 := by omega
      have H36 := Lib.hid h36
      have HGL := Lib.hid hgl
      have i64 : (lowB free : Int) < 64 := by omega
      have hwu : IntKind.u64.wrap (free : Int) = (free : Int) := IntWalk.u64_in _ (by omega)
      clear ih hI hown hrow hIc hIb hV hs zero hTab x0 h36 hl35 hl36 hbits hgl
      generalize atL A (lowB free) = R at X0 HRM hRl HRW ⊢
      generalize lowB free = low at hlow X0 HTZ i64 ⊢
      go_enter Tryz.func74, Tryz.ntmps74
      go_wp2
      refine wp_region_quiet_below (by kernel_rfl) (by kernel_rfl) ?_
      repeat (go_big_quiet_step (exact HTZ.out _ _))
      refine wpQuiet_nil ?_
      intro _ hw'
      obtain ⟨⟨dq, osq⟩, hw''⟩ := hw'
      subst hw''
      have hbr := below_regrown w dq osq
      generalize Go.Sort.grow (redrawn w dq) osq = w0 at hbr ⊢
      have hszw := hbr.size
      have HI0 := Lib.hid (HIB.out _ _ _ HI.out hbr)
      have HO0 := Lib.hid (ownsRow_far_below HO.out hbr (Nat.le_refl _))
      have HRW0 := Lib.hid (ownsRow_far_below HRW.out hbr (Nat.le_refl _))
      have HT0 := Lib.hid (touched_of_below (lo := lo) (hi := hi) hbr)
      clear hbr X0 HI HO HRW HTZ
      go_wp2
      go_loopw [26] (fun i wr => ∃ j : Nat, j ≤ R.length ∧ i = .int .i64 j ∧ (visitG cont (laid l (goR R (srchF A f) free j)) L).2 = true ∧ I (visitG cont (laid l (goR R (srchF A f) free j)) L).1 wr ∧ Touched lo hi w0 wr) (fun i _ => R.length - (intOf i).toNat)
      case atStart => exact ⟨0, Nat.zero_le _, rfl, rfl, HI0.out, Touched.refl _ _ _⟩
      case round =>
        obtain ⟨j, hj, rfl, hgo, hIj, ht⟩ := hrel
        have HGO := Lib.hid hgo
        have HIJ := Lib.hid hIj
        have HT := Lib.hid ht
        have hsz := ht.size
        have HOW := Lib.hid (ownsRow_touched HO0.out ht (Nat.le_refl _))
        have hcl := ownsRow_cellsAt (ownsRow_touched HRW0.out ht (by omega))
        have hst := (HIC.out _ _ hIj).1
        clear hgo hIj ht
        by_cases hlt : j < R.length
        · have i1 : (j : Int) < (R.length : Int) := by omega
          obtain ⟨g, off, rfl, hg, hcc⟩ := hcl.open (by rw [ints_length]; omega)
          have x0 := hcc j _ (ints_at R j hlt)
          obtain ⟨hsm, hlow2⟩ := HRM.out _ (List.getElem_mem hlt)
          have HLOW2 := Lib.hid hlow2
          have HYES := Lib.hid (fun h => goR_yes (rec := srchF A f) (free := free) hlt h)
          have HNO := Lib.hid (fun h => goR_no (rec := srchF A f) (free := free) hlt h)
          clear hcc hcl hlow2
          generalize R[j] = v at x0 hsm HYES HNO HLOW2
          obtain ⟨u, rfl⟩ : ∃ u : Nat, v = (u : Int) := ⟨v.toNat, by have := hsm.1; omega⟩
          have hu0 : 0 < u := by have := hsm.1; omega
          have hu : u < 68719476736 := by have := hsm.2; omega
          rw [Int.toNat_natCast] at HYES HNO HLOW2
          clear hsm
          have hand := i64_andNot_nat u free (by omega) (by have := H36.out; omega)
          by_cases hq : u &&& free = u
          · rw [hq, Nat.sub_self] at hand
            have hand2 := i64_andNot_nat free u (by have := H36.out; omega) (by omega)
            rw [Nat.and_comm free u, hq] at hand2
            have hle := fits_sub hq
            obtain ⟨fr2, hfr⟩ : ∃ fr2 : Nat, free = fr2 + u := ⟨free - u, by omega⟩
            have hyes := HYES.out hq
            rw [show free - u = fr2 by omega] at hyes hand2
            have hv : visitG cont (laid l (goR R (srchF A f) free (j + 1))) L = visitG cont (laid (l ++ [(u : Int)]) (srchF A f fr2)) (visitG cont (laid l (goR R (srchF A f) free j)) L).1 := by
              rw [hyes, laid_append, laid_cons, visitG_go HGO.out]
            have HVV := Lib.hid hv
            have HSTOP := Lib.hid (fun h => visitG_stopped (cont := cont) (L := L) (laid_prefix l (goR_prefix R (srchF A f) free (show j + 1 ≤ R.length by omega))) h)
            have hff : fr2 ≤ f := by omega
            have hbit2 := HLOW2.out hq
            rw [show free - u = fr2 by omega] at hbit2
            have HBIT2 := Lib.hid (⟨by rw [List.length_append, List.length_singleton]; omega, by rw [List.length_append, List.length_singleton]; exact hbit2⟩ : (l ++ [(u : Int)]).length ≤ 36 ∧ ∀ i, i < (l ++ [(u : Int)]).length → fr2.testBit i = false)
            have h36b : fr2 < 68719476736 := by have := H36.out; omega
            have hcopy := copyInts_any al cl l wr (by omega) (ownsRow_nil_cap HOW.out) (ownsRow_cellsAt HOW.out)
            have HCOPY := Lib.hid hcopy
            have hil := ints_length l
            have hz0 : (((0 : Nat) : Int) != 0) = false := rfl
            have xt := hst.tried
            have hfn : Sem.run Tryz.prog (binOp BinOp.neq 95 Value.nilFunc Value.nilFunc) wr = .ok (.bool false) wr := by kernel_rfl
            have H36B := Lib.hid h36b
            have HFR := Lib.hid hfr
            clear hv hyes hq hle hfr hcopy h36b HYES HNO hst hbit2 HLOW2
            go_wp2_with fail
            refine HCOPY.out.mono ?_
            rintro e w1 ⟨a1, c1, rfl, ho1, hb1⟩
            have HO1 := Lib.hid ho1
            have hz1 := hb1.size
            clear ho1 xt x0
            go_wp2_with (at_builtin; refine wpList_app1 rfl (.tmp 52) (.tmp 54) 37 rfl wr.heap.size 3 _ 1 8 Tryz.elemInt _ l.length (ints l) _ _ _ rfl rfl rfl HO1.out (by rfl) (by simp [Value.oneCell']) (by unfold maxLen; omega) (by omega) (by omega) ?_; intro g2 c2 w2 r1 r2 r3 r4 r5 r6)
            have hb2 : Below wr.heap.size wr w2 := hb1.trans r2
            have ho2 : w2.ownsRow wr.heap.size 3 1 (.slice (some ⟨g2, 0, none⟩) (l.length + 1) c2) (l.length + 1) (ints (l ++ [(u : Int)])) := by
              rw [ints_append]; exact r1
            have hz2 := hb2.size
            have hI2 := HIB.out _ _ _ HIJ.out hb2
            have ho3 := ownsRow_rebase ho2 (show hi ≤ wr.heap.size by omega)
            have hrec := HIH.out fr2 (l ++ [(u : Int)]) (visitG cont (laid l (goR R (srchF A f) free j)) L).1 w2 (some ⟨g2, 0, none⟩) c2 hff H36B.out HBIT2.out (visitG_goL HGL.out HGO.out) hI2 (by omega)
              (by rw [List.length_append, List.length_singleton]; exact ho3)
            rw [List.length_append, List.length_singleton] at hrec
            have HREC := Lib.hid hrec
            have HT2 := Lib.hid (HT.out.trans (touched_of_below (lo := lo) (hi := hi) hb2))
            clear hrec hI2 ho3 ho2 r1 r3 r2
            go_wp2_with fail
            refine HREC.out.mono ?_
            by_cases hb : (visitG cont (laid (l ++ [(u : Int)]) (srchF A f fr2)) (visitG cont (laid l (goR R (srchF A f) free j)) L).1).2 = true
            · rw [hb]
              have HBB := Lib.hid hb
              clear hb
              rintro e w4 ⟨rfl, hI4, ht4⟩
              have HI4 := Lib.hid hI4
              clear hI4
              go_wp2
              go_roundw
              case rel => exact ⟨j + 1, by omega, by go_num, by rw [HVV.out]; exact HBB.out, by rw [HVV.out]; exact HI4.out, HT2.out.trans ht4⟩
              case measure => simp [intOf]; omega
            · have hb' : (visitG cont (laid (l ++ [(u : Int)]) (srchF A f fr2)) (visitG cont (laid l (goR R (srchF A f) free j)) L).1).2 = false := by simpa using hb
              rw [hb']
              have HBB := Lib.hid hb'
              clear hb hb'
              rintro e w4 ⟨rfl, hI4, ht4⟩
              have HI4 := Lib.hid hI4
              clear hI4
              have hst2 := HSTOP.out (by rw [HVV.out]; exact HBB.out)
              have HST2 := Lib.hid hst2
              clear hst2
              go_wp2
              go_ret
              rw [HST2.out, HVV.out]
              exact ⟨by first | (rw [HBB.out]; done) | (rw [HBB.out]; rfl), HI4.out, HT0.out.trans (HT2.out.trans ht4)⟩
          · obtain ⟨q, hqd⟩ : ∃ q, q = u - (u &&& free) := ⟨_, rfl⟩
            rw [← hqd] at hand
            have hle : u &&& free ≤ u := Nat.and_le_left
            have hq0 : ((q : Int) != 0) = true := by simp; omega
            have HSAME := Lib.hid (HNO.out hq)
            clear hqd hle hq HYES HNO hst HLOW2
            go_wp2
            go_roundw
            case rel => exact ⟨j + 1, by omega, by go_num, by rw [HSAME.out]; exact HGO.out, by rw [HSAME.out]; exact HIJ.out, HT.out⟩
            case measure => simp [intOf]; omega
        · obtain rfl : j = R.length := by omega
          clear hst hcl
          go_wp2
          go_ret
          exact ⟨by first | (rw [HGO.out]; done) | (rw [HGO.out]; rfl), HIJ.out, HT0.out.trans HT.out⟩
end Go.Proofs.YtmpcmeeoiapbdaaGreatDoor
