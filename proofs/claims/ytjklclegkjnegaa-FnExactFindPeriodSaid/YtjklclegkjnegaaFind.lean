/- Find: the walks of FindWangFill, the reference's and the program's. -/
import Derived.Test.YtjklclegkjnegaaVisit
import Derived.Test.YtjklclegkjnegaaAreWang
import Derived.Test.YtjklclegkjnegaaFits
import Derived.Test.YtjklclegkjnegaaFillS
import Derived.Test.YtjklclegkjnegaaFill
import Derived.Laws.EntriesVeiled
namespace Go.Proofs.Ytjklclegkjnegaa
open Go.RowKit

def firstOf (Fs : List (List Nat)) : List Nat := Fs.headD []
def someOf (Fs : List (List Nat)) : Bool := !Fs.isEmpty
theorem first_prefix {Fs Gs : List (List Nat)} (h : Fs <+: Gs) (hs : someOf Fs = true) : firstOf Gs = firstOf Fs ∧ someOf Gs = true := by
  obtain ⟨R, rfl⟩ := h
  cases Fs with
  | nil => simp [someOf] at hs
  | cons f Fs => simp [firstOf, someOf]

set_option maxHeartbeats 1600000 in
theorem l18Search_any (A B base : Nat) (ts : List Tile) (hn : ts.length ≤ 1048576) (hA : 1 ≤ A ∧ A ≤ 4) (hB : 1 ≤ B ∧ B ≤ 4) : ∀ (n : Nat) (f : List Nat) (w : World) (ad af : Option Addr) (c cf : Nat),
    f.length + n = A * B → InR ts f → base ≤ w.heap.size → CellsAt w ad (wangs ts) → w.ownsRow base 3 1 (.slice af f.length cf) f.length (ints (nats f)) →
    Calls Try.prog 30 #[.slice ad ts.length c, .int .i64 A, .int .i64 B, .slice af f.length cf] w fun e w' => ∃ ad' cap', e = .returned (.tuple #[.slice ad' (firstOf (fillsF ts A n f)).length cap', .bool (someOf (fillsF ts A n f))]) ∧
      w'.ownsRow base 3 1 (.slice ad' (firstOf (fillsF ts A n f)).length cap') (firstOf (fillsF ts A n f)).length (ints (nats (firstOf (fillsF ts A n f)))) ∧ Below w.heap.size w w' := by
  obtain ⟨ha1, ha2⟩ := hA
  obtain ⟨hb1, hb2⟩ := hB
  have q0 : A * B ≤ 16 := Nat.mul_le_mul ha2 hb2
  have q1 : 0 ≤ (A : Int) * (B : Int) := by exact Int.mul_nonneg (by omega) (by omega)
  have q2 : (A : Int) * (B : Int) ≤ 16 := by exact_mod_cast q0
  intro n
  induction n with
  | zero =>
    intro f w ad af c cf hlen hin hbase hc hown
    have hl : ((f.length : Int) == (A : Int) * (B : Int)) = true := by rw [beq_iff_eq]; exact_mod_cast hlen
    have e1 : firstOf (fillsF ts A 0 f) = f := rfl
    have e2 : someOf (fillsF ts A 0 f) = true := rfl
    rw [e1, e2]
    have HO := Lib.hid hown
    clear hc hin hlen hown e1 e2
    go_enter Try.func30, Try.ntmps30
    go_wp2
    go_ret2
    exact ⟨af, cf, rfl, HO.out, Below.refl _ _⟩
  | succ n ih =>
    intro f w ad af c cf hlen hin hbase hc hown
    have hl : ((f.length : Int) == (A : Int) * (B : Int)) = false := by
      rw [beq_eq_false_iff_ne]
      intro h
      have : f.length = A * B := by exact_mod_cast h
      omega
    have hfl : f.length ≤ 16 := by omega
    have IH := Lib.hid ih
    have HIN := Lib.hid hin
    have HNIL := Lib.hid (ownsRow_nil_cap hown)
    have HC := Lib.hid hc
    have HCF := Lib.hid (ownsRow_cellsAt hown)
    have HLEN := Lib.hid hlen
    have hnl := nats_length f
    have hil := ints_length (nats f)
    clear ih hin hc hown hlen
    go_enter Try.func30, Try.ntmps30
    go_wp2_with fail
    go_loopw [10] (fun i wr => ∃ k : Nat, k ≤ ts.length ∧ i = .int .i64 k ∧ fillsTo ts A n f k = [] ∧ Below w.heap.size w wr) (fun i _ => ts.length - (intOf i).toNat)
    case atStart => exact ⟨0, by omega, rfl, fillsTo_zero _ _ _ _, Below.refl _ _⟩
    case round =>
      obtain ⟨k, hk, rfl, hnone, hb⟩ := hrel
      have HCR := Lib.hid (HC.out.below hb)
      have HFR := Lib.hid (HCF.out.below hb)
      have HNONE := Lib.hid hnone
      have hsz := hb.size
      clear hnone
      by_cases hlt : k < ts.length
      · have hfit := l18Fits_any ad af c cf ts f A k wr hn (by omega) ⟨ha1, ha2⟩ hlt HIN.out HCR.out HFR.out
        by_cases hfb : fitsB ts A f k = true
        · rw [hfb] at hfit
          have HFB := Lib.hid hfb
          have HFIT := Lib.hid hfit
          clear hfb hfit
          go_wp2_with fail
          refine HFIT.out.mono ?_
          rintro e w2 ⟨rfl, hw2⟩
          have hb2 : Below w.heap.size w w2 := by obtain ⟨m, rfl⟩ := hw2; exact below_drewN hb m
          have HF2 := Lib.hid (HCF.out.below hb2)
          have hz2 := hb2.size
          clear hw2
          have hbe : Below w2.heap.size w2 (w2.alloc (.cells #[] 3)) := (Below.refl _ _).alloc (Nat.le_refl _) _
          have HE := Lib.hid (ownsRow_empty w2 3 1)
          have HFE := Lib.hid (HF2.out.below hbe)
          have HBE := Lib.hid hbe
          clear hbe
          go_wp2_with (first | (at_builtin; refine wpList_appN rfl (.tmp 36) (.tmp 37) 24 rfl w2.heap.size 3 _ 1 8 Try.elemInt _ 0 [] rfl HE.out af f.length cf (ints (nats f)) rfl HNIL.out (by omega) HFE.out (ints_one _) (by unfold maxLen; omega) (by omega) (by simp) ?_; intro a3 c3 w3 p1 p2 p3; simp only [Nat.zero_add, List.nil_append] at p1; have hz3 := p2.size) | (at_builtin; refine wpList_app1 rfl (.tmp 38) (.tmp 40) 24 rfl w2.heap.size 3 _ 1 8 Try.elemInt _ f.length (ints (nats f)) _ _ _ rfl rfl rfl p1 (by rfl) (by simp [Value.oneCell']) (by unfold maxLen; omega) (by omega) (by simp at hz3; omega) ?_; intro g4 c4 w4 r1 r2 r3 r4 r5 r6))
          have hb4 : Below w.heap.size w w4 := hb2.trans (((HBE.out.trans p2).trans r2).mono hz2)
          have hz4 := hb4.size
          have ho4 : w4.ownsRow base 3 1 (.slice (some ⟨g4, 0, none⟩) (f.length + 1) c4) (f.length + 1) (ints (nats (f ++ [k]))) := by
            rw [nats_snoc, ints_append]; exact ownsRow_rebase r1 (by omega)
          have hih := IH.out (f ++ [k]) w4 ad (some ⟨g4, 0, none⟩) c c4 (by rw [List.length_append, List.length_singleton, ← HLEN.out]; omega) (HIN.out.snoc hlt) (by omega) (HC.out.below hb4)
            (by rw [List.length_append, List.length_singleton]; exact ho4)
          rw [List.length_append, List.length_singleton] at hih
          have hto : fillsTo ts A n f (k + 1) = fillsF ts A n (f ++ [k]) := by rw [fillsTo_yes HFB.out, HNONE.out, List.nil_append]
          have HTO := Lib.hid hto
          refine hih.mono ?_
          clear hih ho4 hto r1
          by_cases hs : someOf (fillsF ts A n (f ++ [k])) = true
          · rw [hs]
            have hfst := first_prefix (fillsTo_mono (ts := ts) (b := A) (n := n) (f := f) (show k + 1 ≤ ts.length by omega)) (by rw [HTO.out]; exact hs)
            rw [fillsTo_all, HTO.out] at hfst
            have HFST := Lib.hid hfst
            clear hs hfst
            rintro e w5 ⟨a5, c5, rfl, ho5, hb5⟩
            have HO5 := Lib.hid ho5
            clear ho5
            go_wp2
            go_ret2
            rw [HFST.out.1, HFST.out.2]
            exact ⟨a5, c5, rfl, HO5.out, hb4.trans (hb5.mono hb4.size)⟩
          · have hs' : someOf (fillsF ts A n (f ++ [k])) = false := by simpa using hs
            rw [hs']
            have HS := Lib.hid hs'
            clear hs hs'
            rintro e w5 ⟨a5, c5, rfl, _, hb5⟩
            go_wp2
            go_roundw
            case rel =>
              refine ⟨k + 1, by omega, by go_num, ?_, hb4.trans (hb5.mono hb4.size)⟩
              rw [HTO.out]
              have := HS.out
              unfold someOf at this
              simpa using this
            case measure => simp [intOf]; omega
        · have hfb' : fitsB ts A f k = false := by simpa using hfb
          rw [hfb'] at hfit
          have HFB := Lib.hid hfb'
          have HFIT := Lib.hid hfit
          clear hfb hfb' hfit
          go_wp2_with fail
          refine HFIT.out.mono ?_
          rintro e w2 ⟨rfl, hw2⟩
          have hb2 : Below w.heap.size w w2 := by obtain ⟨m, rfl⟩ := hw2; exact below_drewN hb m
          clear hw2
          go_wp2
          go_roundw
          case rel => exact ⟨k + 1, by omega, by go_num, by rw [fillsTo_no HFB.out]; exact HNONE.out, hb2⟩
          case measure => simp [intOf]; omega
      · obtain rfl : k = ts.length := by omega
        have e0 : fillsF ts A (n + 1) f = [] := by rw [← fillsTo_all]; exact HNONE.out
        have E0 := Lib.hid e0
        have HE := Lib.hid (ownsRow_rebase (ownsRow_empty wr 3 1) (show base ≤ wr.heap.size by omega))
        clear e0
        go_wp2
        go_ret2
        rw [E0.out]
        exact ⟨_, _, rfl, HE.out, hb.alloc hb.size _⟩

/-- The first fill, or none. -/
def findFill (ts : List Tile) (a b : Int) : List Nat := if Wangs ts ∧ Sides a b then firstOf (fillsF ts a.toNat (a.toNat * b.toNat) []) else []
def hasFill (ts : List Tile) (a b : Int) : Bool := if Wangs ts ∧ Sides a b then someOf (fillsF ts a.toNat (a.toNat * b.toNat) []) else false

set_option maxHeartbeats 800000 in
theorem specFind (ad : Option Addr) (c : Nat) (ts : List Tile) (a b : Int) (w : World) (hn : ts.length ≤ 1048576) (hc : CellsAt w ad (wangs ts)) :
    Calls Try.prog 15 #[.slice ad ts.length c, .int .i64 a, .int .i64 b] w fun e w' => ∃ ad' cap', e = .returned (.tuple #[.slice ad' (findFill ts a b).length cap', .bool (hasFill ts a b)]) ∧
      w'.ownsRow w.heap.size 3 1 (.slice ad' (findFill ts a b).length cap') (findFill ts a b).length (ints (nats (findFill ts a b))) ∧ Below w.heap.size w w' := by
  have hare := specAre ad c ts w hn hc
  have hsid := l18Sides_any a b w
  have hbe : Below w.heap.size w (w.alloc (.cells #[] 3)) := (Below.refl _ _).alloc (Nat.le_refl _) _
  have hem := ownsRow_empty w 3 1
  by_cases hW : Wangs ts
  · rw [decide_eq_true hW] at hare
    by_cases hS : Sides a b
    · rw [decide_eq_true hS] at hsid
      have hv1 : findFill ts a b = firstOf (fillsF ts a.toNat (a.toNat * b.toNat) []) := if_pos ⟨hW, hS⟩
      have hv2 : hasFill ts a b = someOf (fillsF ts a.toNat (a.toNat * b.toNat) []) := if_pos ⟨hW, hS⟩
      rw [hv1, hv2]
      obtain ⟨⟨ha1, ha2⟩, hb1, hb2⟩ := hS
      obtain ⟨A, rfl⟩ := Int.eq_ofNat_of_zero_le (show 0 ≤ a by omega)
      obtain ⟨B, rfl⟩ := Int.eq_ofNat_of_zero_le (show 0 ≤ b by omega)
      have hst := l18Search_any A B w.heap.size ts hn ⟨by omega, by omega⟩ ⟨by omega, by omega⟩ (A * B) [] (w.alloc (.cells #[] 3)) ad (some ⟨w.heap.size, 0, none⟩) c 0 (by simp) (InR.nil ts) hbe.size (hc.below hbe) hem
      have HARE := Lib.hid hare
      have HSID := Lib.hid hsid
      have HST := Lib.hid hst
      have HBE := Lib.hid hbe
      clear hare hsid hc hst hbe hv1 hv2 hem
      go_enter Try.func15, Try.ntmps15
      go_wp2_with fail
      refine HARE.out.mono ?_
      rintro e w' ⟨rfl, rfl⟩
      go_wp2_with fail
      refine HSID.out.mono ?_
      rintro e w' ⟨rfl, rfl⟩
      go_wp2_with fail
      refine HST.out.mono ?_
      rintro e w2 ⟨a2, c2, rfl, ho, hb⟩
      have HO := Lib.hid ho
      clear ho
      go_wp2
      go_ret2
      exact ⟨a2, c2, rfl, HO.out, HBE.out.trans (hb.mono HBE.out.size)⟩
    · rw [decide_eq_false hS] at hsid
      have hv1 : findFill ts a b = [] := if_neg (fun h => hS h.2)
      have hv2 : hasFill ts a b = false := if_neg (fun h => hS h.2)
      rw [hv1, hv2]
      have HARE := Lib.hid hare
      have HSID := Lib.hid hsid
      have HBE := Lib.hid hbe
      have HEM := Lib.hid hem
      clear hare hsid hc hv1 hv2 hS hbe hem
      go_enter Try.func15, Try.ntmps15
      go_wp2_with fail
      refine HARE.out.mono ?_
      rintro e w' ⟨rfl, rfl⟩
      go_wp2_with fail
      refine HSID.out.mono ?_
      rintro e w' ⟨rfl, rfl⟩
      go_wp2
      go_ret2
      exact ⟨_, _, rfl, HEM.out, HBE.out⟩
  · rw [decide_eq_false hW] at hare
    have hv1 : findFill ts a b = [] := if_neg (fun h => hW h.1)
    have hv2 : hasFill ts a b = false := if_neg (fun h => hW h.1)
    rw [hv1, hv2]
    have HARE := Lib.hid hare
    have HBE := Lib.hid hbe
    have HEM := Lib.hid hem
    clear hare hsid hc hv1 hv2 hW hbe hem
    go_enter Try.func15, Try.ntmps15
    go_wp2_with fail
    refine HARE.out.mono ?_
    rintro e w' ⟨rfl, rfl⟩
    go_wp2
    go_ret2
    exact ⟨_, _, rfl, HEM.out, HBE.out⟩

theorem callFunc_find (args : Array Value) (w : World) : Sem.run Try.prog (callFunc 32 args) w = .ok (.enter 32 args) w := by kernel_rfl

/-- What is known of the world while a fill is looked for: the last fill that was visited, and the tiles. -/
def FindI (lo : Nat) (ad : Option Addr) (ts : List Tile) (L : List (List Nat)) (w : World) : Prop :=
  (∃ af cf, w.heap[lo]? = some (.cells #[.slice af (L.getLastD []).length cf] 24 (0, 0)) ∧ w.ownsRow (lo + 2) 3 1 (.slice af (L.getLastD []).length cf) (L.getLastD []).length (ints (nats (L.getLastD [])))) ∧
    w.heap[lo + 1]? = some (.cells #[.bool (!L.isEmpty)] 4 (0, 0)) ∧ CellsAt w ad (wangs ts) ∧ ∀ g off, ad = some ⟨g, off, none⟩ → 0 < ts.length → g < lo
def findCont (_ : List (List Nat)) : Bool := false
theorem visit_find (Fs : List (List Nat)) : (visit findCont Fs []).1.getLastD [] = firstOf Fs ∧ (!(visit findCont Fs []).1.isEmpty) = someOf Fs := by
  cases Fs with
  | nil => simp [visit, firstOf, someOf]
  | cons f Fs => simp [visit, findCont, firstOf, someOf]

/-- The tiles' cells behind a store into a block that is not theirs. -/
theorem wang_setCell {w : World} {ad : Option Addr} {ts : List Tile} {lo : Nat} (h : CellsAt w ad (wangs ts)) (hlt : ∀ g off, ad = some ⟨g, off, none⟩ → 0 < ts.length → g < lo) (p : Addr) (hp : lo ≤ p.block) (u : Value) : CellsAt (w.setCell p u) ad (wangs ts) := by
  rcases h with h | ⟨g, off, hv, hc⟩
  · exact .inl h
  · refine .inr ⟨g, off, hv, fun j u' hu => ?_⟩
    have hg := hlt g off hv (by
      have : j < (wangs ts).length := by
        rcases Nat.lt_or_ge j (wangs ts).length with q | q
        · exact q
        · rw [List.getElem?_eq_none q] at hu; cases hu
      rw [wangs_length] at this
      omega)
    rw [World.cell?_of_block (Below.heap_setCell w p u g (by omega))]
    exact hc j u' hu

theorem findVisit (lo : Nat) (ad : Option Addr) (ts : List Tile) (L : List (List Nat)) (f : List Nat) (w : World) (af : Option Addr) (cf : Nat) (hI : FindI lo ad ts L w) (hown : w.ownsRow (lo + 2) 3 1 (.slice af f.length cf) f.length (ints (nats f))) :
    Calls Try.prog 32 #[.slice af f.length cf, .pointer (some ⟨lo, 0, none⟩), .pointer (some ⟨lo + 1, 0, none⟩)] w fun e w' => e = .returned (.bool (findCont (L ++ [f]))) ∧ FindI lo ad ts (L ++ [f]) w' ∧ Touched lo (lo + 2) w w' := by
  obtain ⟨⟨a0, c0, h1, _⟩, h2, h3, h4⟩ := hI
  have x1 := cell_of_one h1
  have y1 := free_of_one h1
  have x2 := cell_of_one h2
  have y2 := free_of_one h2
  have H1 := Lib.hid h1
  have H2 := Lib.hid h2
  have H3 := Lib.hid h3
  have H4 := Lib.hid h4
  have HO := Lib.hid hown
  clear h1 h2 h3 h4 hown
  go_enter Try.func32, Try.ntmps32
  go_wp2
  go_ret
  refine ⟨rfl, ⟨⟨af, cf, ?_, ?_⟩, ?_, ?_, H4.out⟩, ((Touched.refl lo (lo + 2) w).setCell (p := ⟨lo, 0, none⟩) (Nat.le_refl _) (by show lo < lo + 2; omega) _).setCell (p := ⟨lo + 1, 0, none⟩) (by show lo ≤ lo + 1; omega) (by show lo + 1 < lo + 2; omega) _⟩
  · have e : (L ++ [f]).getLastD [] = f := by simp
    rw [e, Below.heap_setCell _ _ _ _ (by show lo ≠ lo + 1; omega)]
    exact one_setCell H1.out
  · have e : (L ++ [f]).getLastD [] = f := by simp
    rw [e]
    exact ownsRow_setCell_below (ownsRow_setCell_below HO.out (by show lo < lo + 2; omega) _) (by show lo + 1 < lo + 2; omega) _
  · have e : (!(L ++ [f]).isEmpty) = true := by simp
    rw [e]
    exact one_setCell (by rw [Below.heap_setCell _ _ _ _ (by show lo + 1 ≠ lo; omega)]; exact H2.out)
  · exact wang_setCell (wang_setCell H3.out H4.out _ (Nat.le_refl _) _) H4.out _ (by show lo ≤ lo + 1; omega) _
theorem findKept {lo : Nat} {ad : Option Addr} {ts : List Tile} {L : List (List Nat)} {w w' : World} (h : FindI lo ad ts L w) (hb : Below w.heap.size w w') : FindI lo ad ts L w' := by
  obtain ⟨⟨a0, c0, h1, h0⟩, h2, h3, h4⟩ := h
  exact ⟨⟨a0, c0, by rw [hb.block lo (lt_of_block h1)]; exact h1, ownsRow_far_below h0 hb (Nat.le_refl _)⟩, by rw [hb.block (lo + 1) (lt_of_block h2)]; exact h2, h3.below hb, h4⟩

set_option maxHeartbeats 800000 in
theorem implFind (ad : Option Addr) (c : Nat) (ts : List Tile) (a b : Int) (w : World) (hn : ts.length ≤ 1048576) (hc : CellsAt w ad (wangs ts)) :
    Calls Try.prog 16 #[.slice ad ts.length c, .int .i64 a, .int .i64 b] w fun e w' => ∃ ad' cap', e = .returned (.tuple #[.slice ad' (findFill ts a b).length cap', .bool (hasFill ts a b)]) ∧
      w'.ownsRow w.heap.size 3 1 (.slice ad' (findFill ts a b).length cap') (findFill ts a b).length (ints (nats (findFill ts a b))) ∧ Below w.heap.size w w' := by
  have hare := implAre ad c ts w hn hc
  have hsid := fun w => isWangGrid_any a b w
  by_cases hW : Wangs ts
  · rw [decide_eq_true hW] at hare
    by_cases hS : Sides a b
    · rw [decide_eq_true hS] at hsid
      have hv1 : findFill ts a b = firstOf (fillsF ts a.toNat (a.toNat * b.toNat) []) := if_pos ⟨hW, hS⟩
      have hv2 : hasFill ts a b = someOf (fillsF ts a.toNat (a.toNat * b.toNat) []) := if_pos ⟨hW, hS⟩
      rw [hv1, hv2]
      obtain ⟨⟨ha1, ha2⟩, hb1, hb2⟩ := hS
      obtain ⟨A, rfl⟩ := Int.eq_ofNat_of_zero_le (show 0 ≤ a by omega)
      obtain ⟨B, rfl⟩ := Int.eq_ofNat_of_zero_le (show 0 ≤ b by omega)
      have HARE := Lib.hid hare
      have HSID := Lib.hid hsid
      have HC := Lib.hid hc
      clear hare hsid hc hv1 hv2
      go_enter Try.func16, Try.ntmps16
      go_wp2_with fail
      refine HARE.out.mono ?_
      rintro e w1 ⟨rfl, hb1'⟩
      go_wp2_with fail
      refine (HSID.out _).mono ?_
      rintro e w' ⟨rfl, rfl⟩
      have hc1 := HC.out.below hb1'
      have hbw : Below w1.heap.size w1 ((w1.alloc (.cells #[.slice none 0 0] 24)).alloc (.cells #[.bool false] 4)) := ((Below.refl _ _).alloc (Nat.le_refl _) _).alloc (by simp) _
      have hI : FindI w1.heap.size ad ts [] ((w1.alloc (.cells #[.slice none 0 0] 24)).alloc (.cells #[.bool false] 4)) := by
        refine ⟨⟨none, 0, ?_, World.ownsRow_nil _ _ _ _⟩, ?_, hc1.below hbw, hc1.lt⟩
        · rw [Below.heap_alloc _ _ _ (by simp)]; exact heap_alloc_new w1 _
        · have := heap_alloc_new (w1.alloc (.cells #[.slice none 0 0] 24)) (.cells #[.bool false] 4)
          simpa using this
      have hfills := wangFills_any 32 #[.pointer (some ⟨w1.heap.size, 0, none⟩), .pointer (some ⟨w1.heap.size + 1, 0, none⟩)] w1.heap.size (w1.heap.size + 2) A B ad c ts (FindI w1.heap.size ad ts) findCont hn ⟨by omega, by omega⟩ ⟨by omega, by omega⟩ callFunc_find
        (fun L w h => h.2.2.1) (fun L w w' h hb => findKept h hb) (fun L f w af cf h _ _ _ ho => findVisit w1.heap.size ad ts L f w af cf h ho)
        (A * B) [] [] ((w1.alloc (.cells #[.slice none 0 0] 24)).alloc (.cells #[.bool false] 4)) none 0 (by simp) (InR.nil ts) hI (by simp) (World.ownsRow_nil _ _ _ _)
      have HF := Lib.hid hfills
      clear hfills hI hc1
      go_wp2_with fail
      refine HF.out.mono ?_
      rintro e w2 ⟨rfl, hI2, ht2⟩
      obtain ⟨⟨a0, c0, h1, h0⟩, h2, _, _⟩ := hI2
      rw [(visit_find _).1] at h1 h0
      rw [(visit_find _).2] at h2
      have x1 := cell_of_one h1
      have x2 := cell_of_one h2
      have hB : Below w.heap.size w w2 := by
        have h0 : Below w.heap.size w ((w1.alloc (.cells #[.slice none 0 0] 24)).alloc (.cells #[.bool false] 4)) := hb1'.trans (hbw.mono hb1'.size)
        exact h0.trans (ht2.below hb1'.size h0.size)
      have HO := Lib.hid (ownsRow_rebase h0 (show w.heap.size ≤ w1.heap.size + 2 by have := hb1'.size; omega))
      clear h1 h2 h0 ht2
      go_wp2
      go_big_quiet (fail)
      go_wp2
      go_ret2
      exact ⟨a0, c0, rfl, HO.out, below_drewN hB _⟩
    · rw [decide_eq_false hS] at hsid
      have hv1 : findFill ts a b = [] := if_neg (fun h => hS h.2)
      have hv2 : hasFill ts a b = false := if_neg (fun h => hS h.2)
      rw [hv1, hv2]
      have HARE := Lib.hid hare
      have HSID := Lib.hid hsid
      clear hare hsid hc hv1 hv2 hS
      go_enter Try.func16, Try.ntmps16
      go_wp2_with fail
      refine HARE.out.mono ?_
      rintro e w1 ⟨rfl, hb1⟩
      go_wp2_with fail
      refine (HSID.out _).mono ?_
      rintro e w' ⟨rfl, rfl⟩
      go_wp2
      go_ret2
      exact ⟨none, 0, rfl, World.ownsRow_nil _ _ _ _, hb1⟩
  · rw [decide_eq_false hW] at hare
    have hv1 : findFill ts a b = [] := if_neg (fun h => hW h.1)
    have hv2 : hasFill ts a b = false := if_neg (fun h => hW h.1)
    rw [hv1, hv2]
    have HARE := Lib.hid hare
    clear hare hsid hc hv1 hv2 hW
    go_enter Try.func16, Try.ntmps16
    go_wp2_with fail
    refine HARE.out.mono ?_
    rintro e w1 ⟨rfl, hb1⟩
    go_wp2
    go_ret2
    exact ⟨none, 0, rfl, World.ownsRow_nil _ _ _ _, hb1⟩
end Go.Proofs.Ytjklclegkjnegaa
