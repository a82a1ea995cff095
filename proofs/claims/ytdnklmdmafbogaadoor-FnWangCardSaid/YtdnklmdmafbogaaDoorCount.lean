/- Count: the walks of CountWangFills, the reference's and the program's. -/
import Derived.Test.YtdnklmdmafbogaaDoorWSearch
import Derived.Test.YtdnklmdmafbogaaDoorVisit
import Derived.Test.YtdnklmdmafbogaaDoorFill
namespace Go.Proofs.YtdnklmdmafbogaaDoor
open Go.RowKit

theorem callFunc_count (args : Array Value) (w : World) : Sem.run Tryd.prog (callFunc 62 args) w = .ok (.enter 62 args) w := by kernel_rfl

theorem wrap_wrap (a : Int) : wrap64 (wrap64 a + 1) = wrap64 (a + 1) := by unfold wrap64; omega
theorem wrap_small (n : Nat) (h : n ≤ 1048576) : wrap64 (n : Int) = n := IntWalk.wrap64_in _ (by omega)

/-- What is known of the world while the fills are counted: the count, and the tiles. -/
def CountI (lo : Nat) (ad : Option Addr) (ts : List Tile) (L : List (List Nat)) (w : World) : Prop :=
  w.heap[lo]? = some (.cells #[.int .i64 (wrap64 (L.length : Nat))] 3 (0, 0)) ∧ CellsAt w ad (wangs ts) ∧ ∀ g off, ad = some ⟨g, off, none⟩ → 0 < ts.length → g < lo
def countCont (L : List (List Nat)) : Bool := decide (wrap64 (L.length : Nat) < 2000)

theorem countVisit (lo : Nat) (ad : Option Addr) (ts : List Tile) (L : List (List Nat)) (f : List Nat) (w : World) (af : Option Addr) (n cf : Nat) (hI : CountI lo ad ts L w) :
    Calls Tryd.prog 62 #[.slice af n cf, .pointer (some ⟨lo, 0, none⟩)] w fun e w' => e = .returned (.bool (countCont (L ++ [f]))) ∧ CountI lo ad ts (L ++ [f]) w' ∧ Touched lo (lo + 1) w w' := by
  obtain ⟨h1, h2, h4⟩ := hI
  have hcell := cell_of_one h1
  have hfree := free_of_one h1
  have H1 := Lib.hid h1
  have H2 := Lib.hid h2
  have H4 := Lib.hid h4
  clear h1 h2 h4
  obtain ⟨m, hm⟩ : ∃ m, m = wrap64 (L.length : Nat) := ⟨_, rfl⟩
  rw [← hm] at hcell
  have HM := Lib.hid hm
  clear hm
  go_enter Tryd.func62, Tryd.ntmps62
  go_wp2
  go_ret
  have e1 : wrap64 (m + 1) = wrap64 ((L ++ [f]).length : Nat) := by
    rw [HM.out, wrap_wrap]
    simp
  refine ⟨?_, ⟨?_, ?_, H4.out⟩, (Touched.refl lo (lo + 1) w).setCell (p := ⟨lo, 0, none⟩) (Nat.le_refl _) (Nat.lt_succ_self _) _⟩
  · unfold countCont
    rw [← e1]
    rfl
  · rw [← e1]
    exact one_setCell H1.out
  · rcases H2.out with h | ⟨g, off, hv, hc⟩
    · exact .inl h
    · refine .inr ⟨g, off, hv, fun j u hu => ?_⟩
      have hg := H4.out g off hv (by
        have : j < (wangs ts).length := by
          rcases Nat.lt_or_ge j (wangs ts).length with q | q
          · exact q
          · rw [List.getElem?_eq_none q] at hu; cases hu
        rw [wangs_length] at this
        omega)
      rw [World.cell?_setCell_other _ _ _ _ (by simp <;> omega)]
      exact hc j u hu
theorem countKept {lo : Nat} {ad : Option Addr} {ts : List Tile} {L : List (List Nat)} {w w' : World} (h : CountI lo ad ts L w) (hb : Below w.heap.size w w') : CountI lo ad ts L w' :=
  ⟨by rw [hb.block lo (lt_of_block h.1)]; exact h.1, h.2.1.below hb, h.2.2⟩

theorem visit_count : ∀ (Fs L : List (List Nat)), L.length < 2000 → (visit countCont Fs L).1.length = min 2000 (L.length + Fs.length) := by
  intro Fs
  induction Fs with
  | nil => intro L h; simp [visit]; omega
  | cons f Fs ih =>
    intro L h
    have hc : countCont (L ++ [f]) = decide (L.length + 1 < 2000) := by
      unfold countCont
      rw [List.length_append, List.length_singleton, wrap_small _ (by omega)]
      rw [Bool.eq_iff_iff]; simp; omega
    simp only [visit, hc]
    by_cases h2 : L.length + 1 < 2000
    · rw [if_pos (decide_eq_true h2), ih _ (by simp; omega)]
      simp; omega
    · rw [if_neg (by simp; omega)]
      simp; omega

def countFills (ts : List Tile) (a b : Int) : Int := if Wangs ts ∧ Sides a b then (min 2000 (fillsF ts a.toNat (a.toNat * b.toNat) []).length : Nat) else -1

set_option maxRecDepth 100000 in
set_option maxHeartbeats 800000 in
theorem specCount (ad : Option Addr) (c : Nat) (ts : List Tile) (a b : Int) (w : World) (hn : ts.length ≤ 1048576) (hc : CellsAt w ad (wangs ts)) :
    Calls Tryd.prog 25 #[.slice ad ts.length c, .int .i64 a, .int .i64 b] w fun e w' => e = .returned (.int .i64 (countFills ts a b)) ∧ Below w.heap.size w w' := by
  have hare := specAre ad c ts w hn hc
  have hsid := l18Sides_any a b w
  by_cases hW : Wangs ts
  · rw [decide_eq_true hW] at hare
    by_cases hS : Sides a b
    · rw [decide_eq_true hS] at hsid
      have hval : countFills ts a b = (min 2000 (fillsF ts a.toNat (a.toNat * b.toNat) []).length : Nat) := if_pos ⟨hW, hS⟩
      rw [hval]
      obtain ⟨⟨ha1, ha2⟩, hb1, hb2⟩ := hS
      obtain ⟨A, rfl⟩ := Int.eq_ofNat_of_zero_le (show 0 ≤ a by omega)
      obtain ⟨B, rfl⟩ := Int.eq_ofNat_of_zero_le (show 0 ≤ b by omega)
      have hbe : Below w.heap.size w (w.alloc (.cells #[] 3)) := (Below.refl _ _).alloc (Nat.le_refl _) _
      have hst := l18Count_start A B ts hn ⟨by omega, by omega⟩ ⟨by omega, by omega⟩ (w.alloc (.cells #[] 3)) ad (some ⟨w.heap.size, 0, none⟩) c 0 (fun h => by cases h) (hc.below hbe)
      have HARE := Lib.hid hare
      have HSID := Lib.hid hsid
      have HST := Lib.hid hst
      have HBE := Lib.hid hbe
      clear hare hsid hc hst hbe hval
      go_enter Tryd.func25, Tryd.ntmps25
      go_wp2_with fail
      refine HARE.out.mono ?_
      rintro e w' ⟨rfl, rfl⟩
      go_wp2_with fail
      refine HSID.out.mono ?_
      rintro e w' ⟨rfl, rfl⟩
      go_wp2_with fail
      refine HST.out.mono ?_
      rintro e w2 ⟨rfl, hb⟩
      go_wp2
      go_ret
      exact ⟨rfl, HBE.out.trans (hb.mono HBE.out.size)⟩
    · rw [decide_eq_false hS] at hsid
      have hval : countFills ts a b = -1 := if_neg (fun h => hS h.2)
      rw [hval]
      have HARE := Lib.hid hare
      have HSID := Lib.hid hsid
      clear hare hsid hc hval hS
      go_enter Tryd.func25, Tryd.ntmps25
      go_wp2_with fail
      refine HARE.out.mono ?_
      rintro e w' ⟨rfl, rfl⟩
      go_wp2_with fail
      refine HSID.out.mono ?_
      rintro e w' ⟨rfl, rfl⟩
      go_wp2
      go_ret
      exact ⟨rfl, Below.refl _ _⟩
  · rw [decide_eq_false hW] at hare
    have hval : countFills ts a b = -1 := if_neg (fun h => hW h.1)
    rw [hval]
    have HARE := Lib.hid hare
    clear hare hsid hc hval hW
    go_enter Tryd.func25, Tryd.ntmps25
    go_wp2_with fail
    refine HARE.out.mono ?_
    rintro e w' ⟨rfl, rfl⟩
    go_wp2
    go_ret
    exact ⟨rfl, Below.refl _ _⟩

theorem CellsAt.lt {w : World} {ad : Option Addr} {ts : List Tile} (h : CellsAt w ad (wangs ts)) : ∀ g off, ad = some ⟨g, off, none⟩ → 0 < ts.length → g < w.heap.size := by
  intro g off hv hn
  obtain ⟨g', off', h1, h2, _⟩ := wang_open h hn
  rw [hv] at h1
  cases h1
  exact h2

set_option maxRecDepth 100000 in
set_option maxHeartbeats 800000 in
theorem implCount (ad : Option Addr) (c : Nat) (ts : List Tile) (a b : Int) (w : World) (hn : ts.length ≤ 1048576) (hc : CellsAt w ad (wangs ts)) :
    Calls Tryd.prog 23 #[.slice ad ts.length c, .int .i64 a, .int .i64 b] w fun e w' => e = .returned (.int .i64 (countFills ts a b)) ∧ Below w.heap.size w w' := by
  have hare := implAre ad c ts w hn hc
  have hsid := fun w => isWangGrid_any a b w
  by_cases hW : Wangs ts
  · rw [decide_eq_true hW] at hare
    by_cases hS : Sides a b
    · rw [decide_eq_true hS] at hsid
      have hval : countFills ts a b = (min 2000 (fillsF ts a.toNat (a.toNat * b.toNat) []).length : Nat) := if_pos ⟨hW, hS⟩
      rw [hval]
      obtain ⟨⟨ha1, ha2⟩, hb1, hb2⟩ := hS
      obtain ⟨A, rfl⟩ := Int.eq_ofNat_of_zero_le (show 0 ≤ a by omega)
      obtain ⟨B, rfl⟩ := Int.eq_ofNat_of_zero_le (show 0 ≤ b by omega)
      have HARE := Lib.hid hare
      have HSID := Lib.hid hsid
      have HC := Lib.hid hc
      clear hare hsid hc hval
      go_enter Tryd.func23, Tryd.ntmps23
      go_wp2_with fail
      refine HARE.out.mono ?_
      rintro e w1 ⟨rfl, hb1'⟩
      go_wp2_with fail
      refine (HSID.out _).mono ?_
      rintro e w' ⟨rfl, rfl⟩
      have hc1 := HC.out.below hb1'
      have hI : CountI w1.heap.size ad ts [] (w1.alloc (.cells #[.int .i64 0] 3)) :=
        ⟨by rw [show wrap64 (([] : List (List Nat)).length : Nat) = 0 from wrap_small 0 (by omega)]; exact heap_alloc_new w1 _, hc1.below ((Below.refl _ _).alloc (Nat.le_refl _) _), hc1.lt⟩
      have hfills := wangFills_any 62 #[.pointer (some ⟨w1.heap.size, 0, none⟩)] w1.heap.size (w1.heap.size + 1) A B ad c ts (CountI w1.heap.size ad ts) countCont hn ⟨by omega, by omega⟩ ⟨by omega, by omega⟩ callFunc_count
        (fun L w h => h.2.1) (fun L w w' h hb => countKept h hb) (fun L f w af cf h _ _ _ _ => countVisit w1.heap.size ad ts L f w af f.length cf h)
        (A * B) [] [] (w1.alloc (.cells #[.int .i64 0] 3)) none 0 (by simp) (InR.nil ts) hI (by simp) (World.ownsRow_nil _ _ _ _)
      have HF := Lib.hid hfills
      clear hfills hI hc1
      go_wp2_with fail
      refine HF.out.mono ?_
      rintro e w2 ⟨rfl, hI2, ht2⟩
      have hcell := cell_of_one hI2.1
      have hcnt : wrap64 ((visit countCont (fillsF ts A (A * B) []) []).1.length : Nat) = (min 2000 (fillsF ts A (A * B) []).length : Nat) := by
        rw [visit_count _ _ (by simp), wrap_small _ (by omega)]
        simp
      rw [hcnt] at hcell
      have hB : Below w.heap.size w w2 := by
        have h0 : Below w.heap.size w (w1.alloc (.cells #[.int .i64 0] 3)) := hb1'.alloc hb1'.size _
        exact h0.trans (ht2.below hb1'.size h0.size)
      clear hI2 ht2 hcnt
      go_wp2
      go_ret
      exact ⟨rfl, hB⟩
    · rw [decide_eq_false hS] at hsid
      have hval : countFills ts a b = -1 := if_neg (fun h => hS h.2)
      rw [hval]
      have HARE := Lib.hid hare
      have HSID := Lib.hid hsid
      clear hare hsid hc hval hS
      go_enter Tryd.func23, Tryd.ntmps23
      go_wp2_with fail
      refine HARE.out.mono ?_
      rintro e w1 ⟨rfl, hb1⟩
      go_wp2_with fail
      refine (HSID.out _).mono ?_
      rintro e w' ⟨rfl, rfl⟩
      go_wp2
      go_ret
      exact ⟨rfl, hb1⟩
  · rw [decide_eq_false hW] at hare
    have hval : countFills ts a b = -1 := if_neg (fun h => hW h.1)
    rw [hval]
    have HARE := Lib.hid hare
    clear hare hsid hc hval hW
    go_enter Tryd.func23, Tryd.ntmps23
    go_wp2_with fail
    refine HARE.out.mono ?_
    rintro e w1 ⟨rfl, hb1⟩
    go_wp2
    go_ret
    exact ⟨rfl, hb1⟩
end Go.Proofs.YtdnklmdmafbogaaDoor
