/- FindP2: the walk of the program's FindPeriod. -/
import Derived.Test.YtjklclegkjnegaaFindP
namespace Go.Proofs.Ytjklclegkjnegaa
open Go.RowKit

theorem callFunc_per (args : Array Value) (w : World) : Sem.run Try.prog (callFunc 26 args) w = .ok (.enter 26 args) w := by kernel_rfl

/-- What is known of the world while a periodic fill is looked for. -/
def PerI (lo b0 b7 b8 c A B : Nat) (ad : Option Addr) (ts : List Tile) (L : List (List Nat)) (w : World) : Prop :=
  FindI lo ad ts (L.filter (clos ts A B)) w ∧ (b0 < lo ∧ b7 < lo ∧ b8 < lo) ∧
    w.heap[b0]? = some (.cells #[.slice ad ts.length c] 27 (0, 0)) ∧ w.heap[b7]? = some (.cells #[.int .i64 A] 3 (0, 0)) ∧ w.heap[b8]? = some (.cells #[.int .i64 B] 3 (0, 0))
def perCont (ts : List Tile) (A B : Nat) (L : List (List Nat)) : Bool := !(someOf (L.filter (clos ts A B)))
theorem visit_per (ts : List Tile) (A B : Nat) : ∀ (Fs L : List (List Nat)), L.filter (clos ts A B) = [] → ((visit (perCont ts A B) Fs L).1.filter (clos ts A B)).getLastD [] = firstOf (Fs.filter (clos ts A B)) ∧ (!((visit (perCont ts A B) Fs L).1.filter (clos ts A B)).isEmpty) = someOf (Fs.filter (clos ts A B)) := by
  intro Fs
  induction Fs with
  | nil => intro L h; simp [visit, h, firstOf, someOf]
  | cons f Fs ih =>
    intro L h
    cases hf : clos ts A B f with
    | true =>
      have e : perCont ts A B (L ++ [f]) = false := by unfold perCont someOf; rw [List.filter_append, h]; simp [hf]
      rw [visit, if_neg (by rw [e]; simp)]
      simp [List.filter_append, h, hf, firstOf, someOf]
    | false =>
      have e0 : (L ++ [f]).filter (clos ts A B) = [] := by rw [List.filter_append, h]; simp [hf]
      have e : perCont ts A B (L ++ [f]) = true := by unfold perCont someOf; rw [e0]; rfl
      rw [visit, if_pos e]
      have := ih (L ++ [f]) e0
      simpa [hf] using this

theorem perKept {lo b0 b7 b8 c A B : Nat} {ad : Option Addr} {ts : List Tile} {L : List (List Nat)} {w w' : World} (h : PerI lo b0 b7 b8 c A B ad ts L w) (hb : Below w.heap.size w w') : PerI lo b0 b7 b8 c A B ad ts L w' := by
  obtain ⟨h1, h2, h3, h4, h5⟩ := h
  exact ⟨findKept h1 hb, h2, by rw [hb.block _ (lt_of_block h3)]; exact h3, by rw [hb.block _ (lt_of_block h4)]; exact h4, by rw [hb.block _ (lt_of_block h5)]; exact h5⟩

set_option maxHeartbeats 800000 in
theorem perVisit (lo b0 b7 b8 c A B : Nat) (ad : Option Addr) (ts : List Tile) (L : List (List Nat)) (f : List Nat) (w : World) (af : Option Addr) (cf : Nat) (hn : ts.length ≤ 1048576) (hA : 1 ≤ A ∧ A ≤ 4) (hB : 1 ≤ B ∧ B ≤ 4) (hlen : f.length = A * B) (hfi : InR ts f)
    (hI : PerI lo b0 b7 b8 c A B ad ts L w) (hown : w.ownsRow (lo + 2) 3 1 (.slice af f.length cf) f.length (ints (nats f))) :
    Calls Try.prog 26 #[.slice af f.length cf, .pointer (some ⟨b0, 0, none⟩), .pointer (some ⟨b7, 0, none⟩), .pointer (some ⟨b8, 0, none⟩), .pointer (some ⟨lo, 0, none⟩), .pointer (some ⟨lo + 1, 0, none⟩)] w
      fun e w' => e = .returned (.bool (perCont ts A B (L ++ [f]))) ∧ PerI lo b0 b7 b8 c A B ad ts (L ++ [f]) w' ∧ Touched lo (lo + 2) w w' := by
  have hcl := closes_any ad af c cf ts f A B w hn hA hB hlen hfi hI.1.2.2.1 (ownsRow_cellsAt hown)
  have hII := Lib.hid hI
  have hfl : f.length ≤ 16 := by have := Nat.mul_le_mul hA.2 hB.2; omega
  obtain ⟨⟨⟨a0, c0, h1, h0⟩, h2, h3, h4⟩, ⟨l0, l7, l8⟩, k0, k7, k8⟩ := hI
  have x0 := cell_of_one k0
  have x7 := cell_of_one k7
  have x8 := cell_of_one k8
  have H1 := Lib.hid h1
  have H2 := Lib.hid h2
  have H3 := Lib.hid h3
  have H4 := Lib.hid h4
  have HO := Lib.hid hown
  cases hf : clos ts A B f with
  | true =>
    have e0 : (L ++ [f]).filter (clos ts A B) = L.filter (clos ts A B) ++ [f] := by rw [List.filter_append]; simp [hf]
    have ec : perCont ts A B (L ++ [f]) = false := by unfold perCont someOf; rw [e0]; simp
    have hcl' : Calls Try.prog 27 #[.slice ad ts.length c, .int .i64 A, .int .i64 B, .slice af f.length cf] w fun e w' => e = .returned (.bool true) ∧ ∃ m, w' = w.drewN m := by
      have h9 : decide (Closes ts A B f) = true := hf
      rw [h9] at hcl
      exact hcl
    rw [ec]
    have HCL := Lib.hid hcl'
    have E0 := Lib.hid e0
    clear hlen hfi h1 h2 h3 h4 hown hcl hcl' e0 ec hf k0 k7 k8 h0
    go_enter Try.func26, Try.ntmps26
    go_wp2_with fail
    refine HCL.out.mono ?_
    rintro e w1 ⟨rfl, m, hw1⟩
    have hbw : Below w.heap.size w w1 := by rw [hw1]; exact below_drewN (Below.refl _ _) m
    clear hw1
    have hK := perKept hII.out hbw
    obtain ⟨⟨⟨a1, c1, h1, h0⟩, h2, h3, h4⟩, _, k0, k7, k8⟩ := hK
    have x1 := cell_of_one h1
    have y1 := free_of_one h1
    have x2 := cell_of_one h2
    have y2 := free_of_one h2
    have HO1 := Lib.hid (ownsRow_touched HO.out (Touched.of_below (lo := lo) (hi := lo + 2) hbw) (Nat.le_refl _))
    have HT := Lib.hid (Touched.of_below (lo := lo) (hi := lo + 2) hbw)
    have J1 := Lib.hid h1
    have J2 := Lib.hid h2
    have J3 := Lib.hid h3
    have J4 := Lib.hid h4
    have K0 := Lib.hid k0
    have K7 := Lib.hid k7
    have K8 := Lib.hid k8
    clear h1 h2 h3 h4 h0 k0 k7 k8 hbw
    go_wp2
    go_ret
    refine ⟨rfl, ⟨?_, ⟨l0, l7, l8⟩, ?_, ?_, ?_⟩, (HT.out.setCell (p := ⟨lo, 0, none⟩) (Nat.le_refl _) (by show lo < lo + 2; omega) _).setCell (p := ⟨lo + 1, 0, none⟩) (by show lo ≤ lo + 1; omega) (by show lo + 1 < lo + 2; omega) _⟩
    · rw [E0.out]
      refine ⟨⟨af, cf, ?_, ?_⟩, ?_, ?_, J4.out⟩
      · have e : (L.filter (clos ts A B) ++ [f]).getLastD [] = f := by simp
        rw [e, Below.heap_setCell _ _ _ _ (by show lo ≠ lo + 1; omega)]
        exact one_setCell J1.out
      · have e : (L.filter (clos ts A B) ++ [f]).getLastD [] = f := by simp
        rw [e]
        exact ownsRow_setCell_below (ownsRow_setCell_below HO1.out (by show lo < lo + 2; omega) _) (by show lo + 1 < lo + 2; omega) _
      · have e : (!(L.filter (clos ts A B) ++ [f]).isEmpty) = true := by simp
        rw [e]
        exact one_setCell (by rw [Below.heap_setCell _ _ _ _ (by show lo + 1 ≠ lo; omega)]; exact J2.out)
      · exact wang_setCell (wang_setCell J3.out J4.out _ (Nat.le_refl _) _) J4.out _ (by show lo ≤ lo + 1; omega) _
    · rw [Below.heap_setCell _ _ _ _ (by show b0 ≠ lo + 1; omega), Below.heap_setCell _ _ _ _ (by show b0 ≠ lo; omega)]; exact K0.out
    · rw [Below.heap_setCell _ _ _ _ (by show b7 ≠ lo + 1; omega), Below.heap_setCell _ _ _ _ (by show b7 ≠ lo; omega)]; exact K7.out
    · rw [Below.heap_setCell _ _ _ _ (by show b8 ≠ lo + 1; omega), Below.heap_setCell _ _ _ _ (by show b8 ≠ lo; omega)]; exact K8.out
  | false =>
    have e0 : (L ++ [f]).filter (clos ts A B) = L.filter (clos ts A B) := by rw [List.filter_append]; simp [hf]
    have ec : perCont ts A B (L ++ [f]) = !(!(L.filter (clos ts A B)).isEmpty) := by unfold perCont someOf; rw [e0]
    have hcl' : Calls Try.prog 27 #[.slice ad ts.length c, .int .i64 A, .int .i64 B, .slice af f.length cf] w fun e w' => e = .returned (.bool false) ∧ ∃ m, w' = w.drewN m := by
      have h9 : decide (Closes ts A B f) = false := hf
      rw [h9] at hcl
      exact hcl
    rw [ec]
    obtain ⟨fd, hfd⟩ : ∃ fd, fd = !(L.filter (clos ts A B)).isEmpty := ⟨_, rfl⟩
    rw [← hfd]
    have HFD := Lib.hid hfd
    have HCL := Lib.hid hcl'
    have E0 := Lib.hid e0
    clear hlen hfi h1 h2 h3 h4 hown hcl hcl' e0 ec hf k0 k7 k8 h0 hfd
    go_enter Try.func26, Try.ntmps26
    go_wp2_with fail
    refine HCL.out.mono ?_
    rintro e w1 ⟨rfl, m, hw1⟩
    have hbw : Below w.heap.size w w1 := by rw [hw1]; exact below_drewN (Below.refl _ _) m
    clear hw1
    have HK := Lib.hid (perKept hII.out hbw)
    have x2 := cell_of_one HK.out.1.2.1
    rw [← HFD.out] at x2
    go_wp2
    go_ret
    exact ⟨rfl, by unfold PerI; rw [E0.out]; exact HK.out, Touched.of_below hbw⟩
end Go.Proofs.Ytjklclegkjnegaa
