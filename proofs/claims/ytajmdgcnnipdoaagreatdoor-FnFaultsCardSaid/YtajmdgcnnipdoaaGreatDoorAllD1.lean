/- AllD1: parts laid together: Draw1, DrawR1, DrawR2. -/
import Derived.Test.YtajmdgcnnipdoaaGreatDoorAllD0
import Derived.Test.YtajmdgcnnipdoaaGreatDoorAllBase
import Derived.Test.YtajmdgcnnipdoaaGreatDoorAllReg
import Derived.Test.YtajmdgcnnipdoaaGreatDoorAllFrame
import Derived.BigRegion
import Derived.Deep.Cut
import Derived.Deep.RegionLaw

/- Draw1: what is kept while a cursor draws; l1PickInt. -/
namespace Go.Proofs.YtajmdgcnnipdoaaGreatDoor
open Go.RowKit

attribute [local go_sem ↓] Go.wp_at_zero Go.wp_at_succ

theorem own_grown {w w' : World} {base e size n g : Nat} {v : Value} {xs : List Value} (h : w.ownsRow base e size v n xs) (hg : w.grownBy w' (some g)) (hne : g < base) : w'.ownsRow base e size v n xs :=
  ownsRow_far h hg fun k hk => by cases hk; exact hne
theorem rowNilCap {w : World} {base e size n m cap : Nat} {ad : Option Addr} {xs : List Value} (h : w.ownsRow base e size (.slice ad m cap) n xs) : ad = none → cap = 0 := by
  intro hn
  rcases h.2 with ⟨h1, _⟩ | ⟨g, c, cur, h1, _⟩
  · cases h1; rfl
  · cases h1; cases hn
/-- A short list that a call wrote out. -/
theorem cells_lit {w w' : World} {vs : List Value} {e : TypeId} (h : w'.heap[w.heap.size]? = some (.cells vs.toArray e (0, 0))) : CellsAt w' (some ⟨w.heap.size, 0, none⟩) vs := by
  refine .inr ⟨_, 0, rfl, fun j u hu => ?_⟩
  rw [Nat.zero_add, cell_of_row _ _ j _ _ _ h]
  simpa using hu
theorem grown_then {w a b : World} {row : Option Nat} (h : w.grownBy a row) (k : Below w.heap.size a b) : w.grownBy b row :=
  ⟨k.os.trans h.os, k.tape.trans h.tape, k.output.trans h.output, Nat.le_trans h.size k.size, fun i hi hne => (k.block i hi).trans (h.block i hi hne)⟩

set_option maxRecDepth 100000 in
set_option maxHeartbeats 1600000 in
/-- One of a short list's numbers. -/
theorem pickInt_any (g : Nat) (bs : List Nat) (ad : Option Addr) (c : Nat) (xs : List Int) (w : World) (hc : Curs w g bs) (hn : 1 ≤ xs.length ∧ xs.length ≤ 256) (hx : CellsAt w ad (ints xs)) (hg : ∀ a, ad = some a → a.block ≠ g) :
    Calls Tryz.prog 133 #[.pointer (some ⟨g, 0, none⟩), .slice ad xs.length c] w fun e w' => ∃ z : Int, e = .returned (.int .i64 z) ∧ z ∈ xs ∧ Curs w' g bs ∧ w.grownBy w' (some g) := by
  have HB := Lib.hid (drawBelow g bs xs.length w hc hn)
  have hil := ints_length xs
  obtain ⟨b, off, rfl, hb, hcc⟩ := hx.open (by omega)
  have HCC := Lib.hid hcc
  have hbg : b ≠ g := hg _ rfl
  obtain ⟨hn1, hn2⟩ := hn
  clear hc hx hg hcc
  go_enter Tryz.func133, Tryz.ntmps133
  go_wp2_with fail
  refine HB.out.mono ?_
  rintro e w1 ⟨k, rfl, hk, hc1, hg1⟩
  have HC1 := Lib.hid hc1
  have HG1 := Lib.hid hg1
  have x0 : w1.cell? ⟨b, off + k, none⟩ = some (.int .i64 xs[k]) := by
    rw [World.cell?_of_block (w := w) (hg1.block b hb (fun q => hbg (by cases q; rfl)))]
    exact HCC.out k _ (ints_at xs k hk)
  have hmem : xs[k] ∈ xs := List.getElem_mem hk
  generalize xs[k] = z at x0 hmem
  have HM := Lib.hid hmem
  clear hc1 hg1 hmem
  go_wp2
  go_ret
  exact ⟨z, rfl, HM.out, HC1.out, HG1.out⟩

end Go.Proofs.YtajmdgcnnipdoaaGreatDoor

/- DrawR1: l6Copy: a region with a row of its own. -/
namespace Go.Proofs.YtajmdgcnnipdoaaGreatDoor
open Go.RowKit

attribute [local go_sem ↓] Go.wp_at_zero Go.wp_at_succ

set_option maxRecDepth 100000 in
set_option maxHeartbeats 3200000 in
theorem l6Copy_any (B : Int) (ad : Option Addr) (c : Nat) (xs : List Int) (w : World) (hn : xs.length ≤ 100) (hnil : ad = none → c = 0) (hc : CellsAt w ad (ints xs)) :
    Calls Tryz.prog 175 #[.agg #[.int .i64 B, .slice ad xs.length c]] w fun e w' => ∃ a' c', e = .returned (.agg #[.int .i64 B, .slice a' xs.length c']) ∧ w'.ownsRow w.heap.size 3 1 (.slice a' xs.length c') xs.length (ints xs) ∧ Below w.heap.size w w' := by
  have hil := ints_length xs
  have HNIL := Lib.hid hnil
  have HC := Lib.hid hc
  have hb1 : Below w.heap.size w (w.alloc (.cells #[.int .i64 B, .slice ad xs.length c] 26)) := (Below.refl _ _).alloc (Nat.le_refl _) _
  have hz1 : (w.alloc (.cells #[.int .i64 B, .slice ad xs.length c] 26)).heap.size = w.heap.size + 1 := by simp
  have hk1 : (w.alloc (.cells #[.int .i64 B, .slice ad xs.length c] 26)).heap[w.heap.size]? = some (.cells #[.int .i64 B, .slice ad xs.length c] 26 (0, 0)) := heap_alloc_new w _
  clear hnil hc
  go_enter Tryz.func175, Tryz.ntmps175
  go_upto_region 1 with (fail)
  generalize w.alloc (.cells #[.int .i64 B, .slice ad xs.length c] 26) = w1 at hb1 hz1 hk1 ⊢
  have hb2 : Below w.heap.size w (w1.alloc (.cells #[.int .i64 0, .slice none 0 0] 26)) := hb1.alloc (by omega) _
  have hz2 : (w1.alloc (.cells #[.int .i64 0, .slice none 0 0] 26)).heap.size = w.heap.size + 2 := by simp; omega
  have hk2 : (w1.alloc (.cells #[.int .i64 0, .slice none 0 0] 26)).heap[w.heap.size + 1]? = some (.cells #[.int .i64 0, .slice none 0 0] 26 (0, 0)) := by rw [← hz1]; exact heap_alloc_new w1 _
  have hk12 : (w1.alloc (.cells #[.int .i64 0, .slice none 0 0] 26)).heap[w.heap.size]? = some (.cells #[.int .i64 B, .slice ad xs.length c] 26 (0, 0)) := by rw [Below.heap_alloc _ _ _ (by omega)]; exact hk1
  generalize w1.alloc (.cells #[.int .i64 0, .slice none 0 0] 26) = wA at hb2 hz2 hk2 hk12 ⊢
  clear hb1 hk1
  have x0 : wA.cell? ⟨w.heap.size, 0, none⟩ = some (.int .i64 B) := by rw [cell_of_row wA _ 0 _ _ _ hk12]; rfl
  have x1 : wA.cell? ⟨w.heap.size, 1, none⟩ = some (.slice ad xs.length c) := by rw [cell_of_row wA _ 1 _ _ _ hk12]; rfl
  have hbal : Below wA.heap.size wA (wA.alloc (.cells #[] 3)).drew := ((Below.refl wA.heap.size wA).alloc (Nat.le_refl _) _).drew
  have ka0 := (hbal.cell (p := ⟨w.heap.size, 0, none⟩) (lt_of_block hk12)).trans x0
  have ka1 := (hbal.cell (p := ⟨w.heap.size, 1, none⟩) (lt_of_block hk12)).trans x1
  have kb0 := (show (wA.alloc (.cells #[] 3)).cell? ⟨w.heap.size, 0, none⟩ = some (.int .i64 B) from ka0)
  have kb1 := (show (wA.alloc (.cells #[] 3)).cell? ⟨w.heap.size, 1, none⟩ = some (.slice ad xs.length c) from ka1)
  have HE := Lib.hid (show (wA.alloc (.cells #[] 3)).drew.ownsRow (w.heap.size + 2) 3 1 (.slice (some ⟨w.heap.size + 2, 0, none⟩) 0 0) 0 [] from by rw [← hz2]; exact ownsRow_empty wA 3 1)
  have HCA := Lib.hid (show CellsAt (wA.alloc (.cells #[] 3)).drew ad (ints xs) from (HC.out.below (hb2.trans (hbal.mono hb2.size))))
  have HBAL := Lib.hid hbal
  have HB2 := Lib.hid hb2
  have HK2 := Lib.hid hk2
  have HK12 := Lib.hid hk12
  clear hbal hb2 hk2 hk12 hz1
  go_region_law (refine step_appN (by rfl) (.tmp 5) (.tmp 7) 24 (by rfl) (w.heap.size + 2) 3 _ 1 8 Tryz.elemInt (.slice (some ⟨w.heap.size + 2, 0, none⟩) 0 0) 0 [] (by rfl) (by first | exact HE.out) ad xs.length c (ints xs) (by rfl) HNIL.out (by rw [hil]; omega) (by first | exact HCA.out) (ints_one _) (by unfold maxLen; omega) (by omega) (by simp; omega) ?_; intro a' c' w3 q1 q2 q3; have kc0 := (q2.cell (p := ⟨w.heap.size, 0, none⟩) (by show w.heap.size < w.heap.size + 2; omega)).trans ka0; have kc1 := (q2.cell (p := ⟨w.heap.size, 1, none⟩) (by show w.heap.size < w.heap.size + 2; omega)).trans ka1; have hm2 := (q2.block (w.heap.size + 1) (by omega)).trans ((HBAL.out.block (w.heap.size + 1) (lt_of_block HK2.out)).trans HK2.out); have u0 : w3.cell? ⟨w.heap.size + 1, 0, none⟩ = some (.int .i64 0) := (by rw [cell_of_row w3 _ 0 _ _ _ hm2]; rfl); have u1 : w3.cell? ⟨w.heap.size + 1, 1, none⟩ = some (.slice none 0 0) := (by rw [cell_of_row w3 _ 1 _ _ _ hm2]; rfl); have f0 := frozen_of_row w3 (w.heap.size + 1) 0 _ _ hm2; have f1 := frozen_of_row w3 (w.heap.size + 1) 1 _ _ hm2)
  all_goals go_wp2
  all_goals have e0 : ((w3.setCell ⟨w.heap.size + 1, 0, none⟩ (.int .i64 B)).setCell ⟨w.heap.size + 1, 1, none⟩ (.slice a' xs.length c')).cell? ⟨w.heap.size + 1, 0, none⟩ = some (.int .i64 B) := (by rw [World.cell?_setCell_other _ _ _ _ (by simp)]; exact World.cell?_setCell_same _ _ _ u0)
  all_goals have e1 : ((w3.setCell ⟨w.heap.size + 1, 0, none⟩ (.int .i64 B)).setCell ⟨w.heap.size + 1, 1, none⟩ (.slice a' xs.length c')).cell? ⟨w.heap.size + 1, 1, none⟩ = some (.slice a' xs.length c') := World.cell?_setCell_same _ _ _ ((World.cell?_setCell_other _ _ _ _ (by simp)).trans u1)
  all_goals rw [Nat.zero_add] at q1
  all_goals have ho2 := ownsRow_setCell_below (ownsRow_setCell_below q1 (a := ⟨w.heap.size + 1, 0, none⟩) (by show w.heap.size + 1 < w.heap.size + 2; omega) (.int .i64 B)) (a := ⟨w.heap.size + 1, 1, none⟩) (by show w.heap.size + 1 < w.heap.size + 2; omega) (.slice a' xs.length c')
  all_goals refine bodyPost_ret (v := .agg #[.int .i64 B, .slice a' xs.length c']) (by simp [results, Tryz.results175, go_sem, e0, e1]) rfl ⟨_, _, rfl, ownsRow_rebase ho2 (by omega), (((HB2.out.trans (HBAL.out.mono HB2.out.size)).trans (q2.mono (by omega))).setCell (by show w.heap.size ≤ w.heap.size + 1; omega) _).setCell (by show w.heap.size ≤ w.heap.size + 1; omega) _⟩
end Go.Proofs.YtajmdgcnnipdoaaGreatDoor

/- DrawR2: RemoveCell of a cell's place in a right region gives a right region. -/
namespace Go.Proofs.YtajmdgcnnipdoaaGreatDoor
open Go.RowKit

attribute [local go_sem ↓] Go.wp_at_zero Go.wp_at_succ

theorem bit_le {r X : Nat} (h : r.testBit X = true) : 2 ^ X ≤ r := Nat.ge_two_pow_of_testBit h
theorem rm_facts {B X r : Nat} (hB : B ≤ 6) (hbit : r.testBit X = true) (hr : (r : Int) < 2 ^ B) : ∃ pX r' : Nat, wrap64 ((2 : Int) ^ X) = (pX : Int) ∧ IntKind.i64.wrap ((2 : Int) ^ X) = (pX : Int) ∧ (r : Int) - (pX : Int) = (r' : Int) ∧ IntKind.i64.wrap (r' : Int) = (r' : Int) ∧ (r' : Int) < 2 ^ B := by
  have h1 := bit_le hbit
  have h2 : ((2 : Int) ^ X) = ((2 ^ X : Nat) : Int) := by norm_cast
  have h3 : ((2 : Int) ^ B) = ((2 ^ B : Nat) : Int) := by norm_cast
  have h4 : (2 : Nat) ^ B ≤ 2 ^ 6 := Nat.pow_le_pow_right (by decide) hB
  rw [h3] at hr ⊢
  rw [h2]
  generalize (2 : Nat) ^ X = p at h1
  generalize (2 : Nat) ^ B = q at hr h4
  refine ⟨p, r - p, IntWalk.wrap64_in _ (by omega), IntWalk.i64_in _ (by omega), by omega, IntWalk.i64_in _ (by omega), by omega⟩
theorem reg_set {B Y : Nat} {xs : List Int} {r' : Int} (hr : Reg (B : Int) xs) (h0 : 0 ≤ r') (h1 : r' < 2 ^ B) : Reg (B : Int) (xs.set Y r') := by
  obtain ⟨hB, hl, hx⟩ := hr
  refine ⟨hB, by rw [List.length_set]; exact hl, fun x hx' => ?_⟩
  rcases List.mem_or_eq_of_mem_set hx' with q | q
  · exact hx x q
  · rw [q, Int.toNat_natCast]; exact ⟨h0, h1⟩

set_option maxRecDepth 100000 in
set_option maxHeartbeats 3200000 in
theorem remove_any (B X Y : Nat) (ad : Option Addr) (c : Nat) (xs : List Int) (w : World) (hr : Reg (B : Int) xs) (hX : X < B) (hY : Y < xs.length) (hnil : ad = none → c = 0) (hc : CellsAt w ad (ints xs)) :
    Calls Tryz.prog 166 #[.agg #[.int .i64 B, .slice ad xs.length c], .int .i64 X, .int .i64 Y] w fun e w' => ∃ (a' : Option Addr) (c' : Nat) (xs' : List Int) (b : Bool), e = .returned (.tuple #[.agg #[.int .i64 B, .slice a' xs'.length c'], .bool b]) ∧ Reg (B : Int) xs' ∧ xs'.length = xs.length ∧ w'.ownsRow w.heap.size 3 1 (.slice a' xs'.length c') xs'.length (ints xs') ∧ Below w.heap.size w w' := by
  have hB6 : B ≤ 6 := by have := hr.1.2; omega
  have hl6 : xs.length ≤ 6 := hr.2.1.2
  have HR := Lib.hid hr
  have HC := Lib.hid hc
  have HCOPY := Lib.hid (fun w' (h : CellsAt w' ad (ints xs)) => l6Copy_any (B : Int) ad c xs w' (by omega) hnil h)
  have HIN := Lib.hid (fun w' (h : CellsAt w' ad (ints xs)) => specIn B X Y ad c xs w' hr (by omega) (by omega) h)
  have hdef : inR B xs X Y = (xs.getD Y 0).toNat.testBit X := by unfold inR; rw [decide_eq_true hX, decide_eq_true hY]; rfl
  have HDEF := Lib.hid hdef
  clear hr hc hnil hdef
  have hb1 : Below w.heap.size w (w.alloc (.cells #[.int .i64 B, .slice ad xs.length c] 26)) := (Below.refl _ _).alloc (Nat.le_refl _) _
  have hz1 : (w.alloc (.cells #[.int .i64 B, .slice ad xs.length c] 26)).heap.size = w.heap.size + 1 := by simp
  have hk1 : (w.alloc (.cells #[.int .i64 B, .slice ad xs.length c] 26)).heap[w.heap.size]? = some (.cells #[.int .i64 B, .slice ad xs.length c] 26 (0, 0)) := heap_alloc_new w _
  go_enter Tryz.func166, Tryz.ntmps166
  go_upto_region 1 with (fail)
  generalize w.alloc (.cells #[.int .i64 B, .slice ad xs.length c] 26) = w1 at hb1 hz1 hk1 ⊢
  have hb2 : Below w.heap.size w (w1.alloc (.cells #[.int .i64 0, .slice none 0 0] 26)) := hb1.alloc (by omega) _
  have hz2 : (w1.alloc (.cells #[.int .i64 0, .slice none 0 0] 26)).heap.size = w.heap.size + 2 := by simp; omega
  have hk2 : (w1.alloc (.cells #[.int .i64 0, .slice none 0 0] 26)).heap[w.heap.size + 1]? = some (.cells #[.int .i64 0, .slice none 0 0] 26 (0, 0)) := by rw [← hz1]; exact heap_alloc_new w1 _
  have hk12 : (w1.alloc (.cells #[.int .i64 0, .slice none 0 0] 26)).heap[w.heap.size]? = some (.cells #[.int .i64 B, .slice ad xs.length c] 26 (0, 0)) := by rw [Below.heap_alloc _ _ _ (by omega)]; exact hk1
  generalize w1.alloc (.cells #[.int .i64 0, .slice none 0 0] 26) = wA at hb2 hz2 hk2 hk12 ⊢
  clear hb1 hk1 hz1
  have x0 : wA.cell? ⟨w.heap.size, 0, none⟩ = some (.int .i64 B) := by rw [cell_of_row wA _ 0 _ _ _ hk12]; rfl
  have x1 : wA.cell? ⟨w.heap.size, 1, none⟩ = some (.slice ad xs.length c) := by rw [cell_of_row wA _ 1 _ _ _ hk12]; rfl
  have HB2 := Lib.hid hb2
  go_wp2_with fail
  refine (HCOPY.out wA (HC.out.below hb2)).mono ?_
  rintro e w2 ⟨a2, c2, rfl, ho2, hb3⟩
  have hb8 : Below w2.heap.size w2 (w2.alloc (.cells #[.int .i64 B, .slice a2 xs.length c2] 26)) := (Below.refl _ _).alloc (Nat.le_refl _) _
  have hk8 : (w2.alloc (.cells #[.int .i64 B, .slice a2 xs.length c2] 26)).heap[w2.heap.size]? = some (.cells #[.int .i64 B, .slice a2 xs.length c2] 26 (0, 0)) := heap_alloc_new w2 _
  have hsz2 : wA.heap.size ≤ w2.heap.size := hb3.size
  have hk82 : (w2.alloc (.cells #[.int .i64 B, .slice a2 xs.length c2] 26)).heap[w.heap.size + 1]? = some (.cells #[.int .i64 0, .slice none 0 0] 26 (0, 0)) := by
    rw [hb8.block (w.heap.size + 1) (by omega), hb3.block (w.heap.size + 1) (by omega)]; exact hk2
  have hk812 : (w2.alloc (.cells #[.int .i64 B, .slice a2 xs.length c2] 26)).heap[w.heap.size]? = some (.cells #[.int .i64 B, .slice ad xs.length c] 26 (0, 0)) := by
    rw [hb8.block w.heap.size (by omega), hb3.block w.heap.size (by omega)]; exact hk12
  have HO8 := Lib.hid (ownsRow_far_below ho2 hb8 (Nat.le_refl _))
  have HB8 := Lib.hid (HB2.out.trans ((hb3.trans (hb8.mono hsz2)).mono HB2.out.size))
  have hz8 : (w2.alloc (.cells #[.int .i64 B, .slice a2 xs.length c2] 26)).heap.size = w2.heap.size + 1 := by simp
  clear ho2 hb3 hb8 x0 x1 hk2 hk12 hb2
  go_upto_region 2 with (fail)
  generalize w2.alloc (.cells #[.int .i64 B, .slice a2 xs.length c2] 26) = w3 at hk8 hk82 hk812 HO8 HB8 hz8 ⊢
  have x0 : w3.cell? ⟨w.heap.size, 0, none⟩ = some (.int .i64 B) := by rw [cell_of_row w3 _ 0 _ _ _ hk812]; rfl
  have x1 : w3.cell? ⟨w.heap.size, 1, none⟩ = some (.slice ad xs.length c) := by rw [cell_of_row w3 _ 1 _ _ _ hk812]; rfl
  go_wp2_with fail
  refine (HIN.out w3 (HC.out.below HB8.out)).mono ?_
  rintro e w4 ⟨rfl, hb4⟩
  have hm8 := (hb4.block w2.heap.size (by omega)).trans hk8
  have hm82 := (hb4.block (w.heap.size + 1) (by omega)).trans hk82
  have HO4 := Lib.hid (ownsRow_far_below HO8.out hb4 (Nat.le_refl _))
  have HB4 := Lib.hid (HB8.out.trans (hb4.mono HB8.out.size))
  have hsz4 := hb4.size
  clear hb4 hk8 hk82 hk812 x0 x1
  have y0 : w4.cell? ⟨w2.heap.size, 0, none⟩ = some (.int .i64 B) := by rw [cell_of_row w4 _ 0 _ _ _ hm8]; rfl
  have y1 : w4.cell? ⟨w2.heap.size, 1, none⟩ = some (.slice a2 xs.length c2) := by rw [cell_of_row w4 _ 1 _ _ _ hm8]; rfl
  have u0 : w4.cell? ⟨w.heap.size + 1, 0, none⟩ = some (.int .i64 0) := by rw [cell_of_row w4 _ 0 _ _ _ hm82]; rfl
  have u1 : w4.cell? ⟨w.heap.size + 1, 1, none⟩ = some (.slice none 0 0) := by rw [cell_of_row w4 _ 1 _ _ _ hm82]; rfl
  have f0 := frozen_of_row w4 (w.heap.size + 1) 0 _ _ hm82
  have f1 := frozen_of_row w4 (w.heap.size + 1) 1 _ _ hm82
  have hfin : ∀ (wz : World) (ys : List Int) (b : Bool), wz.ownsRow wA.heap.size 3 1 (.slice a2 ys.length c2) ys.length (ints ys) → Below w.heap.size w wz → ((wz.setCell ⟨w.heap.size + 1, 0, none⟩ (.int .i64 B)).setCell ⟨w.heap.size + 1, 1, none⟩ (.slice a2 ys.length c2)).ownsRow w.heap.size 3 1 (.slice a2 ys.length c2) ys.length (ints ys) ∧ Below w.heap.size w ((wz.setCell ⟨w.heap.size + 1, 0, none⟩ (.int .i64 B)).setCell ⟨w.heap.size + 1, 1, none⟩ (.slice a2 ys.length c2)) := fun wz ys _ ho hb =>
    ⟨ownsRow_rebase (ownsRow_setCell_below (ownsRow_setCell_below ho (a := ⟨w.heap.size + 1, 0, none⟩) (by show w.heap.size + 1 < wA.heap.size; omega) (.int .i64 B)) (a := ⟨w.heap.size + 1, 1, none⟩) (by show w.heap.size + 1 < wA.heap.size; omega) (.slice a2 ys.length c2)) (by omega), (hb.setCell (by show w.heap.size ≤ w.heap.size + 1; omega) _).setCell (by show w.heap.size ≤ w.heap.size + 1; omega) _⟩
  have HFIN := Lib.hid hfin
  clear hfin
  cases hin : inR B xs X Y with
  | false =>
    rw [hin] at *
    go_wp2
    have e0 : ((w4.setCell ⟨w.heap.size + 1, 0, none⟩ (.int .i64 B)).setCell ⟨w.heap.size + 1, 1, none⟩ (.slice a2 xs.length c2)).cell? ⟨w.heap.size + 1, 0, none⟩ = some (.int .i64 B) := by rw [World.cell?_setCell_other _ _ _ _ (by simp)]; exact World.cell?_setCell_same _ _ _ u0
    have e1 : ((w4.setCell ⟨w.heap.size + 1, 0, none⟩ (.int .i64 B)).setCell ⟨w.heap.size + 1, 1, none⟩ (.slice a2 xs.length c2)).cell? ⟨w.heap.size + 1, 1, none⟩ = some (.slice a2 xs.length c2) := World.cell?_setCell_same _ _ _ ((World.cell?_setCell_other _ _ _ _ (by simp)).trans u1)
    have hf := HFIN.out w4 xs false HO4.out HB4.out
    refine bodyPost_ret (v := .tuple #[.agg #[.int .i64 B, .slice a2 xs.length c2], .bool false]) (by simp [results, Tryz.results166, go_sem, e0, e1]) rfl ⟨_, _, xs, _, rfl, HR.out, rfl, hf.1, hf.2⟩
  | true =>
    have hbit := HDEF.out
    rw [hin] at *
    obtain ⟨gr, rfl, hgr1, hgr2, hne⟩ : ∃ gr, a2 = some ⟨gr, 0, none⟩ ∧ wA.heap.size ≤ gr ∧ gr < w4.heap.size ∧ gr ≠ w2.heap.size := by
      rcases HO4.out.2 with ⟨hv, _⟩ | ⟨gr, cc, cur, hv, hb, hblk, _⟩
      · injection hv with _ h2 _; omega
      · injection hv with h1 _ _
        refine ⟨gr, h1, hb, lt_of_block hblk, fun q => ?_⟩
        rw [q, hm8] at hblk
        simp only [Option.some.injEq, Obj.cells.injEq] at hblk
        exact absurd hblk.2.1 (by decide)
    have hrw := HR.out.2.2 _ (List.getElem_mem hY)
    have r0 : w4.cell? ⟨gr, Y, none⟩ = some (.int .i64 xs[Y]) := by
      rw [HO4.out.cellAt Y (by omega)]
      exact ints_at xs Y hY
    have rz : w4.frozen? ⟨gr, Y, none⟩ = false := HO4.out.frozenAt Y
    rw [List.getD_eq_getElem?_getD, List.getElem?_eq_getElem hY, Option.getD_some] at hbit
    rw [Int.toNat_natCast] at hrw
    obtain ⟨r, hrr⟩ : ∃ r : Nat, xs[Y] = (r : Int) := ⟨xs[Y].toNat, by omega⟩
    rw [hrr, Int.toNat_natCast] at hbit
    rw [hrr] at r0 hrw
    obtain ⟨pX, r', hw1, hw2, hsub, hw3, hlt'⟩ := rm_facts hB6 hbit.symm hrw.2
    have HREG := Lib.hid (reg_set (Y := Y) (r' := (r' : Int)) HR.out (Int.natCast_nonneg _) hlt')
    obtain ⟨s1, s2⟩ := HO4.out.stored Y (.int .i64 (r' : Int))
    have hset : (ints xs).set Y (.int .i64 (r' : Int)) = ints (xs.set Y (r' : Int)) := by simp [ints, List.map_set]
    rw [hset] at s1
    have hX64 : (X : Int) < 64 := by omega
    have hY2 : (Y : Int) < (xs.length : Int) := by omega
    have hl2 : (xs.set Y (r' : Int)).length = xs.length := List.length_set
    have HL2 := Lib.hid hl2
    have hbS : Below w.heap.size w (w4.setCell ⟨gr, Y, none⟩ (.int .i64 (r' : Int))) := HB4.out.setCell (by show w.heap.size ≤ gr; omega) _
    have k0 : (w4.setCell ⟨gr, Y, none⟩ (.int .i64 (r' : Int))).cell? ⟨w2.heap.size, 0, none⟩ = some (.int .i64 B) := by rw [World.cell?_setCell_other _ _ _ _ (by first | (simp; done) | (simp; omega))]; exact y0
    have k1 : (w4.setCell ⟨gr, Y, none⟩ (.int .i64 (r' : Int))).cell? ⟨w2.heap.size, 1, none⟩ = some (.slice (some ⟨gr, 0, none⟩) xs.length c2) := by rw [World.cell?_setCell_other _ _ _ _ (by first | (simp; done) | (simp; omega))]; exact y1
    have v0 : (w4.setCell ⟨gr, Y, none⟩ (.int .i64 (r' : Int))).cell? ⟨w.heap.size + 1, 0, none⟩ = some (.int .i64 0) := by rw [World.cell?_setCell_other _ _ _ _ (by first | (simp; done) | (simp; omega))]; exact u0
    have v1 : (w4.setCell ⟨gr, Y, none⟩ (.int .i64 (r' : Int))).cell? ⟨w.heap.size + 1, 1, none⟩ = some (.slice none 0 0) := by rw [World.cell?_setCell_other _ _ _ _ (by first | (simp; done) | (simp; omega))]; exact u1
    have S1 := Lib.hid (show (w4.setCell ⟨gr, Y, none⟩ (.int .i64 (r' : Int))).ownsRow wA.heap.size 3 1 (.slice (some ⟨gr, 0, none⟩) (xs.set Y (r' : Int)).length c2) (xs.set Y (r' : Int)).length (ints (xs.set Y (r' : Int))) from by rw [hl2]; exact s1)
    clear s1 s2 hset hrw hbit hrr hlt' hl2
    go_wp2
    go_region
    have W0 := Lib.hid (show Below w.heap.size w (w4.setCell ⟨gr, Y, none⟩ (.int .i64 (r' : Int))).drew from hbS.drew)
    have n0 := (show (w4.setCell ⟨gr, Y, none⟩ (.int .i64 (r' : Int))).drew.cell? ⟨w2.heap.size, 0, none⟩ = some (.int .i64 B) from k0)
    have n1 := (show (w4.setCell ⟨gr, Y, none⟩ (.int .i64 (r' : Int))).drew.cell? ⟨w2.heap.size, 1, none⟩ = some (.slice (some ⟨gr, 0, none⟩) xs.length c2) from k1)
    have m0 := (show (w4.setCell ⟨gr, Y, none⟩ (.int .i64 (r' : Int))).drew.cell? ⟨w.heap.size + 1, 0, none⟩ = some (.int .i64 0) from v0)
    have m1 := (show (w4.setCell ⟨gr, Y, none⟩ (.int .i64 (r' : Int))).drew.cell? ⟨w.heap.size + 1, 1, none⟩ = some (.slice none 0 0) from v1)
    have g0 : (w4.setCell ⟨gr, Y, none⟩ (.int .i64 (r' : Int))).drew.frozen? ⟨w.heap.size + 1, 0, none⟩ = false := (World.frozen?_setCell _ _ _ _).trans f0
    have g1 : (w4.setCell ⟨gr, Y, none⟩ (.int .i64 (r' : Int))).drew.frozen? ⟨w.heap.size + 1, 1, none⟩ = false := (World.frozen?_setCell _ _ _ _).trans f1
    have S2 := Lib.hid (show (w4.setCell ⟨gr, Y, none⟩ (.int .i64 (r' : Int))).drew.ownsRow wA.heap.size 3 1 (.slice (some ⟨gr, 0, none⟩) (xs.set Y (r' : Int)).length c2) (xs.set Y (r' : Int)).length (ints (xs.set Y (r' : Int))) from S1.out)
    clear k0 k1 v0 v1 u0 u1 y0 y1 f0 f1 hbS S1
    generalize (w4.setCell ⟨gr, Y, none⟩ (.int .i64 (r' : Int))).drew = w5 at W0 n0 n1 m0 m1 g0 g1 S2 ⊢
    go_wp2
    have e0 : ((w5.setCell ⟨w.heap.size + 1, 0, none⟩ (.int .i64 B)).setCell ⟨w.heap.size + 1, 1, none⟩ (.slice (some ⟨gr, 0, none⟩) xs.length c2)).cell? ⟨w.heap.size + 1, 0, none⟩ = some (.int .i64 B) := by rw [World.cell?_setCell_other _ _ _ _ (by simp)]; exact World.cell?_setCell_same _ _ _ m0
    have e1 : ((w5.setCell ⟨w.heap.size + 1, 0, none⟩ (.int .i64 B)).setCell ⟨w.heap.size + 1, 1, none⟩ (.slice (some ⟨gr, 0, none⟩) xs.length c2)).cell? ⟨w.heap.size + 1, 1, none⟩ = some (.slice (some ⟨gr, 0, none⟩) xs.length c2) := World.cell?_setCell_same _ _ _ ((World.cell?_setCell_other _ _ _ _ (by simp)).trans m1)
    have hf := HFIN.out w5 (xs.set Y (r' : Int)) true S2.out W0.out
    rw [HL2.out] at hf
    refine bodyPost_ret (v := .tuple #[.agg #[.int .i64 B, .slice (some ⟨gr, 0, none⟩) xs.length c2], .bool true]) (by simp [results, Tryz.results166, go_sem, e0, e1]) rfl ⟨_, _, xs.set Y (r' : Int), _, by rw [HL2.out], HREG.out, HL2.out, by rw [HL2.out]; exact hf.1, hf.2⟩
end Go.Proofs.YtajmdgcnnipdoaaGreatDoor
