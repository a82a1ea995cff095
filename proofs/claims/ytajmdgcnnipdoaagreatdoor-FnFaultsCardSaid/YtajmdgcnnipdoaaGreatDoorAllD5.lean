/- AllD5: parts laid together: DrawR5c, DrawR5, DrawR8. -/
import Derived.Test.YtajmdgcnnipdoaaGreatDoorAllD3
import Derived.Test.YtajmdgcnnipdoaaGreatDoorAllD4
import Derived.Test.YtajmdgcnnipdoaaGreatDoorAllMarkP

/- DrawR5c: what a drawn region with drawn pieces is. -/
namespace Go.Proofs.YtajmdgcnnipdoaaGreatDoor
open Go.RowKit

/-- A drawn region and one to three drawn lists of cells. -/
def RegPcs (f : FuncId) (args : Array Value) (w : World) : Prop :=
  Calls Tryz.prog f args w fun e w' => ∃ (b : Int) (a : Option Addr) (c : Nat) (xs : List Int) (va : Option Addr) (cv : Nat) (ps : List (List Cl)), e = .returned (.tuple #[.agg #[.int .i64 b, .slice a xs.length c], .slice va ps.length cv]) ∧ (-1 ≤ b ∧ b ≤ 7) ∧ xs.length ≤ 9 ∧
    1 ≤ ps.length ∧ ps.length ≤ 3 ∧ (∀ p ∈ ps, p.length ≤ 80) ∧ w'.ownsRow w.heap.size 3 1 (.slice a xs.length c) xs.length (ints xs) ∧ FarShps w' w.heap.size (.slice va ps.length cv) ps ∧ Below w.heap.size w w'
theorem rowCapOf {w : World} {base e size n cap : Nat} {ad : Option Addr} {xs : List Value} (h : w.ownsRow base e size (.slice ad n cap) n xs) : n ≤ cap := by
  rcases h.2 with ⟨h1, _⟩ | ⟨g, c, cur, h1, _, _, h2, _⟩
  · injection h1 with _ h2 h3; omega
  · injection h1 with _ _ h3; omega
theorem far_box {w : World} {base b : Nat} {v : Value} {ps : List (List Cl)} (h : FarShps w base v ps) (hb : b < base) (v0 v1 : Value) : FarShps ((w.setCell ⟨b, 0, none⟩ v0).setCell ⟨b, 1, none⟩ v1) base v ps := by
  have hk : ∀ k, base ≤ k → ((w.setCell ⟨b, 0, none⟩ v0).setCell ⟨b, 1, none⟩ v1).heap[k]? = w.heap[k]? := fun k hk => by
    rw [Below.heap_setCell _ _ _ _ (by show k ≠ b; omega), Below.heap_setCell _ _ _ _ (by show k ≠ b; omega)]
  obtain ⟨vs, h1, h2⟩ := h
  exact ⟨vs, ownsRow_setCell_below (ownsRow_setCell_below h1 (a := ⟨b, 0, none⟩) hb v0) (a := ⟨b, 1, none⟩) hb v1, All2.imp (fun _ _ ⟨ai, ci, q1, q2⟩ => ⟨ai, ci, q1, q2.to fun k _ _ hk1 _ => hk k hk1⟩) h2⟩
theorem row_box {w : World} {base b n : Nat} {v : Value} {xs : List Value} {e size : Nat} (h : w.ownsRow base e size v n xs) (hb : b < base) (v0 v1 : Value) : ((w.setCell ⟨b, 0, none⟩ v0).setCell ⟨b, 1, none⟩ v1).ownsRow base e size v n xs :=
  ownsRow_setCell_below (ownsRow_setCell_below h (a := ⟨b, 0, none⟩) hb v0) (a := ⟨b, 1, none⟩) hb v1
end Go.Proofs.YtajmdgcnnipdoaaGreatDoor

/- DrawR8: l8Region, l8Both: a region and some pieces. -/
namespace Go.Proofs.YtajmdgcnnipdoaaGreatDoor
open Go.RowKit

attribute [local go_sem ↓] Go.wp_at_zero Go.wp_at_succ

set_option maxRecDepth 100000 in
set_option maxHeartbeats 3200000 in
theorem l8Region_any (g : Nat) (bs : List Nat) (w : World) (hc : Curs w g bs) : RegDrawn 116 g bs #[.pointer (some ⟨g, 0, none⟩)] w := by
  unfold RegDrawn
  have hgw := hc.lt
  have hbA : Below w.heap.size w (w.alloc (.cells #[.int .i64 0, .slice none 0 0] 26)) := (Below.refl _ _).alloc (Nat.le_refl _) _
  have hzA : (w.alloc (.cells #[.int .i64 0, .slice none 0 0] 26)).heap.size = w.heap.size + 1 := by simp
  have hkA : (w.alloc (.cells #[.int .i64 0, .slice none 0 0] 26)).heap[w.heap.size]? = some (.cells #[.int .i64 0, .slice none 0 0] 26 (0, 0)) := heap_alloc_new w _
  have HCA := Lib.hid (hc.below hbA hgw)
  have HGA := Lib.hid (grown_any (row := some g) hbA)
  clear hc hbA
  go_enter Tryz.func116, Tryz.ntmps116
  go_upto_region 1 with (fail)
  generalize w.alloc (.cells #[.int .i64 0, .slice none 0 0] 26) = wA at hzA hkA HCA HGA ⊢
  have HD := Lib.hid (drawOnce g bs 14 wA HCA.out (by decide))
  go_wp2_with fail
  refine HD.out.mono ?_
  rintro e w1 ⟨q, rfl, hc1, hg1⟩
  have HK1 := Lib.hid ((hg1.block w.heap.size (by omega) (fun q => by cases q; omega)).trans hkA)
  have HC1 := Lib.hid hc1
  have HG1 := Lib.hid (grownBy_trans HGA.out hg1)
  have hs1 : w.heap.size + 1 ≤ w1.heap.size := by have := hg1.size; omega
  clear hc1 hg1 hkA
  have two : ∀ (b : Int) (a : Option Addr) (c : Nat) (xs : List Int) (w2 : World), (-1 ≤ b ∧ b ≤ 7) → xs.length ≤ 9 → w2.ownsRow w1.heap.size 3 1 (.slice a xs.length c) xs.length (ints xs) → Curs w2 g bs → w1.grownBy w2 (some g) →
      BoxAt w2 w.heap.size (.int .i64 0) (.slice none 0 0) ∧ ((w2.setCell ⟨w.heap.size, 0, none⟩ (.int .i64 b)).setCell ⟨w.heap.size, 1, none⟩ (.slice a xs.length c)).ownsRow w.heap.size 3 1 (.slice a xs.length c) xs.length (ints xs) ∧
      Curs ((w2.setCell ⟨w.heap.size, 0, none⟩ (.int .i64 b)).setCell ⟨w.heap.size, 1, none⟩ (.slice a xs.length c)) g bs ∧ w.grownBy ((w2.setCell ⟨w.heap.size, 0, none⟩ (.int .i64 b)).setCell ⟨w.heap.size, 1, none⟩ (.slice a xs.length c)) (some g) := by
    intro b a c xs w2 _ _ ho hc2 hg2
    have hk := (hg2.block w.heap.size (by omega) (fun q => by cases q; omega)).trans HK1.out
    have hbx : Below w.heap.size w2 ((w2.setCell ⟨w.heap.size, 0, none⟩ (.int .i64 b)).setCell ⟨w.heap.size, 1, none⟩ (.slice a xs.length c)) := box_below (Nat.le_refl _) _ _
    exact ⟨boxAt hk, ownsRow_rebase (ownsRow_setCell_below (ownsRow_setCell_below ho (a := ⟨w.heap.size, 0, none⟩) (by show w.heap.size < w1.heap.size; omega) (.int .i64 b)) (a := ⟨w.heap.size, 1, none⟩) (by show w.heap.size < w1.heap.size; omega) (.slice a xs.length c)) (by omega), hc2.below hbx hgw, grown_then (grownBy_trans HG1.out hg2) hbx⟩
  have TWO := Lib.hid two
  clear two
  cases q
  · have HD2 := Lib.hid (l6Draw_any g 4 bs w1 HC1.out (by decide))
    go_wp2_with fail
    refine HD2.out.mono ?_
    rintro e w2 ⟨B, a, c, xs, rfl, hreg, ho, hc2, hg2⟩
    have hB7 : -1 ≤ (B : Int) ∧ (B : Int) ≤ 7 := by have := hreg.1; omega
    have hl9 : xs.length ≤ 9 := by have := hreg.2.1; omega
    obtain ⟨⟨u0, u1, f0, f1⟩, h1, h2, h3⟩ := TWO.out B a c xs w2 hB7 hl9 ho hc2 hg2
    have H1 := Lib.hid h1
    have H2 := Lib.hid h2
    have H3 := Lib.hid h3
    clear h1 h2 h3 ho hc2 hg2 hreg
    go_wp2
    have e0 : ((w2.setCell ⟨w.heap.size, 0, none⟩ (.int .i64 B)).setCell ⟨w.heap.size, 1, none⟩ (.slice a xs.length c)).cell? ⟨w.heap.size, 0, none⟩ = some (.int .i64 B) := by rw [World.cell?_setCell_other _ _ _ _ (by simp)]; exact World.cell?_setCell_same _ _ _ u0
    have e1 : ((w2.setCell ⟨w.heap.size, 0, none⟩ (.int .i64 B)).setCell ⟨w.heap.size, 1, none⟩ (.slice a xs.length c)).cell? ⟨w.heap.size, 1, none⟩ = some (.slice a xs.length c) := World.cell?_setCell_same _ _ _ ((World.cell?_setCell_other _ _ _ _ (by simp)).trans u1)
    refine bodyPost_ret (v := .agg #[.int .i64 B, .slice a xs.length c]) (by simp [results, Tryz.results116, go_sem, e0, e1]) rfl ⟨B, a, c, xs, rfl, hB7, hl9, H1.out, H2.out, H3.out⟩
  · have HD2 := l6Any_any g bs w1 HC1.out
    unfold RegDrawn at HD2
    have HD3 := Lib.hid HD2
    clear HD2
    go_wp2_with fail
    refine HD3.out.mono ?_
    rintro e w2 ⟨b, a, c, xs, rfl, hb7, hl9, ho, hc2, hg2⟩
    obtain ⟨⟨u0, u1, f0, f1⟩, h1, h2, h3⟩ := TWO.out b a c xs w2 hb7 hl9 ho hc2 hg2
    have H1 := Lib.hid h1
    have H2 := Lib.hid h2
    have H3 := Lib.hid h3
    have HB7 := Lib.hid hb7
    clear h1 h2 h3 ho hc2 hg2 hb7
    go_wp2
    have e0 : ((w2.setCell ⟨w.heap.size, 0, none⟩ (.int .i64 b)).setCell ⟨w.heap.size, 1, none⟩ (.slice a xs.length c)).cell? ⟨w.heap.size, 0, none⟩ = some (.int .i64 b) := by rw [World.cell?_setCell_other _ _ _ _ (by simp)]; exact World.cell?_setCell_same _ _ _ u0
    have e1 : ((w2.setCell ⟨w.heap.size, 0, none⟩ (.int .i64 b)).setCell ⟨w.heap.size, 1, none⟩ (.slice a xs.length c)).cell? ⟨w.heap.size, 1, none⟩ = some (.slice a xs.length c) := World.cell?_setCell_same _ _ _ ((World.cell?_setCell_other _ _ _ _ (by simp)).trans u1)
    refine bodyPost_ret (v := .agg #[.int .i64 b, .slice a xs.length c]) (by simp [results, Tryz.results116, go_sem, e0, e1]) rfl ⟨b, a, c, xs, rfl, HB7.out, hl9, H1.out, H2.out, H3.out⟩

set_option maxRecDepth 100000 in
set_option maxHeartbeats 3200000 in
theorem l8Both_any (ad : Option Addr) (cap : Nat) (bs : List Nat) (w : World) (hn : bs.length ≤ 1048576) (hb : ∀ b ∈ bs, b < 256) (hc : CellsAt w ad (bts bs)) : RegPcs 71 #[.slice ad bs.length cap] w := by
  unfold RegPcs
  have hbA : Below w.heap.size w (w.alloc (.cells #[.int .i64 0, .slice none 0 0] 26)) := (Below.refl _ _).alloc (Nat.le_refl _) _
  have hzA : (w.alloc (.cells #[.int .i64 0, .slice none 0 0] 26)).heap.size = w.heap.size + 1 := by simp
  have hkA : (w.alloc (.cells #[.int .i64 0, .slice none 0 0] 26)).heap[w.heap.size]? = some (.cells #[.int .i64 0, .slice none 0 0] 26 (0, 0)) := heap_alloc_new w _
  have HN := Lib.hid (drawNew ad cap bs (w.alloc (.cells #[.int .i64 0, .slice none 0 0] 26)) hn hb (hc.below hbA))
  have HBA := Lib.hid hbA
  clear hn hb hc hbA
  go_enter Tryz.func71, Tryz.ntmps71
  go_upto_region 1 with (fail)
  generalize w.alloc (.cells #[.int .i64 0, .slice none 0 0] 26) = wA at hzA hkA HN HBA ⊢
  go_wp2_with fail
  refine HN.out.mono ?_
  rintro e w1 ⟨g, rfl, hg, hc1, hb1⟩
  have hk1 := (hb1.block w.heap.size (by omega)).trans hkA
  have hs1 := hb1.size
  have hgw := hc1.lt
  have HB1 := Lib.hid (HBA.out.trans (hb1.mono (by omega)))
  have HR := l8Region_any g bs w1 hc1
  unfold RegDrawn at HR
  have HRR := Lib.hid HR
  clear hc1 hb1 hkA HR
  go_wp2_with fail
  refine HRR.out.mono ?_
  rintro e w2 ⟨b, a, c, xs, rfl, hb7, hl9, ho2, hc2, hg2⟩
  have hk2 := (hg2.block w.heap.size (by omega) (fun q => by cases q; omega)).trans hk1
  have hs2 := hg2.size
  have hb3 : Below w2.heap.size w2 (w2.alloc (.cells #[.int .i64 b, .slice a xs.length c] 26)) := (Below.refl _ _).alloc (Nat.le_refl _) _
  have hk3 : (w2.alloc (.cells #[.int .i64 b, .slice a xs.length c] 26)).heap[w2.heap.size]? = some (.cells #[.int .i64 b, .slice a xs.length c] 26 (0, 0)) := heap_alloc_new w2 _
  have hk3b := (hb3.block w.heap.size (by omega)).trans hk2
  have hz3 : (w2.alloc (.cells #[.int .i64 b, .slice a xs.length c] 26)).heap.size = w2.heap.size + 1 := by simp
  have HO3 := Lib.hid (ownsRow_far_below ho2 hb3 (Nat.le_refl _))
  have HC3 := Lib.hid (hc2.below hb3 hc2.lt)
  have HB3 := Lib.hid ((HB1.out.trans (below_grw hg2 (by omega) (by omega))).trans (hb3.mono (by omega)))
  have HB7 := Lib.hid hb7
  clear ho2 hc2 hg2 hb3 hk1 hk2 hb7
  go_upto_region 3 with (fail)
  generalize w2.alloc (.cells #[.int .i64 b, .slice a xs.length c] 26) = w3 at hk3 hk3b hz3 HO3 HC3 HB3 ⊢
  obtain ⟨y0, y1, y2, y3⟩ := boxAt hk3
  have HP := Lib.hid (l7Pieces_any g bs w3.drew (HC3.out.below (Below.refl _ _).drew HC3.out.lt))
  have d0 : w3.drew.cell? ⟨w2.heap.size, 0, none⟩ = some (.int .i64 b) := y0
  have d1 : w3.drew.cell? ⟨w2.heap.size, 1, none⟩ = some (.slice a xs.length c) := y1
  go_wp2
  go_region_with (first
    | (go_at_call 117; refine HP.out.mono ?_; rintro e w4 ⟨v, rfl, ps, hp1, hp3, hp80, hf4, hc4, hg4⟩; have hk4 := (hg4.block w2.heap.size (lt_of_block hk3) (fun q => by cases q; omega)).trans hk3; have hk4b := (hg4.block w.heap.size (lt_of_block hk3b) (fun q => by cases q; omega)).trans hk3b; obtain ⟨k0, k1, k2, k3⟩ := boxAt hk4; obtain ⟨u0, u1, f0, f1⟩ := boxAt hk4b))
  all_goals have HF4 := Lib.hid (show FarShps w4 w3.heap.size v ps from hf4)
  all_goals have HO4 := Lib.hid (own_grown (show w3.drew.ownsRow w1.heap.size 3 1 (.slice a xs.length c) xs.length (ints xs) from HO3.out) hg4 hgw)
  all_goals have HB4 := Lib.hid (HB3.out.trans (below_grw (grownBy_trans (grownBy_drew w3 (some g)) hg4) HB3.out.size (by omega)))
  all_goals have HP80 := Lib.hid hp80
  all_goals clear hf4 hc4 hg4 hp80 k0 k1 k2 k3 hk4 hk4b
  all_goals obtain ⟨va, cv, rfl, hsa⟩ := HF4.out.form
  all_goals have hbx : Below w.heap.size w4 ((w4.setCell ⟨w.heap.size, 0, none⟩ (.int .i64 b)).setCell ⟨w.heap.size, 1, none⟩ (.slice a xs.length c)) := box_below (Nat.le_refl _) _ _
  all_goals have ho5 := Lib.hid (ownsRow_setCell_below (ownsRow_setCell_below HO4.out (a := ⟨w.heap.size, 0, none⟩) (by show w.heap.size < w1.heap.size; omega) (.int .i64 b)) (a := ⟨w.heap.size, 1, none⟩) (by show w.heap.size < w1.heap.size; omega) (.slice a xs.length c))
  all_goals have hs5 := Lib.hid (far_box (b := w.heap.size) HF4.out (by omega) (.int .i64 b) (.slice a xs.length c))
  all_goals have HBX := Lib.hid hbx
  all_goals clear hbx hsa
  all_goals go_wp2
  all_goals have e0 : ((w4.setCell ⟨w.heap.size, 0, none⟩ (.int .i64 b)).setCell ⟨w.heap.size, 1, none⟩ (.slice a xs.length c)).cell? ⟨w.heap.size, 0, none⟩ = some (.int .i64 b) := (by rw [World.cell?_setCell_other _ _ _ _ (by simp)]; exact World.cell?_setCell_same _ _ _ u0)
  all_goals have e1 : ((w4.setCell ⟨w.heap.size, 0, none⟩ (.int .i64 b)).setCell ⟨w.heap.size, 1, none⟩ (.slice a xs.length c)).cell? ⟨w.heap.size, 1, none⟩ = some (.slice a xs.length c) := World.cell?_setCell_same _ _ _ ((World.cell?_setCell_other _ _ _ _ (by simp)).trans u1)
  all_goals refine bodyPost_ret (v := .tuple #[.agg #[.int .i64 b, .slice a xs.length c], .slice va ps.length cv]) (by simp [results, Tryz.results71, go_sem, e0, e1]) rfl ⟨b, a, c, xs, va, cv, ps, rfl, HB7.out, hl9, hp1, hp3, HP80.out, ownsRow_rebase ho5.out (by omega), hs5.out.rebase (by omega), HB4.out.trans HBX.out⟩
end Go.Proofs.YtajmdgcnnipdoaaGreatDoor
