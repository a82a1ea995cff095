/- RowV: the walk of RowGraph's visitor: it collects rows, each in a block of its own. -/
import Derived.Test.YtdnklmdmafbogaaDoorRowG0
import Derived.Test.YtdnklmdmafbogaaDoorAllRows
import Derived.Test.YtdnklmdmafbogaaDoorPut0
import Derived.BigRegion
import Derived.Laws.EntriesVeiled
namespace Go.Proofs.YtdnklmdmafbogaaDoor
open Go.RowKit

theorem callFunc_rg (args : Array Value) (w : World) : Sem.run Tryd.prog (callFunc 78 args) w = .ok (.enter 78 args) w := by kernel_rfl

/-- What is known of the world while rows are collected: the list, and the tiles. -/
def RowI (lo : Nat) (ad : Option Addr) (ts : List Tile) (L : List (List Nat)) (w : World) : Prop :=
  (∃ ao co vals, w.heap[lo]? = some (.cells #[.slice ao L.length co] 60 (0, 0)) ∧ w.ownsRow (lo + 1) 37 1 (.slice ao L.length co) L.length vals ∧ RowsIn w (lo + 1) vals (L.map nats)) ∧ CellsAt w ad (wangs ts) ∧ ∀ g off, ad = some ⟨g, off, none⟩ → 0 < ts.length → g < lo
theorem RowI.below {lo : Nat} {ad : Option Addr} {ts : List Tile} {L : List (List Nat)} {w w' : World} (h : RowI lo ad ts L w) (hb : Below w.heap.size w w') : RowI lo ad ts L w' := by
  obtain ⟨⟨ao, co, vals, h1, h2, h3⟩, h4, h5⟩ := h
  exact ⟨⟨ao, co, vals, (hb.block lo (lt_of_block h1)).trans h1, ownsRow_far_below h2 hb (Nat.le_refl _), h3.below hb⟩, h4.below hb, h5⟩
/-- The row was made behind a world in which all was well. -/
def RowFr (lo : Nat) (ad : Option Addr) (ts : List Tile) (L : List (List Nat)) (w : World) (v : Value) : Prop :=
  ∃ w0, RowI lo ad ts L w0 ∧ Below w0.heap.size w0 w ∧ ∀ b, v.ownBlock = some b → w0.heap.size ≤ b
theorem wang_kin {w w' : World} {ad : Option Addr} {ts : List Tile} {lo hi : Nat} (h : CellsAt w ad (wangs ts)) (hlt : ∀ g off, ad = some ⟨g, off, none⟩ → 0 < ts.length → g < lo) (hk : Kin lo hi w w') (hs : lo ≤ w.heap.size) : CellsAt w' ad (wangs ts) := by
  rcases h with h | ⟨g, off, hv, hc⟩
  · exact .inl h
  · refine .inr ⟨g, off, hv, fun j u' hu => ?_⟩
    have hg := hlt g off hv (by
      have : j < (wangs ts).length := by
        rcases Nat.lt_or_ge j (wangs ts).length with q | q
        · exact q
        · rw [List.getElem?_eq_none q] at hu; cases hu
      rw [wangs_length] at this
      omega)
    rw [World.cell?_of_block (hk.low g (by omega) hg)]
    exact hc j u' hu

set_option maxRecDepth 100000 in
set_option maxHeartbeats 1600000 in
theorem rgVisit (lo : Nat) (ad : Option Addr) (ts : List Tile) (L : List (List Nat)) (f : List Nat) (w : World) (af : Option Addr) (cf : Nat) (hL : L.length ≤ 40) (hown : w.ownsRow (lo + 1) 3 1 (.slice af f.length cf) f.length (ints (nats f))) (hfr : RowFr lo ad ts L w (.slice af f.length cf)) :
    Calls Tryd.prog 78 #[.slice af f.length cf, .pointer (some ⟨lo, 0, none⟩)] w fun e w' => e = .returned (.bool (rgCont (L ++ [f]))) ∧ RowI lo ad ts (L ++ [f]) w' ∧ Kin lo (lo + 1) w w' := by
  obtain ⟨w0, ⟨⟨ao, co, vals, h1, h2, h3⟩, h4, h5⟩, hb0, hfresh⟩ := hfr
  have hsz0 := lt_of_block h1
  have hr1 : w.ownsRow w0.heap.size 3 1 (.slice af (nats f).length cf) (nats f).length (ints (nats f)) := by rw [nats_length]; exact ownsRow_fresh hown hfresh
  have h3s := RowsIn.snoc (xs := nats f) (ai := af) (ci := cf) h3 hb0 (by omega) hr1
  rw [nats_length] at h3s
  have h1w := (hb0.block lo hsz0).trans h1
  have h2w := ownsRow_far_below h2 hb0 (Nat.le_refl _)
  have h4w := h4.below hb0
  have hszw := lt_of_block h1w
  have x2 := cell_of_one h1w
  have y2 := free_of_one h1w
  have HX2 := Lib.hid x2
  have HY2 := Lib.hid y2
  have H1 := Lib.hid h1w
  have H2 := Lib.hid h2w
  have H3 := Lib.hid h3s
  have H4 := Lib.hid h4w
  have H5 := Lib.hid h5
  have hl : (L ++ [f]).length = L.length + 1 := by simp
  have hcg : rgCont (L ++ [f]) = decide (L.length + 1 ≤ 40) := by unfold rgCont; rw [hl]
  have hmap : (L ++ [f]).map nats = L.map nats ++ [nats f] := by simp
  have HL := Lib.hid hl
  have HM := Lib.hid hmap
  rw [hcg]
  clear h1 h2 h3 hr1 h3s h4 h5 h1w h2w h4w hown hfresh hb0 hsz0 hl hcg hmap
  have hpush : ∀ (g' cap : Nat) (w2 : World), w2.ownsRow (lo + 1) 37 1 (.slice (some ⟨g', 0, none⟩) (L.length + 1) cap) (L.length + 1) (vals ++ (#[Value.slice af f.length cf]).toList) → Below (lo + 1) w w2 → w.grownBy w2 (Value.slice ao L.length co).ownBlock →
      RowI lo ad ts (L ++ [f]) (w2.setCell ⟨lo, 0, none⟩ (.slice (some ⟨g', 0, none⟩) (L.length + 1) cap)) ∧ Kin lo (lo + 1) w (w2.setCell ⟨lo, 0, none⟩ (.slice (some ⟨g', 0, none⟩) (L.length + 1) cap)) := by
    intro g' cap w2 q1 q2 q3
    have hk1 : Kin lo (lo + 1) w w2 := Kin.grown H2.out (by omega) q3
    have hk2 : Kin lo (lo + 1) w2 (w2.setCell ⟨lo, 0, none⟩ (.slice (some ⟨g', 0, none⟩) (L.length + 1) cap)) := Kin.of_touched ((Touched.refl lo (lo + 1) w2).setCell (p := ⟨lo, 0, none⟩) (by show lo ≤ lo; omega) (by show lo < lo + 1; omega) _)
    have hk := hk1.trans hk2
    refine ⟨⟨⟨some ⟨g', 0, none⟩, cap, vals ++ [.slice af f.length cf], ?_, ?_, ?_⟩, wang_kin H4.out H5.out hk (by omega), H5.out⟩, hk⟩
    · rw [HL.out]
      exact one_setCell ((q2.block lo (by omega)).trans H1.out)
    · rw [HL.out]
      exact ownsRow_setCell_below q1 (by show lo < lo + 1; omega) _
    · rw [HM.out]
      exact H3.out.mono fun _ _ _ q => hk.owns q
  have HPUSH := Lib.hid hpush
  have hc1 : L.length + 1 ≤ maxLen := by unfold maxLen; omega
  have hbal : Below w.heap.size w (w.alloc (.cells #[.slice af f.length cf] 37)).drew := ((Below.refl w.heap.size w).alloc (Nat.le_refl _) _).drew
  have ka1 := (hbal.cell (p := ⟨lo, 0, none⟩) hszw).trans x2
  have ka2 := (hbal.frozen (p := ⟨lo, 0, none⟩) hszw).trans y2
  have ka3 := (show (w.alloc (.cells #[.slice af f.length cf] 37)).cell? ⟨lo, 0, none⟩ = some (.slice ao L.length co) from ka1)
  have ka4 := (show (w.alloc (.cells #[.slice af f.length cf] 37)).frozen? ⟨lo, 0, none⟩ = false from ka2)
  clear hpush hbal
  have HD := Lib.hid (show decide ((L.length : Int) + 1 ≤ 40) = decide (L.length ≤ 39) by rw [decide_eq_decide]; omega)
  go_enter Tryd.func78, Tryd.ntmps78
  go_wp2_with (at_builtin; refine wpList_app1 rfl (.tmp 4) (.tmp 6) 60 rfl (lo + 1) 37 (.slice none 0 0) 1 24 Tryd.elemInts _ L.length vals _ _ _ rfl rfl rfl H2.out (by rfl) (by simp [Value.oneCell']) (by exact hc1) (by omega) (by omega) ?_; intro g' cap w2 q1 q2 q3 q4 q5 q6; have kc2 := (q2.cell (p := ⟨lo, 0, none⟩) (by show lo < lo + 1; omega)).trans HX2.out; have kf2 := (q2.frozen (p := ⟨lo, 0, none⟩) (by show lo < lo + 1; omega)).trans HY2.out)
  have hp := HPUSH.out _ _ _ q1 q2 q3
  have HP := Lib.hid hp
  clear hp q1 q3 q4 q5 q6
  go_wp2
  go_ret
  exact ⟨by rw [← HD.out]; rfl, HP.out.1, HP.out.2⟩
theorem rg_go : ∀ (Fs L : List (List Nat)), L.length ≤ 40 → (visit rgCont Fs L).2 = true → (visit rgCont Fs L).1.length ≤ 40
  | [], L, h, _ => h
  | f :: Fs, L, h, h2 => by
    by_cases hc : rgCont (L ++ [f]) = true
    · rw [visit, if_pos hc] at h2 ⊢
      exact rg_go Fs _ (of_decide_eq_true hc) h2
    · rw [visit, if_neg hc] at h2
      cases h2
end Go.Proofs.YtdnklmdmafbogaaDoor
