/- DrawW: l18Tiles: a list of one to five tiles, whichever. -/
import Derived.Test.YtdnklmdmafbogaaDoorDraw1
import Derived.Test.YtdnklmdmafbogaaDoorWangH
import Derived.Deep.Cut
namespace Go.Proofs.YtdnklmdmafbogaaDoor
open Go.RowKit

attribute [local go_sem ↓] Go.wp_at_zero Go.wp_at_succ

theorem wangs_top (ts : List Tile) (z : Int) (h : 0 < ts.length) : ∃ us : List Tile, us.length = ts.length ∧ (wangs ts).set 0 (.int .i64 z) = wangs us := by
  cases ts with
  | nil => simp at h
  | cons t ts => exact ⟨⟨z, t.r, t.b, t.l⟩ :: ts, rfl, rfl⟩

set_option maxRecDepth 100000 in
set_option maxHeartbeats 3200000 in
theorem l18Tiles_any (g : Nat) (bs : List Nat) (w : World) (hc : Curs w g bs) :
    Calls Tryd.prog 67 #[.pointer (some ⟨g, 0, none⟩)] w fun e w' => ∃ (a : Option Addr) (c : Nat) (ts : List Tile), e = .returned (.slice a ts.length c) ∧ 1 ≤ ts.length ∧ ts.length ≤ 5 ∧
      w'.ownsRow w.heap.size 45 4 (.slice a ts.length c) ts.length (wangs ts) ∧ Curs w' g bs ∧ w.grownBy w' (some g) := by
  have HE := Lib.hid (ownsRow_empty w 45 4)
  have hgw := hc.lt
  have hbA : Below w.heap.size w (w.alloc (.cells #[] 45)) := (Below.refl _ _).alloc (Nat.le_refl _) _
  have HCA := Lib.hid (hc.below hbA hgw)
  have HGA := Lib.hid (grown_below (row := some g) hbA)
  clear hc hbA
  go_enter Tryd.func67, Tryd.ntmps67
  go_upto_region 2 with (fail)
  generalize w.alloc (.cells #[] 45) = wA at HE HCA HGA ⊢
  have HD := Lib.hid (drawBelow g bs 2 wA HCA.out (by decide))
  go_wp2_with fail
  refine HD.out.mono ?_
  rintro e w1 ⟨x0, rfl, hx0, hc1, hg1⟩
  have HC1 := Lib.hid hc1
  have HG1 := Lib.hid (grownBy_trans HGA.out hg1)
  have HE1 := Lib.hid (own_grown HE.out hg1 hgw)
  obtain ⟨k, hk⟩ : ∃ k : Nat, k = 2 + x0 := ⟨_, rfl⟩
  have ek : (2 : Int) + (x0 : Int) = (k : Int) := by omega
  have wk : IntKind.i64.wrap (k : Int) = (k : Int) := IntWalk.i64_in _ (by omega)
  have hk2 : 1 ≤ k ∧ k ≤ 256 := by omega
  have HD2 := Lib.hid (drawBelow g bs 5 w1 HC1.out (by decide))
  have HK2 := Lib.hid hk2
  clear hc1 hg1 HCA HE hk hk2
  go_wp2_with fail
  refine HD2.out.mono ?_
  rintro e w2 ⟨m0, rfl, hm0, hc2, hg2⟩
  have HC2 := Lib.hid hc2
  have HG2 := Lib.hid (grownBy_trans HG1.out hg2)
  have HE2 := Lib.hid (own_grown HE1.out hg2 hgw)
  clear hc2 hg2 HC1 HE1 HG1 HGA
  go_wp2
  go_loopw [3, 5] (fun v i wr => ∃ (m : Nat) (ts : List Tile), m ≤ 5 ∧ i = .int .i64 m ∧ ts.length + m ≤ 5 ∧ 1 ≤ ts.length + m ∧ wr.ownsRow w.heap.size 45 4 v ts.length (wangs ts) ∧ Curs wr g bs ∧ w.grownBy wr (some g)) (fun _ i _ => (intOf i).toNat)
  case atStart => exact ⟨1 + m0, [], by omega, by go_num, by simp; omega, by simp, HE2.out, HC2.out, HG2.out⟩
  case round =>
    obtain ⟨m, ts, hm, rfl, hks, hks1, hown, hcr, hgr⟩ := hrel
    have HO := Lib.hid hown
    have HCR := Lib.hid hcr
    have HGR := Lib.hid hgr
    have hsz : w.heap.size ≤ wr.heap.size := hgr.size
    clear hown hcr hgr
    by_cases h0 : 0 < m
    · have hd : decide (0 < m) = true := decide_eq_true h0
      have hd2 : decide ((0 : Int) < (m : Int)) = true := decide_eq_true (by omega)
      obtain ⟨p, rfl⟩ : ∃ p, m = p + 1 := ⟨m - 1, by omega⟩
      have HD := Lib.hid (drawBelow g bs k wr HCR.out HK2.out)
      go_wp2_with fail
      refine HD.out.mono ?_
      rintro e w3 ⟨za, rfl, _, hc3, hg3⟩
      have HG3 := Lib.hid (grownBy_trans HGR.out hg3)
      have HO3 := Lib.hid (own_grown HO.out hg3 hgw)
      have HD3 := Lib.hid (drawBelow g bs k w3 hc3 HK2.out)
      clear hc3 hg3 HGR HO HCR
      go_wp2_with fail
      refine HD3.out.mono ?_
      rintro e w4 ⟨zb, rfl, _, hc4, hg4⟩
      have HG4 := Lib.hid (grownBy_trans HG3.out hg4)
      have HO4 := Lib.hid (own_grown HO3.out hg4 hgw)
      have HD4 := Lib.hid (drawBelow g bs k w4 hc4 HK2.out)
      clear hc4 hg4 HG3 HO3
      go_wp2_with fail
      refine HD4.out.mono ?_
      rintro e w5 ⟨zc, rfl, _, hc5, hg5⟩
      have HG5 := Lib.hid (grownBy_trans HG4.out hg5)
      have HO5 := Lib.hid (own_grown HO4.out hg5 hgw)
      have HD5 := Lib.hid (drawBelow g bs k w5 hc5 HK2.out)
      clear hc5 hg5 HG4 HO4
      go_wp2_with fail
      refine HD5.out.mono ?_
      rintro e w6 ⟨zd, rfl, _, hc6, hg6⟩
      have HC6 := Lib.hid hc6
      have HG6 := Lib.hid (grownBy_trans HG5.out hg6)
      have HO6 := Lib.hid (own_grown HO5.out hg6 hgw)
      have hsz6 : w.heap.size ≤ w6.heap.size := HG6.out.size
      clear hc6 hg6 HG5 HO5
      go_wp2_with (at_builtin; refine wpList_app1 rfl (.tmp 17) (.tmp 31) 25 rfl w.heap.size 45 _ 4 32 Tryd.elemWang _ ts.length _ _ _ _ rfl rfl rfl HO6.out (by rfl) (by simp [Value.oneCell']) (by unfold maxLen; omega) (by omega) (by omega) ?_; intro g' cap w7 q1 q2 q3 q4 q5 q6)
      go_roundw
      case rel =>
        refine ⟨p, ts ++ [⟨za, zb, zc, zd⟩], by omega, by go_num, by rw [List.length_append, List.length_singleton]; omega, by rw [List.length_append, List.length_singleton]; omega, ?_, HC6.out.below q2 hgw, grown_then HG6.out q2⟩
        rw [wangs_append, List.length_append, List.length_singleton]
        exact q1
      case measure => simp [intOf]
    · obtain rfl : m = 0 := by omega
      have hd : decide (0 < (0 : Nat)) = false := rfl
      obtain ⟨av, cv, rfl, hcv⟩ := ownsRow_cells HO.out
      have ht5 : ts.length ≤ 5 := by omega
      have ht1 : 1 ≤ ts.length := by omega
      have HD := Lib.hid (drawOnce g bs 14 wr HCR.out (by decide))
      clear hks hks1 hcv HE2 HC2 HG2
      go_wp2_with fail
      refine HD.out.mono ?_
      rintro e w3 ⟨b, rfl, hc3, hg3⟩
      have HC3 := Lib.hid hc3
      have HG3 := Lib.hid (grownBy_trans HGR.out hg3)
      have HO3 := Lib.hid (own_grown HO.out hg3 hgw)
      have hsz3 : w.heap.size ≤ w3.heap.size := HG3.out.size
      clear hc3 hg3 HGR HO HCR
      cases b
      · go_wp2
        go_ret
        exact ⟨av, cv, ts, rfl, ht1, ht5, HO3.out, HC3.out, HG3.out⟩
      · have hb4 : Below w3.heap.size w3 (w3.alloc (.cells #[.int .i64 (-1), .int .i64 4, .int .i64 3] 3)) := (Below.refl _ _).alloc (Nat.le_refl _) _
        have HC4 := Lib.hid (HC3.out.below hb4 (by omega))
        have HO4 := Lib.hid (ownsRow_far_below HO3.out hb4 (Nat.le_refl _))
        have HG4 := Lib.hid (grown_then HG3.out (hb4.mono hsz3))
        have HL4 := Lib.hid (cells_lit (w := w3) (vs := ints [-1, 4, 3]) (e := 3) (heap_alloc_new w3 (.cells #[.int .i64 (-1), .int .i64 4, .int .i64 3] 3)))
        have HP := Lib.hid (fun c => pickInt_any g bs (some ⟨w3.heap.size, 0, none⟩) c [-1, 4, 3] _ HC4.out (by decide) HL4.out (fun a q => by cases q; show w3.heap.size ≠ g; omega))
        clear hb4 HC3 HO3 HG3
        go_wp2_with fail
        refine (HP.out _).mono ?_
        rintro e w5 ⟨z5, rfl, _, hc5, hg5⟩
        have HC5 := Lib.hid hc5
        have HG5 := Lib.hid (grownBy_trans HG4.out hg5)
        have HO5 := Lib.hid (own_grown HO4.out hg5 hgw)
        clear hc5 hg5 HC4 HO4 HG4 HL4 HP
        obtain ⟨gb, rfl⟩ : ∃ gb, av = some ⟨gb, 0, none⟩ := by
          rcases HO5.out.2 with ⟨h1, _⟩ | ⟨gb, cc, cur, h1, _⟩
          · injection h1 with _ h2 _; omega
          · injection h1 with h2 _ _; exact ⟨gb, h2⟩
        have hgb := (HO5.out.lt gb rfl)
        obtain ⟨us, hus, hset⟩ := wangs_top ts z5 (by omega)
        obtain ⟨s1, s2⟩ := HO5.out.stored 0 (.int .i64 z5)
        rw [hset] at s1
        have hb6 : Below w.heap.size w5 (w5.setCell ⟨gb, 0, none⟩ (.int .i64 z5)) := (Below.refl _ _).grown s2 (by have := hgb.1; have := hgb.2; omega) (fun k hk => by cases hk; exact hgb.1)
        have HC6 := Lib.hid (HC5.out.below hb6 hgw)
        have HG6 := Lib.hid (grown_then HG5.out hb6)
        have HS1 := Lib.hid s1
        have HUS := Lib.hid hus
        have hfz : w5.frozen? ⟨gb, 0, none⟩ = false := HO5.out.frozenAt 0
        have hce : ∃ u, w5.cell? ⟨gb, 0, none⟩ = some u := by
          obtain ⟨t, tl, rfl⟩ : ∃ t tl, ts = t :: tl := by cases ts; simp at ht1; exact ⟨_, _, rfl⟩
          exact ⟨_, by rw [HO5.out.cellAt 0 (by simp)]; rfl⟩
        obtain ⟨u0, hu0⟩ := hce
        clear s1 s2 hset hb6 hus
        go_wp2
        go_ret
        refine ⟨some ⟨gb, 0, none⟩, cv, us, by rw [HUS.out]; rfl, by rw [HUS.out]; exact ht1, by rw [HUS.out]; exact ht5, by rw [HUS.out]; exact HS1.out, HC6.out, HG6.out⟩
end Go.Proofs.YtdnklmdmafbogaaDoor
