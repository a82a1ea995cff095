/- DrawU: what the reference draws for toruses: l16Sides, l16Three and what is built on them. -/
import Derived.Test.YtajmdgcnnipdoaaGreatDoorDrawU1
import Derived.Test.YtajmdgcnnipdoaaGreatDoorFindT
import Derived.Test.YtajmdgcnnipdoaaGreatDoorAllCov
namespace Go.Proofs.YtajmdgcnnipdoaaGreatDoor
open Go.RowKit

attribute [local go_sem ↓] Go.wp_at_zero Go.wp_at_succ

set_option maxRecDepth 100000 in
set_option maxHeartbeats 3200000 in
theorem l16Sides_any (g : Nat) (bs : List Nat) (w : World) (hc : Curs w g bs) :
    Calls Tryz.prog 104 #[.pointer (some ⟨g, 0, none⟩)] w fun e w' => ∃ (x y : Int), e = .returned (.tuple #[.int .i64 x, .int .i64 y]) ∧ (-1 ≤ x ∧ x ≤ 6) ∧ (1 ≤ y ∧ y ≤ 4) ∧ Curs w' g bs ∧ w.grownBy w' (some g) := by
  have HO := Lib.hid (drawOnce g bs 14 w hc (by decide))
  have hgw := hc.lt
  clear hc
  have HX := Lib.hid (fun w h => drawBelow g bs 4 w h (by decide))
  go_enter Tryz.func104, Tryz.ntmps104
  go_wp2_with fail
  refine HO.out.mono ?_
  rintro e w1 ⟨q, rfl, hc1, hg1⟩
  have HC1 := Lib.hid hc1
  have HG1 := Lib.hid hg1
  have hgl := hc1.lt
  clear hc1 hg1
  cases q
  · go_wp2_with fail
    refine (HX.out _ HC1.out).mono ?_
    rintro e w2 ⟨x, rfl, hx, hc2, hg2⟩
    have HC2 := Lib.hid hc2
    have HG2 := Lib.hid (grownBy_trans HG1.out hg2)
    clear hc2 hg2
    obtain ⟨x1, hx1⟩ : ∃ x1, x1 = 1 + x := ⟨_, rfl⟩
    have tx : (1 : Int) + (x : Int) = (x1 : Int) := by rw [hx1]; norm_cast
    have ux : IntKind.i64.wrap (x1 : Int) = (x1 : Int) := IntWalk.i64_in _ (by omega)
    have hx4 : -1 ≤ (x1 : Int) ∧ (x1 : Int) ≤ 6 := by omega
    have hx5 : x1 ≤ 6 := by omega
    clear hx1
    go_wp2_with fail
    refine (HX.out _ HC2.out).mono ?_
    rintro e w3 ⟨y, rfl, hy, hc3, hg3⟩
    have HC3 := Lib.hid hc3
    have HG3 := Lib.hid (grownBy_trans HG2.out hg3)
    clear hc3 hg3
    obtain ⟨y1, hy1⟩ : ∃ y1, y1 = 1 + y := ⟨_, rfl⟩
    have ty : (1 : Int) + (y : Int) = (y1 : Int) := by rw [hy1]; norm_cast
    have uy : IntKind.i64.wrap (y1 : Int) = (y1 : Int) := IntWalk.i64_in _ (by omega)
    have hy4 : 1 ≤ (y1 : Int) ∧ (y1 : Int) ≤ 4 := by omega
    have hy5 : y1 ≤ 6 := by omega
    clear hy1
    go_wp2
    go_ret2
    exact ⟨(x1 : Int), (y1 : Int), by first | rfl | go_num, hx4, hy4, HC3.out, HG3.out⟩
  · have hb4 : Below w1.heap.size w1 (w1.alloc (.cells #[.int .i64 0, .int .i64 6, .int .i64 (-1)] 3)) := (Below.refl _ _).alloc (Nat.le_refl _) _
    have HC4 := Lib.hid (HC1.out.below hb4 hgl)
    have HG4 := Lib.hid (grown_then HG1.out (hb4.mono HG1.out.size))
    have HL4 := Lib.hid (cells_lit (w := w1) (vs := ints [0, 6, -1]) (e := 3) (heap_alloc_new w1 (.cells #[.int .i64 0, .int .i64 6, .int .i64 (-1)] 3)))
    have HP := Lib.hid (fun c => pickInt_any g bs (some ⟨w1.heap.size, 0, none⟩) c [0, 6, -1] _ HC4.out (by decide) HL4.out (fun a q => by cases q; show w1.heap.size ≠ g; omega))
    clear hb4
    go_wp2_with fail
    refine (HP.out _).mono ?_
    rintro e w5 ⟨z, rfl, hzm, hc5, hg5⟩
    have hz : -1 ≤ z ∧ z ≤ 6 := by simp only [List.mem_cons, List.not_mem_nil, or_false] at hzm; omega
    have HC5 := Lib.hid hc5
    have HG5 := Lib.hid (grownBy_trans HG4.out hg5)
    clear hc5 hg5 hzm HP HL4
    go_wp2
    go_ret2
    exact ⟨z, 2, rfl, hz, by decide, HC5.out, HG5.out⟩

set_option maxRecDepth 100000 in
set_option maxHeartbeats 3200000 in
theorem l16Three_any (ad : Option Addr) (cap : Nat) (bs : List Nat) (w : World) (hn : bs.length ≤ 1048576) (hb : ∀ b ∈ bs, b < 256) (hc : CellsAt w ad (bts bs)) : TorPcs 92 #[.slice ad bs.length cap] w := by
  unfold TorPcs
  have HD := Lib.hid (drawNew ad cap bs w hn hb hc)
  clear hn hb hc
  go_enter Tryz.func92, Tryz.ntmps92
  go_wp2_with fail
  refine HD.out.mono ?_
  rintro e w1 ⟨g, rfl, hg, hc1, hb1⟩
  have HB1 := Lib.hid hb1
  have HC1 := Lib.hid hc1
  have hs1 := hb1.size
  clear hb1 hc1
  have HS := Lib.hid (l16Sides_any g bs w1 HC1.out)
  go_wp2_with fail
  refine HS.out.mono ?_
  rintro e w2 ⟨x, y, rfl, hx, hy, hc2, hg2⟩
  have HB2 := Lib.hid (HB1.out.trans (below_grw hg2 hs1 hg))
  have HC2 := Lib.hid hc2
  have hs2 := HB2.out.size
  clear hc2 hg2
  have HP := Lib.hid (l7Pieces_any g bs w2 HC2.out)
  go_wp2_with fail
  refine HP.out.mono ?_
  rintro e w3 ⟨v, rfl, ps, hp1, hp3, hp80, hf, hc3, hg3⟩
  obtain ⟨va, cv, rfl, _⟩ := hf.form
  have HF := Lib.hid (hf.rebase hs2)
  have HB3 := Lib.hid (HB2.out.trans (below_grw hg3 hs2 hg))
  have HP80 := Lib.hid hp80
  clear hf hc3 hg3 hp80
  go_wp2
  go_ret3
  exact ⟨x, y, va, cv, ps, rfl, hx, hy, hp1, hp3, HP80.out, HF.out, HB3.out⟩

set_option maxRecDepth 100000 in
set_option maxHeartbeats 3200000 in
theorem drawCT_any (ad : Option Addr) (cap : Nat) (bs : List Nat) (w : World) (hn : bs.length ≤ 1048576) (hb : ∀ b ∈ bs, b < 256) (hc : CellsAt w ad (bts bs)) : TorPcs 46 #[.slice ad bs.length cap] w := by
  have HN := l16Three_any ad cap bs w hn hb hc
  unfold TorPcs at HN ⊢
  have H := Lib.hid HN
  clear hn hb hc HN
  go_enter Tryz.func46, Tryz.ntmps46
  go_wp2_with fail
  refine H.out.mono ?_
  rintro e w1 ⟨x, y, va, cv, ps, rfl, hx, hy, hp1, hp3, hp80, hf, hb1⟩
  have HF := Lib.hid hf
  have HP80 := Lib.hid hp80
  clear hf hp80
  go_wp2
  go_ret3
  exact ⟨x, y, va, cv, ps, rfl, hx, hy, hp1, hp3, HP80.out, HF.out, hb1⟩

theorem results_tmp4u {fn : Func} {t u v x : Tmp} (h : fn.results = #[.tmp t, .tmp u, .tmp v, .tmp x]) (tmps : Array Value) (P : Program) (w : World) :
    (results fn tmps).run P w = .ok (.tuple #[tmps.getD t undef, tmps.getD u undef, tmps.getD v undef, tmps.getD x undef]) w := by
  simp [results, h]
theorem results_tmp5u {fn : Func} {t u v x y : Tmp} (h : fn.results = #[.tmp t, .tmp u, .tmp v, .tmp x, .tmp y]) (tmps : Array Value) (P : Program) (w : World) :
    (results fn tmps).run P w = .ok (.tuple #[tmps.getD t undef, tmps.getD u undef, tmps.getD v undef, tmps.getD x undef, tmps.getD y undef]) w := by
  simp [results, h]

theorem torT_facts (x y : Int) (ps : List (List Cl)) : (firstT (torF x y ps)).length ≤ 1500 ∧ ∀ v ∈ firstT (torF x y ps), (Lit.int .i64 v).wf = true := by
  refine ⟨Nat.le_trans (firstT_len (torF_len x y ps)) (by decide), ?_⟩
  by_cases hok : TorOk x y ps
  · obtain ⟨⟨h1, h2, h3, h4⟩, hp⟩ := hok
    obtain ⟨W, rfl⟩ := Int.eq_ofNat_of_zero_le (show 0 ≤ x by omega)
    obtain ⟨H, rfl⟩ := Int.eq_ofNat_of_zero_le (show 0 ≤ y by omega)
    have hW : 1 ≤ W ∧ W ≤ 5 := by omega
    have hH : 1 ≤ H ∧ H ≤ 5 := by omega
    have h25 : W * H ≤ 5 * 5 := Nat.mul_le_mul hW.2 hH.2
    rw [torF_yes hW hH hp]
    intro v hv
    generalize hF : srchF (torAll W H ps) (2 ^ (W * H) - 1) (2 ^ (W * H) - 1) = F at hv
    cases F with
    | nil => exact absurd hv List.not_mem_nil
    | cons f F =>
      have hm := (torAll_mk (by omega : 0 < W) (by omega : 0 < H) ps v ((tile_dc (srchF_tile _ _ f (by rw [hF]; exact List.mem_cons_self)) (by have hpw : 2 ^ (W * H) ≤ 2 ^ 25 := Nat.pow_le_pow_right (by decide) h25; omega)).1 v hv)).mk h25
      exact Go.WalkArith.wf_i64 ⟨Int.le_trans (by decide) (Int.le_of_lt hm.1), Int.le_trans (Int.le_of_lt hm.2) (by decide)⟩
  · rw [torF_no hok]
    intro v hv
    exact absurd hv List.not_mem_nil

set_option maxRecDepth 100000 in
set_option maxHeartbeats 3200000 in
theorem drawTT_any (ad : Option Addr) (cap : Nat) (bs : List Nat) (w : World) (hn : bs.length ≤ 1048576) (hb : ∀ b ∈ bs, b < 256) (hc : CellsAt w ad (bts bs)) : TorPcsL 40 #[.slice ad bs.length cap] w := by
  have HN := l16Three_any ad cap bs w hn hb hc
  unfold TorPcs at HN
  unfold TorPcsL
  have H := Lib.hid HN
  clear hb hc HN
  go_enter Tryz.func40, Tryz.ntmps40
  go_wp2_with fail
  refine H.out.mono ?_
  rintro e w1 ⟨x, y, va, cv, ps, rfl, hx, hy, hp1, hp3, hp80, hf, hb1⟩
  have HF := Lib.hid hf
  have HP80 := Lib.hid hp80
  have HB1 := Lib.hid hb1
  have hs1 := hb1.size
  obtain ⟨va', cv', hv, hsa⟩ := hf.form
  injection hv with hv1 _ hv2
  subst hv1 hv2
  have hFT := specFT x y va cv ps w1 (by omega) (fun p h => by have := hp80 p h; omega) hsa
  unfold FoundAt at hFT
  have HFT := Lib.hid hFT
  have HFA := Lib.hid (torT_facts x y ps)
  clear hf hp80 hb1 hsa hFT
  generalize firstT (torF x y ps) = L at HFT HFA ⊢
  generalize someT (torF x y ps) = sm at HFT ⊢
  go_wp2_with fail
  refine HFT.out.mono ?_
  rintro e w2 ⟨la, cl, rfl, hol, hb2⟩
  have HF2 := Lib.hid (HF.out.below hb2)
  have HL2 := Lib.hid (ownsRow_rebase hol hs1)
  have HB2 := Lib.hid (HB1.out.trans (hb2.mono hs1))
  have hs2 := HB2.out.size
  clear hol hb2
  obtain ⟨q, hq⟩ : ∃ q, q = bs.length % 5 := ⟨_, rfl⟩
  have hm : (bs.length : Int).tmod 5 = (q : Int) := by rw [hq]; norm_cast
  clear hq
  have hb3 : Below w2.heap.size w2 (w2.alloc (.cells #[.int .i64 1, .int .i64 2] 3)) := (Below.refl _ _).alloc (Nat.le_refl _) _
  have HF3 := Lib.hid (HF2.out.below hb3)
  have HL3 := Lib.hid (World.ownsRow_lit w2 #[.int .i64 1, .int .i64 2] (e := 3) (size := 1) 2 hs2 (by decide) rfl)
  have HB3 := Lib.hid (HB2.out.trans (hb3.mono hs2))
  clear hb3
  cases sm
  · go_wp2
    ((try simp only [Exit.inBlock, Exit.then]); refine bodyPost_ret (results_tmp4u rfl _ _ _) rfl ?_)
    exact ⟨x, y, va, cv, ps, some ⟨w2.heap.size, 0, none⟩, 2, [1, 2], rfl, hx, hy, hp1, hp3, HP80.out, by decide, by decide, HF3.out, HL3.out, HB3.out⟩
  · by_cases hq0 : (0 : Int) < (q : Int)
    · have hqd : decide ((0 : Int) < (q : Int)) = true := decide_eq_true hq0
      go_wp2
      ((try simp only [Exit.inBlock, Exit.then]); refine bodyPost_ret (results_tmp4u rfl _ _ _) rfl ?_)
      exact ⟨x, y, va, cv, ps, la, cl, L, rfl, hx, hy, hp1, hp3, HP80.out, HFA.out.1, HFA.out.2, HF2.out, HL2.out, HB2.out⟩
    · have hqd : decide ((0 : Int) < (q : Int)) = false := decide_eq_false hq0
      go_wp2
      ((try simp only [Exit.inBlock, Exit.then]); refine bodyPost_ret (results_tmp4u rfl _ _ _) rfl ?_)
      exact ⟨x, y, va, cv, ps, some ⟨w2.heap.size, 0, none⟩, 2, [1, 2], rfl, hx, hy, hp1, hp3, HP80.out, by decide, by decide, HF3.out, HL3.out, HB3.out⟩

set_option maxRecDepth 100000 in
set_option maxHeartbeats 3200000 in
theorem drawTPl_any (ad : Option Addr) (cap : Nat) (bs : List Nat) (w : World) (hn : bs.length ≤ 1048576) (hb : ∀ b ∈ bs, b < 256) (hc : CellsAt w ad (bts bs)) : TorCl 55 #[.slice ad bs.length cap] w := by
  unfold TorCl
  have HD := Lib.hid (drawNew ad cap bs w hn hb hc)
  clear hn hb hc
  go_enter Tryz.func55, Tryz.ntmps55
  go_wp2_with fail
  refine HD.out.mono ?_
  rintro e w1 ⟨g, rfl, hg, hc1, hb1⟩
  have HB1 := Lib.hid hb1
  have HC1 := Lib.hid hc1
  have hs1 := hb1.size
  clear hb1 hc1
  have HS := Lib.hid (l16Sides_any g bs w1 HC1.out)
  go_wp2_with fail
  refine HS.out.mono ?_
  rintro e w2 ⟨x, y, rfl, hx, hy, hc2, hg2⟩
  have HB2 := Lib.hid (HB1.out.trans (below_grw hg2 hs1 hg))
  have HC2 := Lib.hid hc2
  have hs2 := HB2.out.size
  clear hc2 hg2
  have HO := Lib.hid (drawOnce g bs 4 w2 HC2.out (by decide))
  go_wp2_with fail
  refine HO.out.mono ?_
  rintro e w3 ⟨q, rfl, hc3, hg3⟩
  have HB3 := Lib.hid (HB2.out.trans (below_grw hg3 hs2 hg))
  have HC3 := Lib.hid hc3
  have hs3 := HB3.out.size
  clear hc3 hg3
  have HA := Lib.hid (l2Any_any g bs w3 HC3.out)
  have HP := Lib.hid (l4Piece_any g bs w3 HC3.out)
  cases q
  · go_wp2_with fail
    refine HP.out.mono ?_
    rintro e w4 ⟨a, c, l, rfl, hl, ho, hc4, hg4⟩
    have HF := Lib.hid ((far_cls ho rfl).rebase hs3)
    have HB4 := Lib.hid (HB3.out.trans (below_grw hg4 hs3 hg))
    clear ho hc4 hg4
    go_wp2
    go_ret3
    exact ⟨x, y, a, c, l, rfl, hx, hy, hl, HF.out, HB4.out⟩
  · go_wp2_with fail
    refine HA.out.mono ?_
    rintro e w4 ⟨a, c, l, rfl, hl, ho, hc4, hg4⟩
    have HF := Lib.hid (ho.rebase hs3)
    have HB4 := Lib.hid (HB3.out.trans (below_grw hg4 hs3 hg))
    clear ho hc4 hg4
    go_wp2
    go_ret3
    exact ⟨x, y, a, c, l, rfl, hx, hy, hl, HF.out, HB4.out⟩

set_option maxRecDepth 100000 in
set_option maxHeartbeats 3200000 in
theorem drawSM_any (ad : Option Addr) (cap : Nat) (bs : List Nat) (w : World) (hn : bs.length ≤ 1048576) (hb : ∀ b ∈ bs, b < 256) (hc : CellsAt w ad (bts bs)) :
    Calls Tryz.prog 56 #[.slice ad bs.length cap] w fun e w' => ∃ (x y a b c : Int), e = .returned (.tuple #[.int .i64 x, .int .i64 y, .int .i64 a, .int .i64 b, .int .i64 c]) ∧ Below w.heap.size w w' := by
  have HD := Lib.hid (drawNew ad cap bs w hn hb hc)
  clear hn hb hc
  go_enter Tryz.func56, Tryz.ntmps56
  go_wp2_with fail
  refine HD.out.mono ?_
  rintro e w1 ⟨g, rfl, hg, hc1, hb1⟩
  have HB1 := Lib.hid hb1
  have HC1 := Lib.hid hc1
  have hs1 := hb1.size
  clear hb1 hc1
  have HS := Lib.hid (l16Sides_any g bs w1 HC1.out)
  go_wp2_with fail
  refine HS.out.mono ?_
  rintro e w2 ⟨x, y, rfl, hx, hy, hc2, hg2⟩
  have HB2 := Lib.hid (HB1.out.trans (below_grw hg2 hs1 hg))
  have HC2 := Lib.hid hc2
  have hs2 := HB2.out.size
  clear hc2 hg2
  have HX := Lib.hid (fun w h => drawBelow g bs 256 w h (by decide))
  have HY := Lib.hid (fun w h => drawBelow g bs 5 w h (by decide))
  have HZ := Lib.hid (fun w h => drawBelow g bs 4 w h (by decide))
  go_wp2_with fail
  refine (HX.out _ HC2.out).mono ?_
  rintro e w3 ⟨m, rfl, hm, hc3, hg3⟩
  have HB3 := Lib.hid (HB2.out.trans (below_grw hg3 hs2 hg))
  have HC3 := Lib.hid hc3
  have hs3 := HB3.out.size
  clear hc3 hg3
  go_wp2_with fail
  refine (HY.out _ HC3.out).mono ?_
  rintro e w4 ⟨k, rfl, hk, hc4, hg4⟩
  have HB4 := Lib.hid (HB3.out.trans (below_grw hg4 hs3 hg))
  have HC4 := Lib.hid hc4
  have hs4 := HB4.out.size
  clear hc4 hg4
  obtain ⟨u, hu⟩ : ∃ u, u = IntKind.i64.wrap ((k : Int) - 1) := ⟨_, rfl⟩
  have HU := Lib.hid hu.symm
  have hu2 := HU.out
  clear hu
  go_wp2_with fail
  refine (HZ.out _ HC4.out).mono ?_
  rintro e w5 ⟨z, rfl, hz, hc5, hg5⟩
  have HB5 := Lib.hid (HB4.out.trans (below_grw hg5 hs4 hg))
  clear hc5 hg5
  go_wp2
  ((try simp only [Exit.inBlock, Exit.then]); refine bodyPost_ret (results_tmp5u rfl _ _ _) rfl ?_)
  exact ⟨x, y, m, _, z, rfl, HB5.out⟩

end Go.Proofs.YtajmdgcnnipdoaaGreatDoor
