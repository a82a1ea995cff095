/- DrawW2: what the drawing functions of the tiles' laws give: short lists of tiles, small numbers, fills. -/
import Derived.Test.YtdnklmdmafbogaaDoorDrawW
import Derived.Test.YtdnklmdmafbogaaDoorFindP
import Derived.Test.YtdnklmdmafbogaaDoorFind
import Derived.BigRegion
namespace Go.Proofs.YtdnklmdmafbogaaDoor
open Go.RowKit

attribute [local go_sem ↓] Go.wp_at_zero Go.wp_at_succ

def fillL (ts : List Tile) (a b : Int) : List Int := nats (findFill ts a b)
theorem fillL_length (ts : List Tile) (a b : Int) : (fillL ts a b).length = (findFill ts a b).length := nats_length _
theorem specFindX (ad : Option Addr) (c : Nat) (ts : List Tile) (a b : Int) (w : World) (hn : ts.length ≤ 1048576) (hc : CellsAt w ad (wangs ts)) :
    Calls Tryd.prog 22 #[.slice ad ts.length c, .int .i64 a, .int .i64 b] w fun e w' => ∃ ad' cap', e = .returned (.tuple #[.slice ad' (fillL ts a b).length cap', .bool (hasFill ts a b)]) ∧
      w'.ownsRow w.heap.size 3 1 (.slice ad' (fillL ts a b).length cap') (fillL ts a b).length (ints (fillL ts a b)) ∧ Below w.heap.size w w' := by
  rw [fillL_length]
  exact specFind ad c ts a b w hn hc
theorem implFindX (ad : Option Addr) (c : Nat) (ts : List Tile) (a b : Int) (w : World) (hn : ts.length ≤ 1048576) (hc : CellsAt w ad (wangs ts)) :
    Calls Tryd.prog 21 #[.slice ad ts.length c, .int .i64 a, .int .i64 b] w fun e w' => ∃ ad' cap', e = .returned (.tuple #[.slice ad' (fillL ts a b).length cap', .bool (hasFill ts a b)]) ∧
      w'.ownsRow w.heap.size 3 1 (.slice ad' (fillL ts a b).length cap') (fillL ts a b).length (ints (fillL ts a b)) ∧ Below w.heap.size w w' := by
  rw [fillL_length]
  exact implFind ad c ts a b w hn hc
theorem fillL_small (ts : List Tile) (a b : Int) : (fillL ts a b).length ≤ 16 := by
  rw [fillL_length]
  unfold findFill
  split
  · rename_i q
    obtain ⟨_, ⟨a1, a2⟩, b1, b2⟩ := q
    have hm : a.toNat * b.toNat ≤ 4 * 4 := Nat.mul_le_mul (by omega) (by omega)
    cases hF : fillsF ts a.toNat (a.toNat * b.toNat) [] with
    | nil => simp [firstOf]
    | cons g Fs =>
      have hg : g ∈ fillsF ts a.toNat (a.toNat * b.toNat) [] := by rw [hF]; simp
      have := fillsF_length ts _ _ [] g hg
      simp [firstOf]
      simp at this
      omega
  · simp
theorem specPerX (ad : Option Addr) (c : Nat) (ts : List Tile) (x : List Nat) (a h : Int) (b : Bool) (w : World) (hP : PerRes ts x a h b) (hn : ts.length ≤ 1048576) (hc : CellsAt w ad (wangs ts)) :
    Calls Tryd.prog 38 #[.slice ad ts.length c] w fun e w' => ∃ ad' cap', e = .returned (.tuple #[.slice ad' (nats x).length cap', .int .i64 a, .int .i64 h, .bool b]) ∧
      w'.ownsRow w.heap.size 3 1 (.slice ad' (nats x).length cap') (nats x).length (ints (nats x)) ∧ Below w.heap.size w w' := by
  refine (specPer ad c ts w hn hc).mono ?_
  rintro e w' ⟨a1, c1, y, a', h', b', rfl, hQ, ho, hb⟩
  obtain ⟨rfl, rfl, rfl, rfl⟩ := hQ.same hP
  rw [nats_length]
  exact ⟨a1, c1, rfl, ho, hb⟩

set_option maxRecDepth 100000 in
set_option maxHeartbeats 1600000 in
theorem drawFindPeriod (ad : Option Addr) (cap : Nat) (bs : List Nat) (w : World) (hn : bs.length ≤ 1048576) (hb : ∀ b ∈ bs, b < 256) (hc : CellsAt w ad (bts bs)) :
    Calls Tryd.prog 36 #[.slice ad bs.length cap] w fun e w' => ∃ (a : Option Addr) (c : Nat) (ts : List Tile), e = .returned (.slice a ts.length c) ∧ 1 ≤ ts.length ∧ ts.length ≤ 5 ∧ CellsAt w' a (wangs ts) ∧ Below w.heap.size w w' := by
  have HD := Lib.hid (drawNew ad cap bs w hn hb hc)
  clear hn hb hc
  go_enter Tryd.func36, Tryd.ntmps36
  go_wp2_with fail
  refine HD.out.mono ?_
  rintro e w1 ⟨g, rfl, hg, hc1, hb1⟩
  have HB1 := Lib.hid hb1
  have hs1 := hb1.size
  have hgw := hc1.lt
  have HT := Lib.hid (l18Tiles_any g bs w1 hc1)
  clear hc1 hb1
  go_wp2_with fail
  refine HT.out.mono ?_
  rintro e w2 ⟨at0, ct, ts, rfl, ht1, ht5, ho2, hc2, hg2⟩
  have HO2 := Lib.hid ho2
  have HC2 := Lib.hid hc2
  have HB2 := Lib.hid (HB1.out.trans (below_grown hg2 hs1 hg))
  have hs2 := HB2.out.size
  have hg12 := hg2.size
  clear ho2 hc2 hg2
  go_wp2
  go_ret
  exact ⟨at0, ct, ts, rfl, ht1, ht5, ownsRow_cellsAt HO2.out, HB2.out⟩

set_option maxRecDepth 100000 in
set_option maxHeartbeats 1600000 in
theorem drawRowGraph (ad : Option Addr) (cap : Nat) (bs : List Nat) (w : World) (hn : bs.length ≤ 1048576) (hb : ∀ b ∈ bs, b < 256) (hc : CellsAt w ad (bts bs)) :
    Calls Tryd.prog 46 #[.slice ad bs.length cap] w fun e w' => ∃ (a : Option Addr) (c : Nat) (ts : List Tile) (x : Nat), e = .returned (.tuple #[.slice a ts.length c, .int .i64 x]) ∧ 1 ≤ ts.length ∧ ts.length ≤ 5 ∧ x < 5 ∧ CellsAt w' a (wangs ts) ∧ Below w.heap.size w w' := by
  have HD := Lib.hid (drawNew ad cap bs w hn hb hc)
  clear hn hb hc
  go_enter Tryd.func46, Tryd.ntmps46
  go_wp2_with fail
  refine HD.out.mono ?_
  rintro e w1 ⟨g, rfl, hg, hc1, hb1⟩
  have HB1 := Lib.hid hb1
  have hs1 := hb1.size
  have hgw := hc1.lt
  have HT := Lib.hid (l18Tiles_any g bs w1 hc1)
  clear hc1 hb1
  go_wp2_with fail
  refine HT.out.mono ?_
  rintro e w2 ⟨at0, ct, ts, rfl, ht1, ht5, ho2, hc2, hg2⟩
  have HO2 := Lib.hid ho2
  have HC2 := Lib.hid hc2
  have HB2 := Lib.hid (HB1.out.trans (below_grown hg2 hs1 hg))
  have hs2 := HB2.out.size
  have hg12 := hg2.size
  clear ho2 hc2 hg2
  have HD2 := Lib.hid (drawBelow g bs 5 w2 HC2.out (by decide))
  go_wp2_with fail
  refine HD2.out.mono ?_
  rintro e w3 ⟨x, rfl, hx, hc3, hg3⟩
  have HB3 := Lib.hid (HB2.out.trans (below_grown hg3 hs2 hg))
  have HO3 := Lib.hid (own_grown HO2.out hg3 hgw)
  clear hc3 hg3
  go_wp2
  go_ret2
  exact ⟨at0, ct, ts, x, rfl, ht1, ht5, hx, ownsRow_cellsAt HO3.out, HB3.out⟩

set_option maxRecDepth 100000 in
set_option maxHeartbeats 1600000 in
theorem l18Three_any (ad : Option Addr) (cap : Nat) (bs : List Nat) (w : World) (hn : bs.length ≤ 1048576) (hb : ∀ b ∈ bs, b < 256) (hc : CellsAt w ad (bts bs)) :
    Calls Tryd.prog 56 #[.slice ad bs.length cap] w fun e w' => ∃ (a : Option Addr) (c : Nat) (ts : List Tile) (x y : Nat), e = .returned (.tuple #[.slice a ts.length c, .int .i64 x, .int .i64 y]) ∧ 1 ≤ ts.length ∧ ts.length ≤ 5 ∧ x < 6 ∧ y < 4 ∧ CellsAt w' a (wangs ts) ∧ Below w.heap.size w w' := by
  have HD := Lib.hid (drawNew ad cap bs w hn hb hc)
  clear hn hb hc
  go_enter Tryd.func56, Tryd.ntmps56
  go_wp2_with fail
  refine HD.out.mono ?_
  rintro e w1 ⟨g, rfl, hg, hc1, hb1⟩
  have HB1 := Lib.hid hb1
  have hs1 := hb1.size
  have hgw := hc1.lt
  have HT := Lib.hid (l18Tiles_any g bs w1 hc1)
  clear hc1 hb1
  go_wp2_with fail
  refine HT.out.mono ?_
  rintro e w2 ⟨at0, ct, ts, rfl, ht1, ht5, ho2, hc2, hg2⟩
  have HO2 := Lib.hid ho2
  have HC2 := Lib.hid hc2
  have HB2 := Lib.hid (HB1.out.trans (below_grown hg2 hs1 hg))
  have hs2 := HB2.out.size
  have hg12 := hg2.size
  clear ho2 hc2 hg2
  have HD2 := Lib.hid (drawBelow g bs 6 w2 HC2.out (by decide))
  go_wp2_with fail
  refine HD2.out.mono ?_
  rintro e w3 ⟨x, rfl, hx, hc3, hg3⟩
  have HB3 := Lib.hid (HB2.out.trans (below_grown hg3 hs2 hg))
  have HO3 := Lib.hid (own_grown HO2.out hg3 hgw)
  have hs3 := HB3.out.size
  have HD3 := Lib.hid (drawBelow g bs 3 w3 hc3 (by decide))
  clear hc3 hg3
  go_wp2_with fail
  refine HD3.out.mono ?_
  rintro e w4 ⟨y, rfl, hy, hc4, hg4⟩
  have HB4 := Lib.hid (HB3.out.trans (below_grown hg4 hs3 hg))
  have HO4 := Lib.hid (own_grown HO3.out hg4 hgw)
  obtain ⟨z, hz⟩ : ∃ z : Nat, z = 1 + y := ⟨_, rfl⟩
  have e1 : (1 : Int) + (y : Int) = (z : Int) := by omega
  have e2 : IntKind.i64.wrap (z : Int) = (z : Int) := IntWalk.i64_in _ (by omega)
  have hz4 : z < 4 := by omega
  clear hc4 hg4 hz
  go_wp2
  go_ret3
  exact ⟨at0, ct, ts, x, z, rfl, ht1, ht5, hx, hz4, ownsRow_cellsAt HO4.out, HB4.out⟩

set_option maxRecDepth 100000 in
set_option maxHeartbeats 1600000 in
theorem drawFindWang (ad : Option Addr) (cap : Nat) (bs : List Nat) (w : World) (hn : bs.length ≤ 1048576) (hb : ∀ b ∈ bs, b < 256) (hc : CellsAt w ad (bts bs)) :
    Calls Tryd.prog 20 #[.slice ad bs.length cap] w fun e w' => ∃ (a : Option Addr) (c : Nat) (ts : List Tile) (x y : Nat), e = .returned (.tuple #[.slice a ts.length c, .int .i64 x, .int .i64 y]) ∧ 1 ≤ ts.length ∧ ts.length ≤ 5 ∧ x < 6 ∧ y < 4 ∧ CellsAt w' a (wangs ts) ∧ Below w.heap.size w w' := by
  have HD := Lib.hid (l18Three_any ad cap bs w hn hb hc)
  clear hn hb hc
  go_enter Tryd.func20, Tryd.ntmps20
  go_wp2_with fail
  refine HD.out.mono ?_
  rintro e w1 ⟨a, c, ts, x, y, rfl, ht1, ht5, hx, hy, hc1, hb1⟩
  go_wp2
  go_ret3
  exact ⟨a, c, ts, x, y, rfl, ht1, ht5, hx, hy, hc1, hb1⟩

theorem PerRes.near {ts : List Tile} {x : List Nat} {a h : Int} {b : Bool} (q : PerRes ts x a h b) : (-100 ≤ a ∧ a ≤ 100) ∧ (-100 ≤ h ∧ h ≤ 100) := by
  rcases q with ⟨i, h1, _, _, _, _, rfl, rfl, _⟩ | ⟨_, _, rfl, rfl, _⟩
  · have e : (i / 3 + 1) / (i % 3 + 1) ≤ i / 3 + 1 := Nat.div_le_self _ _
    generalize (i / 3 + 1) / (i % 3 + 1) = d at e
    omega
  · omega

set_option maxRecDepth 100000 in
set_option maxHeartbeats 1600000 in
theorem l19Four_any (ad : Option Addr) (cap : Nat) (bs : List Nat) (w : World) (hn : bs.length ≤ 1048576) (hb : ∀ b ∈ bs, b < 256) (hc : CellsAt w ad (bts bs)) :
    Calls Tryd.prog 77 #[.slice ad bs.length cap] w fun e w' => ∃ (a : Option Addr) (c : Nat) (ts : List Tile) (x y : Int) (af : Option Addr) (cf : Nat) (xs : List Int), e = .returned (.tuple #[.slice a ts.length c, .int .i64 x, .int .i64 y, .slice af xs.length cf]) ∧ 1 ≤ ts.length ∧ ts.length ≤ 5 ∧ (-100 ≤ x ∧ x ≤ 100) ∧ (-100 ≤ y ∧ y ≤ 100) ∧ xs.length ≤ 16 ∧ xs.length ≤ cf ∧ CellsAt w' a (wangs ts) ∧ CellsAt w' af (ints xs) ∧ Below w.heap.size w w' := by
  have HD := Lib.hid (drawNew ad cap bs w hn hb hc)
  clear hn hb hc
  go_enter Tryd.func77, Tryd.ntmps77
  go_wp2_with fail
  refine HD.out.mono ?_
  rintro e w1 ⟨g, rfl, hg, hc1, hb1⟩
  have HB1 := Lib.hid hb1
  have hs1 := hb1.size
  have hgw := hc1.lt
  have HT := Lib.hid (l18Tiles_any g bs w1 hc1)
  clear hc1 hb1
  go_wp2_with fail
  refine HT.out.mono ?_
  rintro e w2 ⟨at0, ct, ts, rfl, ht1, ht5, ho2, hc2, hg2⟩
  have HO2 := Lib.hid ho2
  have HC2 := Lib.hid hc2
  have HB2 := Lib.hid (HB1.out.trans (below_grown hg2 hs1 hg))
  have hs2 := HB2.out.size
  have hg12 := hg2.size
  clear ho2 hc2 hg2
  obtain ⟨x, a, h, b, hP⟩ := PerRes.total ts
  have HP := Lib.hid (specPerX at0 ct ts x a h b w2 hP (by omega) (ownsRow_cellsAt HO2.out))
  have hxl : (nats x).length ≤ 16 := by rw [nats_length]; have := hP.length; omega
  have hnr := hP.near
  have HNR := Lib.hid hnr
  clear hP hnr
  generalize nats x = xs at HP hxl
  go_wp2_with fail
  refine HP.out.mono ?_
  rintro e w3 ⟨ax, cx, rfl, ho3, hb3⟩
  have HX3 := Lib.hid ho3
  have HO3 := Lib.hid (ownsRow_far_below HO2.out hb3 (Nat.le_refl _))
  have HC3 := Lib.hid (HC2.out.below hb3 (by omega))
  have HB3 := Lib.hid (HB2.out.trans (hb3.mono hs2))
  have hs3 := HB3.out.size
  clear ho3 hb3
  have late : ∀ w4 : World, CellsAt w4 at0 (wangs ts) → Below w.heap.size w w4 → Calls Tryd.prog 22 #[.slice at0 ts.length ct, .int .i64 2, .int .i64 2] w4 fun e w' => ∃ ad' cap', e = .returned (.tuple #[.slice ad' (fillL ts 2 2).length cap', .bool (hasFill ts 2 2)]) ∧ w'.ownsRow w4.heap.size 3 1 (.slice ad' (fillL ts 2 2).length cap') (fillL ts 2 2).length (ints (fillL ts 2 2)) ∧ Below w4.heap.size w4 w' :=
    fun w4 hc _ => specFindX at0 ct ts 2 2 w4 (by omega) hc
  have HL := Lib.hid late
  have hfl := fillL_small ts 2 2
  clear late
  generalize fillL ts 2 2 = ys at HL hfl
  generalize hasFill ts 2 2 = hb2 at HL
  cases b
  · go_wp2_with fail
    refine (HL.out _ (ownsRow_cellsAt HO3.out) HB3.out).mono ?_
    rintro e w4 ⟨ay, cy, rfl, ho4, hb4⟩
    have HO4 := Lib.hid (ownsRow_far_below HO3.out hb4 (Nat.le_refl _))
    have HY4 := Lib.hid ho4
    have HB4 := Lib.hid (HB3.out.trans (hb4.mono hs3))
    clear ho4 hb4
    go_wp2
    ((try simp only [Exit.inBlock, Exit.then]); refine bodyPost_ret (results_tmp4 rfl _ _ _) rfl ?_)
    exact ⟨at0, ct, ts, 2, 2, ay, cy, ys, rfl, ht1, ht5, by omega, by omega, hfl, row_le_cap HY4.out, ownsRow_cellsAt HO4.out, ownsRow_cellsAt HY4.out, HB4.out⟩
  · have HD2 := Lib.hid (drawOnce g bs 4 w3 HC3.out (by decide))
    go_wp2_with fail
    refine HD2.out.mono ?_
    rintro e w4 ⟨b4, rfl, hc4, hg4⟩
    have HO4 := Lib.hid (own_grown HO3.out hg4 hgw)
    have HX4 := Lib.hid (own_grown HX3.out hg4 (by omega))
    have HB4 := Lib.hid (HB3.out.trans (below_grown hg4 hs3 hg))
    have hs4 := HB4.out.size
    clear hc4 hg4
    cases b4
    · go_wp2
      ((try simp only [Exit.inBlock, Exit.then]); refine bodyPost_ret (results_tmp4 rfl _ _ _) rfl ?_)
      exact ⟨at0, ct, ts, a, h, ax, cx, xs, rfl, ht1, ht5, HNR.out.1, HNR.out.2, hxl, row_le_cap HX4.out, ownsRow_cellsAt HO4.out, ownsRow_cellsAt HX4.out, HB4.out⟩
    · go_wp2_with fail
      refine (HL.out _ (ownsRow_cellsAt HO4.out) HB4.out).mono ?_
      rintro e w5 ⟨ay, cy, rfl, ho5, hb5⟩
      have HO5 := Lib.hid (ownsRow_far_below HO4.out hb5 (Nat.le_refl _))
      have HY5 := Lib.hid ho5
      have HB5 := Lib.hid (HB4.out.trans (hb5.mono hs4))
      clear ho5 hb5
      go_wp2
      ((try simp only [Exit.inBlock, Exit.then]); refine bodyPost_ret (results_tmp4 rfl _ _ _) rfl ?_)
      exact ⟨at0, ct, ts, 2, 2, ay, cy, ys, rfl, ht1, ht5, by omega, by omega, hfl, row_le_cap HY5.out, ownsRow_cellsAt HO5.out, ownsRow_cellsAt HY5.out, HB5.out⟩

/-- Five results. -/
theorem results_tmp5 {fn : Func} {t u v x y : Tmp} (h : fn.results = #[.tmp t, .tmp u, .tmp v, .tmp x, .tmp y]) (tmps : Array Value) (P : Program) (w : World) :
    (results fn tmps).run P w = .ok (.tuple #[tmps.getD t undef, tmps.getD u undef, tmps.getD v undef, tmps.getD x undef, tmps.getD y undef]) w := by
  simp [results, h]

set_option maxRecDepth 100000 in
set_option maxHeartbeats 1600000 in
theorem drawExpand (ad : Option Addr) (cap : Nat) (bs : List Nat) (w : World) (hn : bs.length ≤ 1048576) (hb : ∀ b ∈ bs, b < 256) (hc : CellsAt w ad (bts bs)) :
    Calls Tryd.prog 42 #[.slice ad bs.length cap] w fun e w' => ∃ (a : Option Addr) (c : Nat) (ts : List Tile) (x y : Int) (af : Option Addr) (cf : Nat) (xs : List Int) (k : Nat), e = .returned (.tuple #[.slice a ts.length c, .int .i64 x, .int .i64 y, .slice af xs.length cf, .int .i64 k]) ∧ 1 ≤ ts.length ∧ ts.length ≤ 5 ∧ (-100 ≤ x ∧ x ≤ 100) ∧ (-100 ≤ y ∧ y ≤ 100) ∧ xs.length ≤ 16 ∧ xs.length ≤ cf ∧ k ≤ 4 ∧ CellsAt w' a (wangs ts) ∧ CellsAt w' af (ints xs) ∧ Below w.heap.size w w' := by
  have HD := Lib.hid (l19Four_any ad cap bs w hn hb hc)
  clear hb hc
  obtain ⟨q, hq⟩ : ∃ q : Nat, q = bs.length % 5 := ⟨_, rfl⟩
  have hq5 : q < 5 := by omega
  have hm : (bs.length : Int).tmod 5 = (q : Int) := by rw [hq]; norm_cast
  have hm2 : ((bs.length : Int) % 5) = (q : Int) := by rw [hq]; norm_cast
  clear hq
  go_enter Tryd.func42, Tryd.ntmps42
  go_wp2_with fail
  refine HD.out.mono ?_
  rintro e w1 ⟨a, c, ts, x, y, af, cf, xs, rfl, ht1, ht5, hx, hy, hl, hcap, hc1, hf1, hb1⟩
  have HC1 := Lib.hid hc1
  have HF1 := Lib.hid hf1
  have HB1 := Lib.hid hb1
  have hx' := Lib.hid hx
  have hy' := Lib.hid hy
  have hs1 := hb1.size
  clear hc1 hf1 hb1 hx hy
  obtain ⟨k, hk, hat⟩ : ∃ k : Nat, k ≤ 4 ∧ (#[Value.int .i64 1, .int .i64 2, .int .i64 0, .int .i64 4, .int .i64 3])[q]? = some (.int .i64 (k : Int)) := by
    obtain rfl | rfl | rfl | rfl | rfl : q = 0 ∨ q = 1 ∨ q = 2 ∨ q = 3 ∨ q = 4 := by omega
    · exact ⟨1, by decide, rfl⟩
    · exact ⟨2, by decide, rfl⟩
    · exact ⟨0, by decide, rfl⟩
    · exact ⟨4, by decide, rfl⟩
    · exact ⟨3, by decide, rfl⟩
  have hcell : ∀ w2 : World, (w2.alloc (.cells #[.int .i64 1, .int .i64 2, .int .i64 0, .int .i64 4, .int .i64 3] 3)).cell? ⟨w2.heap.size, q, none⟩ = some (.int .i64 (k : Int)) := fun w2 => by
    rw [cell_of_row _ _ q _ _ _ (heap_alloc_new w2 _)]
    exact hat
  have hcd := hcell w1
  have hcd2 : (w1.alloc (.cells #[.int .i64 1, .int .i64 2, .int .i64 0, .int .i64 4, .int .i64 3] 3)).drew.cell? ⟨w1.heap.size, q, none⟩ = some (.int .i64 (k : Int)) := hcd
  have hcd3 : (w1.drew.alloc (.cells #[.int .i64 1, .int .i64 2, .int .i64 0, .int .i64 4, .int .i64 3] 3)).cell? ⟨w1.heap.size, q, none⟩ = some (.int .i64 (k : Int)) := hcell w1.drew
  have HBA := Lib.hid (show Below w.heap.size w (w1.drew.alloc (.cells #[.int .i64 1, .int .i64 2, .int .i64 0, .int .i64 4, .int .i64 3] 3)) from HB1.out.drew.alloc hs1 _)
  have HCA := Lib.hid (show CellsAt (w1.drew.alloc (.cells #[.int .i64 1, .int .i64 2, .int .i64 0, .int .i64 4, .int .i64 3] 3)) a (wangs ts) from HC1.out.below ((Below.refl _ _).drew.alloc (Nat.le_refl _) _))
  have HFA := Lib.hid (show CellsAt (w1.drew.alloc (.cells #[.int .i64 1, .int .i64 2, .int .i64 0, .int .i64 4, .int .i64 3] 3)) af (ints xs) from HF1.out.below ((Below.refl _ _).drew.alloc (Nat.le_refl _) _))
  have hqi : (q : Int) < 5 := by omega
  clear hat hcell
  go_wp2
  go_region
  go_wp2
  ((try simp only [Exit.inBlock, Exit.then]); refine bodyPost_ret (results_tmp5 rfl _ _ _) rfl ?_)
  exact ⟨a, c, ts, x, y, af, cf, xs, k, rfl, ht1, ht5, hx'.out, hy'.out, hl, hcap, hk, HCA.out, HFA.out, HBA.out⟩

end Go.Proofs.YtdnklmdmafbogaaDoor
