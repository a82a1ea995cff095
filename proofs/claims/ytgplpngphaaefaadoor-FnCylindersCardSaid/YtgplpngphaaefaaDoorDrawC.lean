/- DrawC: what DrawCountCylinder, DrawCylinderCount and DrawIsLogSteady give: numbers within their bounds, a short list. -/
import Derived.Test.YtgplpngphaaefaaDoorDrawL2
import Derived.Test.YtgplpngphaaefaaDoorGrow
namespace Go.Proofs.YtgplpngphaaefaaDoor
open Go.RowKit

attribute [local go_sem ↓] Go.wp_at_zero Go.wp_at_succ

set_option maxRecDepth 100000 in
set_option maxHeartbeats 1600000 in
theorem drawSmall (ad : Option Addr) (cap : Nat) (bs : List Nat) (w : World) (hn : bs.length ≤ 1048576) (hb : ∀ b ∈ bs, b < 256) (hc : CellsAt w ad (bts bs)) :
    Calls Tryd.prog 22 #[.slice ad bs.length cap] w fun e w' => ∃ x y : Nat, e = .returned (.tuple #[.int .i64 x, .int .i64 y]) ∧ x < 5 ∧ y < 6 ∧ Below w.heap.size w w' := by
  have HD := Lib.hid (drawNew ad cap bs w hn hb hc)
  clear hn hb hc
  go_enter Tryd.func22, Tryd.ntmps22
  go_wp2_with fail
  refine HD.out.mono ?_
  rintro e w1 ⟨g, rfl, hg, hc1, hb1⟩
  have HB1 := Lib.hid hb1
  have HD1 := Lib.hid (drawBelow g bs 5 w1 hc1 (by decide))
  clear hc1 hb1
  go_wp2_with fail
  refine HD1.out.mono ?_
  rintro e w2 ⟨x, rfl, hx, hc2, hg2⟩
  have HB2 := Lib.hid (HB1.out.trans (below_grown hg2 HB1.out.size hg))
  have HD2 := Lib.hid (drawBelow g bs 6 w2 hc2 (by decide))
  clear hc2 hg2
  go_wp2_with fail
  refine HD2.out.mono ?_
  rintro e w3 ⟨y, rfl, hy, hc3, hg3⟩
  have HB3 := Lib.hid (HB2.out.trans (below_grown hg3 HB2.out.size hg))
  clear hc3 hg3
  go_wp2
  go_ret2
  exact ⟨x, y, rfl, hx, hy, HB3.out⟩

set_option maxRecDepth 100000 in
set_option maxHeartbeats 1600000 in
theorem drawBoth (ad : Option Addr) (cap : Nat) (bs : List Nat) (w : World) (hn : bs.length ≤ 1048576) (hb : ∀ b ∈ bs, b < 256) (hc : CellsAt w ad (bts bs)) :
    Calls Tryd.prog 30 #[.slice ad bs.length cap] w fun e w' => ∃ x y : Nat, e = .returned (.tuple #[.int .i64 x, .int .i64 y]) ∧ x < 6 ∧ y < 14 ∧ Below w.heap.size w w' := by
  have HD := Lib.hid (drawNew ad cap bs w hn hb hc)
  clear hn hb hc
  go_enter Tryd.func30, Tryd.ntmps30
  go_wp2_with fail
  refine HD.out.mono ?_
  rintro e w1 ⟨g, rfl, hg, hc1, hb1⟩
  have HB1 := Lib.hid hb1
  have HD1 := Lib.hid (drawBelow g bs 6 w1 hc1 (by decide))
  clear hc1 hb1
  go_wp2_with fail
  refine HD1.out.mono ?_
  rintro e w2 ⟨x, rfl, hx, hc2, hg2⟩
  have HB2 := Lib.hid (HB1.out.trans (below_grown hg2 HB1.out.size hg))
  have HD2 := Lib.hid (drawBelow g bs 14 w2 hc2 (by decide))
  clear hc2 hg2
  go_wp2_with fail
  refine HD2.out.mono ?_
  rintro e w3 ⟨y, rfl, hy, hc3, hg3⟩
  have HB3 := Lib.hid (HB2.out.trans (below_grown hg3 HB2.out.size hg))
  clear hc3 hg3
  go_wp2
  go_ret2
  exact ⟨x, y, rfl, hx, hy, HB3.out⟩

set_option maxRecDepth 100000 in
set_option maxHeartbeats 1600000 in
theorem drawCC (ad : Option Addr) (cap : Nat) (bs : List Nat) (w : World) (hn : bs.length ≤ 1048576) (hb : ∀ b ∈ bs, b < 256) (hc : CellsAt w ad (bts bs)) :
    Calls Tryd.prog 8 #[.slice ad bs.length cap] w fun e w' => ∃ x y : Nat, e = .returned (.tuple #[.int .i64 x, .int .i64 y]) ∧ x < 5 ∧ y < 6 ∧ Below w.heap.size w w' := by
  have HD := Lib.hid (drawSmall ad cap bs w hn hb hc)
  clear hn hb hc
  go_enter Tryd.func8, Tryd.ntmps8
  go_wp2_with fail
  refine HD.out.mono ?_
  rintro e w1 ⟨x, y, rfl, hx, hy, hb1⟩
  go_wp2
  go_ret2
  exact ⟨x, y, rfl, hx, hy, hb1⟩

set_option maxRecDepth 100000 in
set_option maxHeartbeats 1600000 in
theorem drawCyl (ad : Option Addr) (cap : Nat) (bs : List Nat) (w : World) (hn : bs.length ≤ 1048576) (hb : ∀ b ∈ bs, b < 256) (hc : CellsAt w ad (bts bs)) :
    Calls Tryd.prog 13 #[.slice ad bs.length cap] w fun e w' => ∃ x y : Nat, e = .returned (.tuple #[.int .i64 x, .int .i64 y]) ∧ x < 6 ∧ y < 14 ∧ Below w.heap.size w w' := by
  have HD := Lib.hid (drawBoth ad cap bs w hn hb hc)
  clear hn hb hc
  go_enter Tryd.func13, Tryd.ntmps13
  go_wp2_with fail
  refine HD.out.mono ?_
  rintro e w1 ⟨x, y, rfl, hx, hy, hb1⟩
  go_wp2
  go_ret2
  exact ⟨x, y, rfl, hx, hy, hb1⟩

set_option maxRecDepth 100000 in
set_option maxHeartbeats 1600000 in
theorem drawLog (ad : Option Addr) (cap : Nat) (bs : List Nat) (w : World) (hn : bs.length ≤ 1048576) (hb : ∀ b ∈ bs, b < 256) (hc : CellsAt w ad (bts bs)) :
    Calls Tryd.prog 17 #[.slice ad bs.length cap] w fun e w' => ∃ (a : Option Addr) (c : Nat) (xs : List Int), e = .returned (.slice a xs.length c) ∧ xs.length ≤ 15 ∧ CellsAt w' a (ints xs) ∧ Below w.heap.size w w' := by
  have HD := Lib.hid (drawNew ad cap bs w hn hb hc)
  clear hn hb hc
  go_enter Tryd.func17, Tryd.ntmps17
  go_wp2_with fail
  refine HD.out.mono ?_
  rintro e w1 ⟨g, rfl, hg, hc1, hb1⟩
  have HB1 := Lib.hid hb1
  have HD1 := Lib.hid (drawOnce g bs 2 w1 hc1 (by decide))
  clear hc1 hb1
  go_wp2_with fail
  refine HD1.out.mono ?_
  rintro e w2 ⟨b, rfl, hc2, hg2⟩
  have HC2 := Lib.hid hc2
  have HB2 := Lib.hid (HB1.out.trans (below_grown hg2 HB1.out.size hg))
  have hsz2 := HB2.out.size
  clear hg2 hc2
  cases b
  · have HL := Lib.hid (l12List_any g bs w2 HC2.out)
    go_wp2_with fail
    refine HL.out.mono ?_
    rintro e w3 ⟨a, a2, c, c2, n2, xs, rfl, hxs, ho, hg3⟩
    have HO := Lib.hid (ownsRow_cellsAt ho)
    have HB3 := Lib.hid (HB2.out.trans (below_grown hg3 hsz2 hg))
    clear ho hg3
    go_wp2
    go_ret
    exact ⟨a, c, xs, rfl, hxs, HO.out, HB3.out⟩
  · have HD2 := Lib.hid (drawBelow g bs 3 w2 HC2.out (by decide))
    go_wp2_with fail
    refine HD2.out.mono ?_
    rintro e w3 ⟨x, rfl, hx, hc3, hg3⟩
    have HB3 := Lib.hid (HB2.out.trans (below_grown hg3 hsz2 hg))
    have hsz3 := HB3.out.size
    have HG := Lib.hid (specGrow (1 + (x : Int)) 8 w3)
    have hlen := growL_length (1 + (x : Int)) 8
    clear hc3 hg3
    go_wp2_with fail
    refine HG.out.mono ?_
    rintro e w4 ⟨a, c, rfl, ho, hb4⟩
    have HO := Lib.hid (ownsRow_cellsAt ho)
    have HB4 := Lib.hid (HB3.out.trans (hb4.mono hsz3))
    clear ho hb4
    go_wp2
    go_ret
    exact ⟨a, c, growL (1 + (x : Int)) 8, rfl, by omega, HO.out, HB4.out⟩
end Go.Proofs.YtgplpngphaaefaaDoor
