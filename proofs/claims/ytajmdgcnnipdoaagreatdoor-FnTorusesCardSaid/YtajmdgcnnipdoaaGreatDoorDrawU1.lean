/- DrawU1: what the reference draws for rectangles: l13Shape and its kin. -/
import Derived.Test.YtajmdgcnnipdoaaGreatDoorAllD1
import Derived.Test.YtajmdgcnnipdoaaGreatDoorAllD2
import Derived.Test.YtajmdgcnnipdoaaGreatDoorAllD4
namespace Go.Proofs.YtajmdgcnnipdoaaGreatDoor
open Go.RowKit

attribute [local go_sem ↓] Go.wp_at_zero Go.wp_at_succ

/-- A drawn list of cells. -/
def ClDrawn (f : FuncId) (args : Array Value) (w : World) : Prop :=
  Calls Tryz.prog f args w fun e w' => ∃ (a : Option Addr) (c : Nat) (l : List Cl), e = .returned (.slice a l.length c) ∧ l.length ≤ 80 ∧ FarAt w' w.heap.size 91 a (cls l) ∧ Below w.heap.size w w'
/-- A drawn torus' sides and a list of cells. -/
def TorCl (f : FuncId) (args : Array Value) (w : World) : Prop :=
  Calls Tryz.prog f args w fun e w' => ∃ (x y : Int) (a : Option Addr) (c : Nat) (l : List Cl), e = .returned (.tuple #[.int .i64 x, .int .i64 y, .slice a l.length c]) ∧ (-1 ≤ x ∧ x ≤ 6) ∧ (1 ≤ y ∧ y ≤ 4) ∧ l.length ≤ 80 ∧ FarAt w' w.heap.size 91 a (cls l) ∧ Below w.heap.size w w'
/-- A list of cells and two numbers. -/
def ClTwo (f : FuncId) (args : Array Value) (w : World) : Prop :=
  Calls Tryz.prog f args w fun e w' => ∃ (a : Option Addr) (c : Nat) (l : List Cl) (x y : Nat), e = .returned (.tuple #[.slice a l.length c, .int .i64 x, .int .i64 y]) ∧ x < 6 ∧ y < 6 ∧ l.length ≤ 80 ∧ FarAt w' w.heap.size 91 a (cls l) ∧ Below w.heap.size w w'
/-- A drawn torus' sides and some lists of cells. -/
def TorPcs (f : FuncId) (args : Array Value) (w : World) : Prop :=
  Calls Tryz.prog f args w fun e w' => ∃ (x y : Int) (va : Option Addr) (cv : Nat) (ps : List (List Cl)), e = .returned (.tuple #[.int .i64 x, .int .i64 y, .slice va ps.length cv]) ∧ (-1 ≤ x ∧ x ≤ 6) ∧ (1 ≤ y ∧ y ≤ 4) ∧ 1 ≤ ps.length ∧ ps.length ≤ 3 ∧ (∀ p ∈ ps, p.length ≤ 80) ∧ FarShps w' w.heap.size (.slice va ps.length cv) ps ∧ Below w.heap.size w w'
/-- The same, and a list of numbers. -/
def TorPcsL (f : FuncId) (args : Array Value) (w : World) : Prop :=
  Calls Tryz.prog f args w fun e w' => ∃ (x y : Int) (va : Option Addr) (cv : Nat) (ps : List (List Cl)) (la : Option Addr) (cl : Nat) (ls : List Int), e = .returned (.tuple #[.int .i64 x, .int .i64 y, .slice va ps.length cv, .slice la ls.length cl]) ∧ (-1 ≤ x ∧ x ≤ 6) ∧ (1 ≤ y ∧ y ≤ 4) ∧ 1 ≤ ps.length ∧ ps.length ≤ 3 ∧ (∀ p ∈ ps, p.length ≤ 80) ∧
    ls.length ≤ 1500 ∧ (∀ v ∈ ls, (Lit.int .i64 v).wf = true) ∧ FarShps w' w.heap.size (.slice va ps.length cv) ps ∧ w'.ownsRow w.heap.size 3 1 (.slice la ls.length cl) ls.length (ints ls) ∧ Below w.heap.size w w'

set_option maxRecDepth 100000 in
set_option maxHeartbeats 3200000 in
theorem l13_any (ad : Option Addr) (cap : Nat) (bs : List Nat) (w : World) (hn : bs.length ≤ 1048576) (hb : ∀ b ∈ bs, b < 256) (hc : CellsAt w ad (bts bs)) : ClDrawn 78 #[.slice ad bs.length cap] w := by
  unfold ClDrawn
  have HD := Lib.hid (drawNew ad cap bs w hn hb hc)
  clear hn hb hc
  go_enter Tryz.func78, Tryz.ntmps78
  go_wp2_with fail
  refine HD.out.mono ?_
  rintro e w1 ⟨g, rfl, hg, hc1, hb1⟩
  have HB1 := Lib.hid hb1
  have HC1 := Lib.hid hc1
  have hs1 := hb1.size
  clear hb1 hc1
  have HO := Lib.hid (drawOnce g bs 3 w1 HC1.out (by decide))
  go_wp2_with fail
  refine HO.out.mono ?_
  rintro e w2 ⟨q, rfl, hc2, hg2⟩
  have HB2 := Lib.hid (HB1.out.trans (below_grw hg2 hs1 hg))
  have HC2 := Lib.hid hc2
  have hs2 := HB2.out.size
  clear hc2 hg2
  have HA := Lib.hid (l2Any_any g bs w2 HC2.out)
  have HP := Lib.hid (l4Piece_any g bs w2 HC2.out)
  cases q
  · go_wp2_with fail
    refine HP.out.mono ?_
    rintro e w3 ⟨a, c, l, rfl, hl, ho, hc3, hg3⟩
    have HF := Lib.hid ((far_cls ho rfl).rebase hs2)
    have HB3 := Lib.hid (HB2.out.trans (below_grw hg3 hs2 hg))
    clear ho hc3 hg3
    go_wp2
    go_ret
    exact ⟨a, c, l, rfl, hl, HF.out, HB3.out⟩
  · go_wp2_with fail
    refine HA.out.mono ?_
    rintro e w3 ⟨a, c, l, rfl, hl, ho, hc3, hg3⟩
    have HF := Lib.hid (ho.rebase hs2)
    have HB3 := Lib.hid (HB2.out.trans (below_grw hg3 hs2 hg))
    clear ho hc3 hg3
    go_wp2
    go_ret
    exact ⟨a, c, l, rfl, hl, HF.out, HB3.out⟩

set_option maxRecDepth 100000 in
set_option maxHeartbeats 3200000 in
theorem drawSm_any (ad : Option Addr) (cap : Nat) (bs : List Nat) (w : World) (hn : bs.length ≤ 1048576) (hb : ∀ b ∈ bs, b < 256) (hc : CellsAt w ad (bts bs)) : ClDrawn 21 #[.slice ad bs.length cap] w := by
  have HN := l13_any ad cap bs w hn hb hc
  unfold ClDrawn at HN ⊢
  have H := Lib.hid HN
  clear hn hb hc HN
  go_enter Tryz.func21, Tryz.ntmps21
  go_wp2_with fail
  refine H.out.mono ?_
  rintro e w1 ⟨a, c, l, rfl, hl, hf, hb1⟩
  have HF := Lib.hid hf
  clear hf
  go_wp2
  go_ret
  exact ⟨a, c, l, rfl, hl, HF.out, hb1⟩

set_option maxRecDepth 100000 in
set_option maxHeartbeats 3200000 in
theorem drawIR_any (ad : Option Addr) (cap : Nat) (bs : List Nat) (w : World) (hn : bs.length ≤ 1048576) (hb : ∀ b ∈ bs, b < 256) (hc : CellsAt w ad (bts bs)) : ClDrawn 34 #[.slice ad bs.length cap] w := by
  have HN := l13_any ad cap bs w hn hb hc
  unfold ClDrawn at HN ⊢
  have H := Lib.hid HN
  clear hn hb hc HN
  go_enter Tryz.func34, Tryz.ntmps34
  go_wp2_with fail
  refine H.out.mono ?_
  rintro e w1 ⟨a, c, l, rfl, hl, hf, hb1⟩
  have HF := Lib.hid hf
  clear hf
  go_wp2
  go_ret
  exact ⟨a, c, l, rfl, hl, HF.out, hb1⟩

set_option maxRecDepth 100000 in
set_option maxHeartbeats 3200000 in
theorem drawCB_any (ad : Option Addr) (cap : Nat) (bs : List Nat) (w : World) (hn : bs.length ≤ 1048576) (hb : ∀ b ∈ bs, b < 256) (hc : CellsAt w ad (bts bs)) : ClDrawn 35 #[.slice ad bs.length cap] w := by
  have HN := l13_any ad cap bs w hn hb hc
  unfold ClDrawn at HN ⊢
  have H := Lib.hid HN
  clear hn hb hc HN
  go_enter Tryz.func35, Tryz.ntmps35
  go_wp2_with fail
  refine H.out.mono ?_
  rintro e w1 ⟨a, c, l, rfl, hl, hf, hb1⟩
  have HF := Lib.hid hf
  clear hf
  go_wp2
  go_ret
  exact ⟨a, c, l, rfl, hl, HF.out, hb1⟩

set_option maxRecDepth 100000 in
set_option maxHeartbeats 3200000 in
theorem drawTP_any (ad : Option Addr) (cap : Nat) (bs : List Nat) (w : World) (hn : bs.length ≤ 1048576) (hb : ∀ b ∈ bs, b < 256) (hc : CellsAt w ad (bts bs)) : ClDrawn 52 #[.slice ad bs.length cap] w := by
  have HN := l13_any ad cap bs w hn hb hc
  unfold ClDrawn at HN ⊢
  have H := Lib.hid HN
  clear hn hb hc HN
  go_enter Tryz.func52, Tryz.ntmps52
  go_wp2_with fail
  refine H.out.mono ?_
  rintro e w1 ⟨a, c, l, rfl, hl, hf, hb1⟩
  have HF := Lib.hid hf
  clear hf
  go_wp2
  go_ret
  exact ⟨a, c, l, rfl, hl, HF.out, hb1⟩

set_option maxRecDepth 100000 in
set_option maxHeartbeats 3200000 in
theorem drawTR_any (ad : Option Addr) (cap : Nat) (bs : List Nat) (w : World) (hn : bs.length ≤ 1048576) (hb : ∀ b ∈ bs, b < 256) (hc : CellsAt w ad (bts bs)) : ClTwo 33 #[.slice ad bs.length cap] w := by
  unfold ClTwo
  have HD := Lib.hid (drawNew ad cap bs w hn hb hc)
  clear hn hb hc
  go_enter Tryz.func33, Tryz.ntmps33
  go_wp2_with fail
  refine HD.out.mono ?_
  rintro e w1 ⟨g, rfl, hg, hc1, hb1⟩
  have HB1 := Lib.hid hb1
  have HC1 := Lib.hid hc1
  have hs1 := hb1.size
  clear hb1 hc1
  have HP := Lib.hid (l4Piece_any g bs w1 HC1.out)
  go_wp2_with fail
  refine HP.out.mono ?_
  rintro e w2 ⟨a, c, l, rfl, hl, ho, hc2, hg2⟩
  have hgw := HC1.out.lt
  have HF2 := Lib.hid (far_cls ho rfl)
  have HB2 := Lib.hid (HB1.out.trans (below_grw hg2 hs1 hg))
  have HC2 := Lib.hid hc2
  have hs2 := HB2.out.size
  clear ho hc2 hg2
  have HO := Lib.hid (drawOnce g bs 6 w2 HC2.out (by decide))
  go_wp2_with fail
  refine HO.out.mono ?_
  rintro e w3 ⟨q, rfl, hc3, hg3⟩
  have HF3 := Lib.hid (HF2.out.grown hg3 hgw)
  have HB3 := Lib.hid (HB2.out.trans (below_grw hg3 hs2 hg))
  have HC3 := Lib.hid hc3
  have hs3 := HB3.out.size
  clear hc3 hg3
  have HA := Lib.hid (l2Any_any g bs w3 HC3.out)
  have HX := Lib.hid (fun w h => drawBelow g bs 6 w h (by decide))
  cases q
  · go_wp2_with fail
    refine (HX.out _ HC3.out).mono ?_
    rintro e w5 ⟨x, rfl, hx, hc5, hg5⟩
    have HF5 := Lib.hid (HF3.out.grown hg5 (by have := HC3.out.lt; omega))
    have HB5 := Lib.hid (HB3.out.trans (below_grw hg5 hs3 hg))
    have hs5 := HB5.out.size
    have HC5 := Lib.hid hc5
    clear hc5 hg5
    go_wp2_with fail
    refine (HX.out _ HC5.out).mono ?_
    rintro e w6 ⟨y, rfl, hy, hc6, hg6⟩
    have HF6 := Lib.hid (HF5.out.grown hg6 (by have := HC1.out.lt; omega))
    have HB6 := Lib.hid (HB5.out.trans (below_grw hg6 hs5 hg))
    clear hc6 hg6
    go_wp2
    go_ret3
    exact ⟨a, c, l, x, y, rfl, hx, hy, hl, HF6.out.rebase (by omega), HB6.out⟩
  · go_wp2_with fail
    refine HA.out.mono ?_
    clear hl
    rintro e w4 ⟨a, c, l, rfl, hl, ho, hc4, hg4⟩
    have HF4 := Lib.hid ho
    have HB4 := Lib.hid (HB3.out.trans (below_grw hg4 hs3 hg))
    have hs4 := HB4.out.size
    have hg43 := hg4.size
    have hgl := HC3.out.lt
    have HC4 := Lib.hid hc4
    clear ho hc4 hg4
    go_wp2_with fail
    refine (HX.out _ HC4.out).mono ?_
    rintro e w5 ⟨x, rfl, hx, hc5, hg5⟩
    have HF5 := Lib.hid (HF4.out.grown hg5 (by have := HC4.out.lt; omega))
    have HB5 := Lib.hid (HB4.out.trans (below_grw hg5 hs4 hg))
    have hs5 := HB5.out.size
    have HC5 := Lib.hid hc5
    clear hc5 hg5
    go_wp2_with fail
    refine (HX.out _ HC5.out).mono ?_
    rintro e w6 ⟨y, rfl, hy, hc6, hg6⟩
    have HF6 := Lib.hid (HF5.out.grown hg6 (by have := HC1.out.lt; omega))
    have HB6 := Lib.hid (HB5.out.trans (below_grw hg6 hs5 hg))
    clear hc6 hg6
    go_wp2
    go_ret3
    exact ⟨a, c, l, x, y, rfl, hx, hy, hl, HF6.out.rebase (by omega), HB6.out⟩

end Go.Proofs.YtajmdgcnnipdoaaGreatDoor
