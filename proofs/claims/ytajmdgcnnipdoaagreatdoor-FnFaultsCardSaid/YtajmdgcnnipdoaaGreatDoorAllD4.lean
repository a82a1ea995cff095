/- AllD4: parts laid together: DrawS4, DrawS5. -/
import Derived.Test.YtajmdgcnnipdoaaGreatDoorAllD2
import Derived.Test.YtajmdgcnnipdoaaGreatDoorAllCr
import Derived.Test.YtajmdgcnnipdoaaGreatDoorSpecSort
import Derived.Test.YtajmdgcnnipdoaaGreatDoorAllPut0
import Derived.Deep.Cut

/- DrawS4: l2Grow, l2Shape, l2Any: a list of cells, whichever, of bounded length. -/
namespace Go.Proofs.YtajmdgcnnipdoaaGreatDoor
open Go.RowKit

attribute [local go_sem ↓] Go.wp_at_zero Go.wp_at_succ

set_option maxRecDepth 100000 in
set_option maxHeartbeats 3200000 in
theorem l2Grow_any (g n : Nat) (bs : List Nat) (w : World) (hc : Curs w g bs) (hn1 : 1 ≤ n) (hn : n ≤ 7) :
    Calls Tryz.prog 154 #[.pointer (some ⟨g, 0, none⟩), .int .i64 n] w fun e w' => ∃ (a : Option Addr) (c : Nat) (l : List Cl), e = .returned (.slice a l.length c) ∧ 1 ≤ l.length ∧ l.length ≤ 8 ∧ w'.ownsRow w.heap.size 91 2 (.slice a l.length c) l.length (cls l) ∧ Curs w' g bs ∧ w.grownBy w' (some g) := by
  have hgw := hc.lt
  have hbA : Below w.heap.size w (w.alloc (.cells #[.int .i64 3, .int .i64 3] 91)) := (Below.refl _ _).alloc (Nat.le_refl _) _
  have HCA := Lib.hid (hc.below hbA hgw)
  have HGA := Lib.hid (grown_any (row := some g) hbA)
  have HOA := Lib.hid (World.ownsRow_lit w #[.int .i64 3, .int .i64 3] (e := 91) (size := 2) 1 (Nat.le_refl _) (by decide) rfl)
  clear hc hbA
  go_enter Tryz.func154, Tryz.ntmps154
  go_upto_region 2 with (fail)
  generalize w.alloc (.cells #[.int .i64 3, .int .i64 3] 91) = wA at HCA HGA HOA ⊢
  go_wp2
  go_loopw [5, 6] (fun v iv wr => ∃ (k : Nat) (l : List Cl), k ≤ n ∧ 1 ≤ k ∧ iv = .int .i64 k ∧ 1 ≤ l.length ∧ l.length ≤ k ∧ (∀ d ∈ l, OnB d) ∧ wr.ownsRow w.heap.size 91 2 v l.length (cls l) ∧ Curs wr g bs ∧ w.grownBy wr (some g)) (fun _ iv _ => n - (intOf iv).toNat)
  case atStart => exact ⟨1, [⟨3, 3⟩], by omega, by omega, rfl, by simp, by simp, by simp [OnB], HOA.out, HCA.out, HGA.out⟩
  case round =>
    obtain ⟨k, l, hk, hk1, rfl, hl1, hlk, hob, hown, hcr, hgr⟩ := hrel
    have HO := Lib.hid hown
    have HCR := Lib.hid hcr
    have HGR := Lib.hid hgr
    have HOB := Lib.hid hob
    have hsz : w.heap.size ≤ wr.heap.size := hgr.size
    clear hown hcr hgr hob
    by_cases hlt : k < n
    · have HD := Lib.hid (drawBelow g bs l.length wr HCR.out (by omega))
      obtain ⟨av, cv, rfl, _⟩ := ownsRow_cells HO.out
      have hd1 : decide ((k : Int) < (n : Int)) = true := decide_eq_true (by omega)
      go_wp2_with fail
      refine HD.out.mono ?_
      rintro e w2 ⟨j, rfl, hj, hc2, hg2⟩
      have HO2 := Lib.hid (own_grown HO.out hg2 hgw)
      have HG2 := Lib.hid (grownBy_trans HGR.out hg2)
      have hsz2 : w.heap.size ≤ w2.heap.size := HG2.out.size
      have HC2 := Lib.hid hc2
      obtain ⟨gb, off, rfl, hgb, hcc⟩ := cl_open (ownsRow_cellsAt HO2.out) (by omega)
      obtain ⟨x0, x1⟩ := hcc j hj
      have hin := HOB.out _ (List.getElem_mem hj)
      generalize l[j] = d at x0 x1 hin
      obtain ⟨dx, dy⟩ := d
      simp only at x0 x1
      obtain ⟨⟨d1, d2⟩, d3, d4⟩ := hin
      simp only at d1 d2 d3 d4
      have j1 : (j : Int) < (l.length : Int) := by omega
      have hbB : Below w2.heap.size w2 (w2.alloc (.cells #[.int .i64 dx, .int .i64 dy] 91)) := (Below.refl _ _).alloc (Nat.le_refl _) _
      have HOB3 := Lib.hid (ownsRow_far_below HO2.out hbB (Nat.le_refl _))
      have HGB := Lib.hid (grown_then HG2.out (hbB.mono hsz2))
      have hgw2 : g < w2.heap.size := by omega
      have HCB := Lib.hid (HC2.out.below hbB hgw2)
      have hblkB : (w2.alloc (.cells #[.int .i64 dx, .int .i64 dy] 91)).heap[w2.heap.size]? = some (.cells #[.int .i64 dx, .int .i64 dy] 91 (0, 0)) := heap_alloc_new w2 _
      have hzB : (w2.alloc (.cells #[.int .i64 dx, .int .i64 dy] 91)).heap.size = w2.heap.size + 1 := by simp
      clear hc2 hg2 hcc hbB
      go_upto_region 6 with (fail)
      generalize w2.alloc (.cells #[.int .i64 dx, .int .i64 dy] 91) = wB at HOB3 HGB HCB hblkB hzB ⊢
      have HDB := Lib.hid (drawBelow g bs 4 wB HCB.out (by decide))
      go_wp2_with fail
      refine HDB.out.mono ?_
      rintro e w3 ⟨q, rfl, hq, hc3, hg3⟩
      have hblk3 : w3.heap[w2.heap.size]? = some (.cells #[.int .i64 dx, .int .i64 dy] 91 (0, 0)) := by rw [hg3.block w2.heap.size (by omega) (fun q => by cases q; omega)]; exact hblkB
      have z0 : w3.cell? ⟨w2.heap.size, 0, none⟩ = some (.int .i64 dx) := by rw [cell_of_row w3 _ 0 _ _ _ hblk3]; rfl
      have z1 : w3.cell? ⟨w2.heap.size, 1, none⟩ = some (.int .i64 dy) := by rw [cell_of_row w3 _ 1 _ _ _ hblk3]; rfl
      obtain ⟨t1, ht1⟩ : ∃ t1, (1 - (q : Int)).tmod 2 = t1 := ⟨_, rfl⟩
      obtain ⟨t2, ht2⟩ : ∃ t2, (2 - (q : Int)).tmod 2 = t2 := ⟨_, rfl⟩
      have hgw3 : g < w3.heap.size := hc3.lt
      have hgr3 := grownBy_trans HGB.out hg3
      have hsz3 : w.heap.size ≤ w3.heap.size := hgr3.size
      have ho3 := own_grown HOB3.out hg3 hgw
      obtain ⟨X, hX⟩ : ∃ X, wrap64 (dx + t1) = X := ⟨_, rfl⟩
      obtain ⟨Y, hY⟩ : ∃ Y, wrap64 (dy + t2) = Y := ⟨_, rfl⟩
      have hbC : Below w3.heap.size w3 (w3.alloc (.cells #[.int .i64 X, .int .i64 Y] 91)) := (Below.refl _ _).alloc (Nat.le_refl _) _
      have HOC := Lib.hid (ownsRow_far_below ho3 hbC (Nat.le_refl _))
      have HGC := Lib.hid (grown_then hgr3 (hbC.mono hsz3))
      have HCC := Lib.hid (hc3.below hbC hgw3)
      have hblkC : (w3.alloc (.cells #[.int .i64 X, .int .i64 Y] 91)).heap[w3.heap.size]? = some (.cells #[.int .i64 X, .int .i64 Y] 91 (0, 0)) := heap_alloc_new w3 _
      have hzC : w.heap.size ≤ (w3.alloc (.cells #[.int .i64 X, .int .i64 Y] 91)).heap.size := by simp; omega
      clear hc3 hg3 ho3 hgr3 hbC
      go_upto_region 8 with (fail)
      rw [hX, hY]
      generalize w3.alloc (.cells #[.int .i64 X, .int .i64 Y] 91) = wC at HOC HGC HCC hblkC hzC ⊢
      have y0 : wC.cell? ⟨w3.heap.size, 0, none⟩ = some (.int .i64 X) := by rw [cell_of_row wC _ 0 _ _ _ hblkC]; rfl
      have y1 : wC.cell? ⟨w3.heap.size, 1, none⟩ = some (.int .i64 Y) := by rw [cell_of_row wC _ 1 _ _ _ hblkC]; rfl
      clear hX hY ht1 ht2 x0 x1 z0 z1 hblk3 hblkB hblkC
      have hl8 : l.length ≤ 6 := by omega
      by_cases hXi : 0 ≤ X ∧ X ≤ 7
      · have HIX := Lib.hid (l1In_yes X 0 7 wC hXi.1 hXi.2)
        by_cases hYi : 0 ≤ Y ∧ Y ≤ 7
        · have HIY := Lib.hid (l1In_yes Y 0 7 wC hYi.1 hYi.2)
          have HH := Lib.hid (fun c => specHas (some ⟨gb, off, none⟩) c l X Y wC (by omega) (ownsRow_cellsAt HOC.out))
          have HON := Lib.hid (show OnB ⟨X, Y⟩ from ⟨hXi, hYi⟩)
          generalize hasC l X Y = hb at HH
          clear hXi hYi
          go_wp2_with fail
          refine HIX.out.mono ?_
          rintro e w' ⟨rfl, rfl⟩
          go_wp2_with fail
          refine HIY.out.mono ?_
          rintro e w' ⟨rfl, rfl⟩
          go_wp2_with fail
          refine (HH.out _).mono ?_
          rintro e w' ⟨rfl, rfl⟩
          cases hb
          · go_wp2_with (at_builtin; refine wpList_app1 rfl (.tmp 56) (.tmp 58) 40 rfl w.heap.size 91 _ 2 16 Tryz.elemCl _ l.length _ _ _ _ rfl rfl rfl HOC.out (by rfl) (by simp [Value.oneCell']) (by unfold maxLen; omega) (by omega) (by omega) ?_; intro g' cap w5 q1 q2 q3 q4 q5 q6)
            go_roundw
            case rel =>
              refine ⟨k + 1, l ++ [⟨X, Y⟩], by omega, by omega, by go_num, by rw [List.length_append, List.length_singleton]; omega, by rw [List.length_append, List.length_singleton]; omega, ?_, ?_, HCC.out.below q2 hgw, grown_then HGC.out q2⟩
              · intro d hd
                rcases List.mem_append.1 hd with hd | hd
                · exact HOB.out d hd
                · rw [List.mem_singleton.1 hd]; exact HON.out
              · rw [cls_append, List.length_append, List.length_singleton]
                exact q1
            case measure => simp [intOf]; omega
          · go_wp2
            go_roundw
            case rel => exact ⟨k + 1, l, by omega, by omega, by go_num, hl1, by omega, HOB.out, HOC.out, HCC.out, HGC.out⟩
            case measure => simp [intOf]; omega
        · have HIY := Lib.hid (l1In_no Y 0 7 wC (by omega))
          clear hXi hYi
          go_wp2_with fail
          refine HIX.out.mono ?_
          rintro e w' ⟨rfl, rfl⟩
          go_wp2_with fail
          refine HIY.out.mono ?_
          rintro e w' ⟨rfl, rfl⟩
          go_wp2
          go_roundw
          case rel => exact ⟨k + 1, l, by omega, by omega, by go_num, hl1, by omega, HOB.out, HOC.out, HCC.out, HGC.out⟩
          case measure => simp [intOf]; omega
      · have HIX := Lib.hid (l1In_no X 0 7 wC (by omega))
        clear hXi
        go_wp2_with fail
        refine HIX.out.mono ?_
        rintro e w' ⟨rfl, rfl⟩
        go_wp2
        go_roundw
        case rel => exact ⟨k + 1, l, by omega, by omega, by go_num, hl1, by omega, HOB.out, HOC.out, HCC.out, HGC.out⟩
        case measure => simp [intOf]; omega
    · obtain ⟨av, cv, rfl, hcv⟩ := ownsRow_cells HO.out
      have HS := Lib.hid (specSort av cv l wr (by omega) hcv)
      have hpl : (putAllG ltC l).length ≤ l.length := putAllG_length l
      have hp1 : 1 ≤ (putAllG ltC l).length := by
        obtain ⟨d, tl, rfl⟩ : ∃ d tl, l = d :: tl := by cases l; simp at hl1; exact ⟨_, _, rfl⟩
        exact List.length_pos_of_mem ((mem_putAllG wholeC _ d).2 List.mem_cons_self)
      have hmb : ∀ d ∈ putAllG ltC l, (-1000 ≤ d.x ∧ d.x ≤ 1000) ∧ -1000 ≤ d.y ∧ d.y ≤ 1000 := fun d hd => by
        obtain ⟨⟨h1, h2⟩, h3, h4⟩ := HOB.out d ((mem_putAllG wholeC l d).1 hd)
        omega
      have HMB := Lib.hid hmb
      clear hcv hmb
      generalize putAllG ltC l = m at HS hpl hp1 HMB
      go_wp2_with fail
      refine HS.out.mono ?_
      rintro e w2 ⟨a2, c2, rfl, ho2, hb2⟩
      have HG2 := Lib.hid (grown_then HGR.out (hb2.mono hsz))
      have HC2 := Lib.hid (HCR.out.below hb2 (by omega))
      have hsz2 : w.heap.size ≤ w2.heap.size := HG2.out.size
      have HK := Lib.hid (specCorner a2 c2 m w2 (by omega) HMB.out (ownsRow_cellsAt ho2))
      have hcl8 : (cornL m).length ≤ 8 := by rw [cornL_length]; omega
      have hcl1 : 1 ≤ (cornL m).length := by rw [cornL_length]; exact hp1
      clear ho2 hb2
      generalize cornL m = r at HK hcl8 hcl1
      go_wp2_with fail
      refine HK.out.mono ?_
      rintro e w3 ⟨a3, c3, rfl, ho3, hb3⟩
      have HG3 := Lib.hid (grown_then HG2.out (hb3.mono hsz2))
      have HC3 := Lib.hid (HC2.out.below hb3 (by omega))
      have HO3 := Lib.hid (ownsRow_rebase ho3 hsz2)
      clear ho3 hb3
      go_wp2
      go_ret
      exact ⟨a3, c3, r, rfl, hcl1, hcl8, HO3.out, HC3.out, HG3.out⟩

set_option maxRecDepth 100000 in
set_option maxHeartbeats 1600000 in
theorem l2Shape_any (g : Nat) (bs : List Nat) (w : World) (hc : Curs w g bs) :
    Calls Tryz.prog 131 #[.pointer (some ⟨g, 0, none⟩)] w fun e w' => ∃ (a : Option Addr) (c : Nat) (l : List Cl), e = .returned (.slice a l.length c) ∧ 1 ≤ l.length ∧ l.length ≤ 8 ∧ w'.ownsRow w.heap.size 91 2 (.slice a l.length c) l.length (cls l) ∧ Curs w' g bs ∧ w.grownBy w' (some g) := by
  have hgw := hc.lt
  have HD := Lib.hid (drawBelow g bs 7 w hc (by decide))
  clear hc
  go_enter Tryz.func131, Tryz.ntmps131
  go_wp2_with fail
  refine HD.out.mono ?_
  rintro e w1 ⟨x, rfl, hx, hc1, hg1⟩
  have HG1 := Lib.hid hg1
  have hsz1 := hg1.size
  obtain ⟨n, hn⟩ : ∃ n : Nat, n = 1 + x := ⟨_, rfl⟩
  have e1 : (1 : Int) + (x : Int) = (n : Int) := by omega
  have e2 : IntKind.i64.wrap (n : Int) = (n : Int) := IntWalk.i64_in _ (by omega)
  have HG := Lib.hid (l2Grow_any g n bs w1 hc1 (by omega) (by omega))
  clear hc1 hg1 hn
  go_wp2_with fail
  refine HG.out.mono ?_
  rintro e w2 ⟨a, c, l, rfl, hl1, hl8, ho, hc2, hg2⟩
  have HO := Lib.hid (ownsRow_rebase ho hsz1)
  have HC2 := Lib.hid hc2
  have HG2 := Lib.hid (grownBy_trans HG1.out hg2)
  clear ho hc2 hg2
  go_wp2
  go_ret
  exact ⟨a, c, l, rfl, hl1, hl8, HO.out, HC2.out, HG2.out⟩

/-- Values that lie behind the address, in a block of the type, from the base on. -/
def FarAt (w : World) (base e : Nat) (a : Option Addr) (cs : List Value) : Prop := cs = [] ∨ ∃ b off arr f, a = some ⟨b, off, none⟩ ∧ base ≤ b ∧ w.heap[b]? = some (.cells arr e f) ∧ ∀ j u, cs[j]? = some u → w.cell? ⟨b, off + j, none⟩ = some u
theorem FarAt.of {w : World} {base e size n c : Nat} {a : Option Addr} {cs : List Value} (h : w.ownsRow base e size (.slice a n c) n cs) (hp : 0 < cs.length → 0 < n) : FarAt w base e a cs := by
  rcases Nat.eq_zero_or_pos cs.length with q | q
  · exact .inl (List.eq_nil_of_length_eq_zero q)
  · have hn := hp q
    have hl := h.1
    rcases h.2 with ⟨hv, _⟩ | ⟨g, c', cur, hv, hb, hblk, _⟩
    · injection hv with _ h2 _
      omega
    · injection hv with h1 _ _
      subst h1
      exact .inr ⟨g, 0, cur, (0, 0), rfl, hb, hblk, fun j u hu => by rw [Nat.zero_add, h.cellAt j (by rw [← hl]; exact (List.getElem?_eq_some_iff.1 hu).1)]; exact hu⟩
theorem FarAt.cells {w : World} {base e : Nat} {a : Option Addr} {cs : List Value} (h : FarAt w base e a cs) : CellsAt w a cs := by
  rcases h with h | ⟨b, off, _, _, h1, _, _, h4⟩
  · exact .inl h
  · exact .inr ⟨b, off, h1, h4⟩
theorem FarAt.to {w w' : World} {base e : Nat} {a : Option Addr} {cs : List Value} (h : FarAt w base e a cs) (hb : ∀ k arr f, base ≤ k → w.heap[k]? = some (.cells arr e f) → w'.heap[k]? = w.heap[k]?) : FarAt w' base e a cs := by
  rcases h with h | ⟨b, off, arr, f, h1, h2, h3, h4⟩
  · exact .inl h
  · have hk := hb b arr f h2 h3
    exact .inr ⟨b, off, arr, f, h1, h2, hk.trans h3, fun j u hu => by rw [World.cell?_of_block (w := w) hk]; exact h4 j u hu⟩
theorem FarAt.below {w w' : World} {base e : Nat} {a : Option Addr} {cs : List Value} (h : FarAt w base e a cs) (hb : Below w.heap.size w w') : FarAt w' base e a cs := h.to fun k _ _ _ hk => hb.block k (lt_of_block hk)
theorem FarAt.grown {w w' : World} {base e g : Nat} {a : Option Addr} {cs : List Value} (h : FarAt w base e a cs) (hg : w.grownBy w' (some g)) (hlt : g < base) : FarAt w' base e a cs :=
  h.to fun k _ _ hk hk2 => hg.block k (lt_of_block hk2) fun q => by cases q; omega
theorem FarAt.rebase {w : World} {base base' e : Nat} {a : Option Addr} {cs : List Value} (h : FarAt w base e a cs) (hb : base' ≤ base) : FarAt w base' e a cs := by
  rcases h with h | ⟨b, off, arr, f, h1, h2, h3, h4⟩
  · exact .inl h
  · exact .inr ⟨b, off, arr, f, h1, by omega, h3, h4⟩
/-- Behind a change to an owned row of another type. -/
theorem FarAt.other {w w' : World} {base e b e' size n : Nat} {v : Value} {a : Option Addr} {cs xs : List Value} (h : FarAt w base e a cs) (ho : w.ownsRow b e' size v n xs) (hg : w.grownBy w' v.ownBlock) (he : e ≠ e') : FarAt w' base e a cs := by
  refine h.to fun k arr f _ hk => hg.block k (lt_of_block hk) fun q => ?_
  rcases ho.2 with ⟨rfl, _⟩ | ⟨g, c, cur, rfl, _, hblk, _⟩
  · simp [Value.ownBlock] at q
  · obtain rfl : k = g := by simpa [Value.ownBlock] using q
    rw [hk] at hblk
    simp only [Option.some.injEq, Obj.cells.injEq] at hblk
    exact he hblk.2.1
theorem far_cls {w : World} {base n c : Nat} {a : Option Addr} {l : List Cl} (h : w.ownsRow base 91 2 (.slice a n c) n (cls l)) (hn : n = l.length) : FarAt w base 91 a (cls l) := FarAt.of h fun q => by rw [cls_length] at q; omega
theorem cls_top (d : Cl) (l : List Cl) (z : Int) : (cls (d :: l)).set 0 (.int .i64 z) = cls (⟨z, d.y⟩ :: l) := rfl

set_option maxRecDepth 100000 in
set_option maxHeartbeats 3200000 in
theorem l2Any_any (g : Nat) (bs : List Nat) (w : World) (hc : Curs w g bs) :
    Calls Tryz.prog 89 #[.pointer (some ⟨g, 0, none⟩)] w fun e w' => ∃ (a : Option Addr) (c : Nat) (l : List Cl), e = .returned (.slice a l.length c) ∧ l.length ≤ 80 ∧ FarAt w' w.heap.size 91 a (cls l) ∧ Curs w' g bs ∧ w.grownBy w' (some g) := by
  have hgw := hc.lt
  have HS := Lib.hid (l2Shape_any g bs w hc)
  clear hc
  go_enter Tryz.func89, Tryz.ntmps89
  go_wp2_with fail
  refine HS.out.mono ?_
  rintro e w1 ⟨a, c, l, rfl, hl1, hl8, ho1, hc1, hg1⟩
  have HO1 := Lib.hid ho1
  have HG1 := Lib.hid hg1
  have HD := Lib.hid (drawBelow g bs 12 w1 hc1 (by decide))
  clear ho1 hc1 hg1
  go_wp2_with fail
  refine HD.out.mono ?_
  rintro e w2 ⟨md, rfl, hmd, hc2, hg2⟩
  have HO2 := Lib.hid (own_grown HO1.out hg2 hgw)
  have HC2 := Lib.hid hc2
  have HG2 := Lib.hid (grownBy_trans HG1.out hg2)
  have hsz2 : w.heap.size ≤ w2.heap.size := HG2.out.size
  clear hc2 hg2 HO1 HG1
  obtain rfl | rfl | rfl | rfl | h4 : md = 0 ∨ md = 1 ∨ md = 2 ∨ md = 3 ∨ (4 ≤ md ∧ md < 12) := by omega
  · have HD2 := Lib.hid (drawBelow g bs 9 w2 HC2.out (by decide))
    go_wp2_with fail
    refine HD2.out.mono ?_
    rintro e w3 ⟨x, rfl, hx, hc3, hg3⟩
    have HO3 := Lib.hid (own_grown HO2.out hg3 hgw)
    have HG3 := Lib.hid (grownBy_trans HG2.out hg3)
    have HD3 := Lib.hid (drawBelow g bs 9 w3 hc3 (by decide))
    clear hc3 hg3
    go_wp2_with fail
    refine HD3.out.mono ?_
    rintro e w4 ⟨y, rfl, hy, hc4, hg4⟩
    have HO4 := Lib.hid (own_grown HO3.out hg4 hgw)
    have HG4 := Lib.hid (grownBy_trans HG3.out hg4)
    have HC4 := Lib.hid hc4
    have hsz4 : w.heap.size ≤ w4.heap.size := HG4.out.size
    clear hc4 hg4
    go_wp2_with (at_builtin; refine wpList_app1 rfl (.tmp 10) (.tmp 17) 40 rfl w.heap.size 91 _ 2 16 Tryz.elemCl _ l.length _ _ _ _ rfl rfl rfl HO4.out (by rfl) (by simp [Value.oneCell']) (by unfold maxLen; omega) (by omega) (by omega) ?_; intro g' cap w5 q1 q2 q3 q4 q5 q6)
    go_ret
    refine ⟨_, _, l ++ [⟨(x : Int) - 1, (y : Int)⟩], by rw [List.length_append, List.length_singleton]; rfl, by rw [List.length_append, List.length_singleton]; omega, ?_, HC4.out.below q2 hgw, grown_then HG4.out q2⟩
    refine far_cls (n := l.length + 1) (c := cap) ?_ (by rw [List.length_append, List.length_singleton])
    rw [cls_append]
    exact q1
  · have HD2 := Lib.hid (drawBelow g bs 8 w2 HC2.out (by decide))
    go_wp2_with fail
    refine HD2.out.mono ?_
    rintro e w3 ⟨x, rfl, hx, hc3, hg3⟩
    have HO3 := Lib.hid (own_grown HO2.out hg3 hgw)
    have HG3 := Lib.hid (grownBy_trans HG2.out hg3)
    have HD3 := Lib.hid (drawBelow g bs 8 w3 hc3 (by decide))
    clear hc3 hg3
    go_wp2_with fail
    refine HD3.out.mono ?_
    rintro e w4 ⟨y, rfl, hy, hc4, hg4⟩
    have HO4 := Lib.hid (own_grown HO3.out hg4 hgw)
    have HG4 := Lib.hid (grownBy_trans HG3.out hg4)
    have HC4 := Lib.hid hc4
    have hsz4 : w.heap.size ≤ w4.heap.size := HG4.out.size
    clear hc4 hg4
    go_wp2_with (at_builtin; refine wpList_app1 rfl (.tmp 21) (.tmp 27) 40 rfl w.heap.size 91 _ 2 16 Tryz.elemCl _ l.length _ _ _ _ rfl rfl rfl HO4.out (by rfl) (by simp [Value.oneCell']) (by unfold maxLen; omega) (by omega) (by omega) ?_; intro g' cap w5 q1 q2 q3 q4 q5 q6)
    have HG5 := Lib.hid (grown_then HG4.out q2)
    have HC5 := Lib.hid (HC4.out.below q2 hgw)
    have hsz5 : w.heap.size ≤ w5.heap.size := HG5.out.size
    have hq1 : w5.ownsRow w.heap.size 91 2 (.slice (some ⟨g', 0, none⟩) (l ++ [(⟨(x : Int), (y : Int)⟩ : Cl)]).length cap) (l ++ [(⟨(x : Int), (y : Int)⟩ : Cl)]).length (cls (l ++ [(⟨(x : Int), (y : Int)⟩ : Cl)])) := by
      rw [cls_append, List.length_append, List.length_singleton]
      exact q1
    have hs9 : (l ++ [(⟨(x : Int), (y : Int)⟩ : Cl)]).length ≤ 9 := by rw [List.length_append, List.length_singleton]; omega
    have hs := specSort (some ⟨g', 0, none⟩) cap (l ++ [(⟨(x : Int), (y : Int)⟩ : Cl)]) w5 (by omega) (ownsRow_cellsAt hq1)
    rw [show (l ++ [(⟨(x : Int), (y : Int)⟩ : Cl)]).length = l.length + 1 from by rw [List.length_append, List.length_singleton]] at hs
    have hpl : (putAllG ltC (l ++ [(⟨(x : Int), (y : Int)⟩ : Cl)])).length ≤ (l ++ [(⟨(x : Int), (y : Int)⟩ : Cl)]).length := putAllG_length _
    have hpl9 : (putAllG ltC (l ++ [(⟨(x : Int), (y : Int)⟩ : Cl)])).length ≤ 9 := by omega
    generalize putAllG ltC (l ++ [(⟨(x : Int), (y : Int)⟩ : Cl)]) = m at hs hpl9
    have HSS := Lib.hid hs
    clear hs hpl hs9 hq1 q1 q2 q3 q4 q5 q6
    refine HSS.out.mono ?_
    rintro e w6 ⟨a6, c6, rfl, ho6, hb6⟩
    have HO6 := Lib.hid (ownsRow_rebase ho6 hsz5)
    have HG6 := Lib.hid (grown_then HG5.out (hb6.mono hsz5))
    have HC6 := Lib.hid (HC5.out.below hb6 (by omega))
    clear ho6 hb6
    go_wp2
    go_ret
    exact ⟨a6, c6, m, rfl, by omega, far_cls HO6.out rfl, HC6.out, HG6.out⟩
  · obtain ⟨gb, rfl⟩ : ∃ gb, a = some ⟨gb, 0, none⟩ := by
      obtain ⟨gb, c', hv, _, _⟩ := HO2.out.form (by omega)
      injection hv with h1 _ _
      exact ⟨gb, h1⟩
    have hgb := HO2.out.lt gb rfl
    have hcap := ownsRow_le_cap HO2.out
    obtain ⟨d, tl, rfl⟩ : ∃ d tl, l = d :: tl := by
      cases l
      · exact absurd hl1 (by simp)
      · exact ⟨_, _, rfl⟩
    have hce := HO2.out.cellAt
    have htl : (d :: tl).length - 1 = tl.length := by simp
    have htl8 : tl.length ≤ 8 := by rw [List.length_cons] at hl8; omega
    have hgl : gb < w2.heap.size := hgb.2
    have hfar : FarAt w2 w.heap.size 91 (some ⟨gb, 2, none⟩) (cls tl) := by
      rcases HO2.out.2 with ⟨hv, _⟩ | ⟨g', c', cur, hv, hb, hblk, _⟩
      · injection hv with h1 _ _; cases h1
      · injection hv with h1 _ _
        injection h1 with h2
        injection h2 with h3
        subst h3
        refine .inr ⟨gb, 2, cur, (0, 0), rfl, hb, hblk, fun j u hu => ?_⟩
        have hj : j < (cls tl).length := (List.getElem?_eq_some_iff.1 hu).1
        rw [hce (2 + j) (by rw [cls_length] at hj; simp; omega), show cls (d :: tl) = d.cells ++ cls tl from rfl, List.getElem?_append_right (by simp [Cl.cells])]
        rw [show 2 + j - d.cells.length = j from by simp [Cl.cells]]
        exact hu
    have HFAR := Lib.hid hfar
    have HNIL := Lib.hid (fun (q : c = 1) => (by rw [q, List.length_cons] at hcap; exact List.eq_nil_of_length_eq_zero (by omega) : tl = []))
    have hc1 : 1 ≤ c := by rw [List.length_cons] at hcap; omega
    clear hce hfar
    by_cases hcc : c = 1
    · obtain rfl := HNIL.out hcc
      subst hcc
      go_wp2
      go_ret
      exact ⟨_, _, [], rfl, by simp, .inl rfl, HC2.out, HG2.out⟩
    · go_wp2
      go_ret
      exact ⟨some ⟨gb, 2, none⟩, c - 1, tl, by simp, by omega, HFAR.out, HC2.out, HG2.out⟩
  · have hb4 : Below w2.heap.size w2 (w2.alloc (.cells #[.int .i64 (-1), .int .i64 8, .int .i64 9223372036854775807] 3)) := (Below.refl _ _).alloc (Nat.le_refl _) _
    have HC4 := Lib.hid (HC2.out.below hb4 HC2.out.lt)
    have HO4 := Lib.hid (ownsRow_far_below HO2.out hb4 (Nat.le_refl _))
    have HG4 := Lib.hid (grown_then HG2.out (hb4.mono hsz2))
    have HL4 := Lib.hid (cells_lit (w := w2) (vs := ints [-1, 8, 9223372036854775807]) (e := 3) (heap_alloc_new w2 (.cells #[.int .i64 (-1), .int .i64 8, .int .i64 9223372036854775807] 3)))
    have hgl2 := HC2.out.lt
    have HP := Lib.hid (fun c => pickInt_any g bs (some ⟨w2.heap.size, 0, none⟩) c [-1, 8, 9223372036854775807] _ HC4.out (by decide) HL4.out (fun a q => by cases q; show w2.heap.size ≠ g; omega))
    clear hb4
    go_wp2_with fail
    refine (HP.out _).mono ?_
    rintro e w5 ⟨z5, rfl, _, hc5, hg5⟩
    have HC5 := Lib.hid hc5
    have HG5 := Lib.hid (grownBy_trans HG4.out hg5)
    have HO5 := Lib.hid (own_grown HO4.out hg5 hgw)
    clear hc5 hg5 HC4 HO4 HG4 HL4 HP HO2 HC2 HG2
    obtain ⟨gb, rfl⟩ : ∃ gb, a = some ⟨gb, 0, none⟩ := by
      obtain ⟨gb, c', hv, _, _⟩ := HO5.out.form (by omega)
      injection hv with h1 _ _
      exact ⟨gb, h1⟩
    have hgb := HO5.out.lt gb rfl
    obtain ⟨us, hus, hset⟩ : ∃ us : List Cl, us.length = l.length ∧ (cls l).set 0 (.int .i64 z5) = cls us := by
      cases l with
      | nil => exact absurd hl1 (by simp)
      | cons d tl => exact ⟨⟨z5, d.y⟩ :: tl, rfl, rfl⟩
    obtain ⟨s1, s2⟩ := HO5.out.stored 0 (.int .i64 z5)
    rw [hset] at s1
    have hb6 : Below w.heap.size w5 (w5.setCell ⟨gb, 0, none⟩ (.int .i64 z5)) := (Below.refl _ _).grown s2 (by have := hgb.1; have := hgb.2; omega) (fun k hk => by cases hk; exact hgb.1)
    have HC6 := Lib.hid (HC5.out.below hb6 hgw)
    have HG6 := Lib.hid (grown_then HG5.out hb6)
    have HF6 := Lib.hid (far_cls s1 hus.symm)
    have HUS := Lib.hid hus
    have hfz : w5.frozen? ⟨gb, 0, none⟩ = false := HO5.out.frozenAt 0
    have hce : ∃ u, w5.cell? ⟨gb, 0, none⟩ = some u := by
      rw [HO5.out.cellAt 0 (by omega)]
      exact ⟨_, by rw [List.getElem?_eq_getElem (by rw [cls_length]; omega)]⟩
    obtain ⟨u0, hu0⟩ := hce
    have hp1 : (0 : Int) < (l.length : Int) := by omega
    clear s1 s2 hset hb6 hus
    go_wp2
    go_ret
    exact ⟨some ⟨gb, 0, none⟩, c, us, by rw [HUS.out]; rfl, by rw [HUS.out]; omega, HF6.out, HC6.out, HG6.out⟩
  · have n0 : ((md : Int) == 0) = false := by simp; omega
    have n1 : ((md : Int) == 1) = false := by simp; omega
    have n2 : ((md : Int) == 2) = false := by simp; omega
    have n3 : ((md : Int) == 3) = false := by simp; omega
    go_wp2
    go_ret
    exact ⟨a, c, l, rfl, by omega, far_cls HO2.out rfl, HC2.out, HG2.out⟩
end Go.Proofs.YtajmdgcnnipdoaaGreatDoor

/- DrawS5: l7Pieces: one to three lists of cells. -/
namespace Go.Proofs.YtajmdgcnnipdoaaGreatDoor
open Go.RowKit

attribute [local go_sem ↓] Go.wp_at_zero Go.wp_at_succ

/-- Some lists of cells, in a row of the call's own. -/
def FarShps (w : World) (base : Nat) (v : Value) (ps : List (List Cl)) : Prop :=
  ∃ vs, w.ownsRow base 40 1 v ps.length vs ∧ All2 (fun v x => ∃ ai ci, v = .slice ai x.length ci ∧ FarAt w base 91 ai (cls x)) vs ps
theorem FarShps.grown {w w' : World} {base g : Nat} {v : Value} {ps : List (List Cl)} (h : FarShps w base v ps) (hg : w.grownBy w' (some g)) (hlt : g < base) : FarShps w' base v ps := by
  obtain ⟨vs, h1, h2⟩ := h
  exact ⟨vs, own_grown h1 hg hlt, All2.imp (fun _ _ ⟨ai, ci, q1, q2⟩ => ⟨ai, ci, q1, q2.grown hg hlt⟩) h2⟩
theorem FarShps.below {w w' : World} {base : Nat} {v : Value} {ps : List (List Cl)} (h : FarShps w base v ps) (hb : Below w.heap.size w w') : FarShps w' base v ps := by
  obtain ⟨vs, h1, h2⟩ := h
  exact ⟨vs, ownsRow_far_below h1 hb (Nat.le_refl _), All2.imp (fun _ _ ⟨ai, ci, q1, q2⟩ => ⟨ai, ci, q1, q2.below hb⟩) h2⟩
theorem FarShps.rebase {w : World} {base base' : Nat} {v : Value} {ps : List (List Cl)} (h : FarShps w base v ps) (hb : base' ≤ base) : FarShps w base' v ps := by
  obtain ⟨vs, h1, h2⟩ := h
  exact ⟨vs, ownsRow_rebase h1 hb, All2.imp (fun _ _ ⟨ai, ci, q1, q2⟩ => ⟨ai, ci, q1, q2.rebase hb⟩) h2⟩
theorem FarShps.form {w : World} {base : Nat} {v : Value} {ps : List (List Cl)} (h : FarShps w base v ps) : ∃ a c, v = .slice a ps.length c ∧ ShpsAt w a ps := by
  obtain ⟨vs, h1, h2⟩ := h
  obtain ⟨a, c, rfl, hc⟩ := ownsRow_cells h1
  exact ⟨a, c, rfl, vs, hc, All2.imp (fun _ _ ⟨ai, ci, q1, q2⟩ => ⟨ai, ci, q1, q2.cells⟩) h2⟩
/-- One more, behind an append. -/
theorem FarShps.snoc {w w' : World} {base : Nat} {v v' : Value} {ps : List (List Cl)} {vs : List Value} {ai : Option Addr} {ci : Nat} {x : List Cl} (h1 : w.ownsRow base 40 1 v ps.length vs)
    (h2 : All2 (fun v x => ∃ ai ci, v = .slice ai x.length ci ∧ FarAt w base 91 ai (cls x)) vs ps) (hx : FarAt w base 91 ai (cls x)) (hg : w.grownBy w' v.ownBlock)
    (ho : w'.ownsRow base 40 1 v' (ps.length + 1) (vs ++ [.slice ai x.length ci])) : FarShps w' base v' (ps ++ [x]) := by
  refine ⟨vs ++ [.slice ai x.length ci], by rw [List.length_append, List.length_singleton]; exact ho, All2.append (All2.imp (fun _ _ ⟨ai, ci, q1, q2⟩ => ⟨ai, ci, q1, q2.other h1 hg (by decide)⟩) h2) ⟨⟨ai, ci, rfl, hx.other h1 hg (by decide)⟩, trivial⟩⟩

set_option maxRecDepth 100000 in
set_option maxHeartbeats 3200000 in
theorem l7Pieces_any (g : Nat) (bs : List Nat) (w : World) (hc : Curs w g bs) :
    Calls Tryz.prog 117 #[.pointer (some ⟨g, 0, none⟩)] w fun e w' => ∃ v : Value, e = .returned v ∧ ∃ ps : List (List Cl), 1 ≤ ps.length ∧ ps.length ≤ 3 ∧ (∀ p ∈ ps, p.length ≤ 80) ∧ FarShps w' w.heap.size v ps ∧ Curs w' g bs ∧ w.grownBy w' (some g) := by
  have hgw := hc.lt
  have HP := Lib.hid (l4Piece_any g bs w hc)
  clear hc
  go_enter Tryz.func117, Tryz.ntmps117
  go_wp2_with fail
  refine HP.out.mono ?_
  rintro e w1 ⟨a, c, l, rfl, hl, ho1, hc1, hg1⟩
  have hsz1 := hg1.size
  have hb2 : Below w1.heap.size w1 (w1.alloc (.cells #[.slice a l.length c] 40)) := (Below.refl _ _).alloc (Nat.le_refl _) _
  have HF2 := Lib.hid (show FarShps (w1.alloc (.cells #[.slice a l.length c] 40)) w.heap.size (.slice (some ⟨w1.heap.size, 0, none⟩) 1 1) [l] from ⟨[.slice a l.length c], World.ownsRow_lit w1 #[.slice a l.length c] 1 hsz1 (by decide) rfl, ⟨a, c, rfl, (far_cls ho1 rfl).below hb2⟩, trivial⟩)
  have HC2 := Lib.hid (hc1.below hb2 hc1.lt)
  have HG2 := Lib.hid (grown_then hg1 (hb2.mono hsz1))
  have HLL := Lib.hid (show ∀ p ∈ [l], p.length ≤ 80 from fun p hp => by rw [List.mem_singleton.1 hp]; exact hl)
  have hll : [l].length = 1 := rfl
  clear ho1 hc1 hg1 hb2
  go_upto_region 2 with (fail)
  generalize w1.alloc (.cells #[.slice a l.length c] 40) = w2 at HF2 HC2 HG2 ⊢
  have HD := Lib.hid (drawOnce g bs 3 w2 HC2.out (by decide))
  have stage : ∃ v2 : Value, v2 = .slice (some ⟨w1.heap.size, 0, none⟩) 1 1 := ⟨_, rfl⟩
  go_wp2_with fail
  refine HD.out.mono ?_
  rintro e w3 ⟨b, rfl, hc3, hg3⟩
  have HF3 := Lib.hid (HF2.out.grown hg3 hgw)
  have HC3 := Lib.hid hc3
  have HG3 := Lib.hid (grownBy_trans HG2.out hg3)
  clear hc3 hg3 HF2 HC2 HG2 stage
  cases b
  · have HD4 := Lib.hid (drawOnce g bs 20 w3 HC3.out (by decide))
    go_wp2_with fail
    refine HD4.out.mono ?_
    rintro e w7 ⟨b7, rfl, hc7, hg7⟩
    have HF7 := Lib.hid (HF3.out.grown hg7 hgw)
    have HC7 := Lib.hid hc7
    have HG7 := Lib.hid (grownBy_trans HG3.out hg7)
    clear hc7 hg7
    cases b7
    · go_wp2
      go_ret
      exact ⟨_, rfl, [l], by simp, by simp, HLL.out, HF7.out, HC7.out, HG7.out⟩
    · have HA := Lib.hid (l2Any_any g bs w7 HC7.out)
      go_wp2_with fail
      refine HA.out.mono ?_
      rintro e w8 ⟨a8, c8, l8, rfl, hl8, hf8, hc8, hg8⟩
      have hsz7 := HG7.out.size
      obtain ⟨vs, q1v, q2v⟩ := HF7.out.grown hg8 hgw
      have HX := Lib.hid (hf8.rebase hsz7)
      have HV := Lib.hid q1v
      have HV2 := Lib.hid q2v
      have HC8 := Lib.hid hc8
      have HG8 := Lib.hid (grownBy_trans HG7.out hg8)
      have hsz8 : w.heap.size ≤ w8.heap.size := HG8.out.size
      have HL8 := Lib.hid hl8
      clear hf8 hc8 hg8 q1v q2v
      go_wp2_with (at_builtin; refine wpList_app1 rfl (.tmp 16) (.tmp 19) 27 rfl w.heap.size 40 _ 1 24 Tryz.elemShp _ 1 _ _ _ _ rfl rfl rfl HV.out (by rfl) (by simp [Value.oneCell']) (by unfold maxLen; omega) (by omega) (by omega) ?_; intro g' cap w9 q1 q2 q3 q4 q5 q6)
      go_ret
      refine ⟨_, rfl, [l] ++ [l8], by simp, by simp, ?_, FarShps.snoc (v := .slice (some ⟨w1.heap.size, 0, none⟩) 1 1) (ps := [l]) HV.out HV2.out HX.out q3 q1, HC8.out.below q2 hgw, grown_then HG8.out q2⟩
      intro p hp
      rcases List.mem_append.1 hp with hp | hp
      · exact HLL.out p hp
      · rw [List.mem_singleton.1 hp]; exact HL8.out
  · have HP3 := Lib.hid (l4Piece_any g bs w3 HC3.out)
    go_wp2_with fail
    refine HP3.out.mono ?_
    rintro e w4 ⟨a4, c4, l4, rfl, hl4, ho4, hc4, hg4⟩
    have hsz3 := HG3.out.size
    obtain ⟨vs, q1v, q2v⟩ := HF3.out.grown hg4 hgw
    have HX := Lib.hid ((far_cls ho4 rfl).rebase hsz3)
    have HV := Lib.hid q1v
    have HV2 := Lib.hid q2v
    have HC4 := Lib.hid hc4
    have HG4 := Lib.hid (grownBy_trans HG3.out hg4)
    have hsz4 : w.heap.size ≤ w4.heap.size := HG4.out.size
    have HLL4 := Lib.hid (show ∀ p ∈ [l] ++ [l4], p.length ≤ 80 from fun p hp => by
      rcases List.mem_append.1 hp with hp | hp
      · exact HLL.out p hp
      · rw [List.mem_singleton.1 hp]; exact hl4)
    clear ho4 hc4 hg4 q1v q2v
    go_upto_region 4 with (at_builtin; refine wpList_app1 rfl (.tmp 9) (.tmp 12) 27 rfl w.heap.size 40 _ 1 24 Tryz.elemShp _ 1 _ _ _ _ rfl rfl rfl HV.out (by rfl) (by simp [Value.oneCell']) (by unfold maxLen; omega) (by omega) (by omega) ?_; intro g5 cap5 w5 q1 q2 q3 q4 q5 q6)
    have HF5 := Lib.hid (show FarShps w5 w.heap.size (.slice (some ⟨g5, 0, none⟩) (1 + 1) cap5) ([l] ++ [l4]) from FarShps.snoc (v := .slice (some ⟨w1.heap.size, 0, none⟩) 1 1) (ps := [l]) HV.out HV2.out HX.out q3 q1)
    have HC5 := Lib.hid (HC4.out.below q2 hgw)
    have HG5 := Lib.hid (grown_then HG4.out q2)
    clear HV HV2 HX HC4 HG4 q1 q2 q3 q4 q5 q6
    have HD4 := Lib.hid (drawOnce g bs 20 w5 HC5.out (by decide))
    go_wp2_with fail
    refine HD4.out.mono ?_
    rintro e w7 ⟨b7, rfl, hc7, hg7⟩
    have HF7 := Lib.hid (HF5.out.grown hg7 hgw)
    have HC7 := Lib.hid hc7
    have HG7 := Lib.hid (grownBy_trans HG5.out hg7)
    clear hc7 hg7
    cases b7
    · go_wp2
      go_ret
      exact ⟨_, rfl, ([l] ++ [l4]), by simp, by simp, HLL4.out, HF7.out, HC7.out, HG7.out⟩
    · have HA := Lib.hid (l2Any_any g bs w7 HC7.out)
      go_wp2_with fail
      refine HA.out.mono ?_
      rintro e w8 ⟨a8, c8, l8, rfl, hl8, hf8, hc8, hg8⟩
      have hsz7 := HG7.out.size
      obtain ⟨vs, q1v, q2v⟩ := HF7.out.grown hg8 hgw
      have HX := Lib.hid (hf8.rebase hsz7)
      have HV := Lib.hid q1v
      have HV2 := Lib.hid q2v
      have HC8 := Lib.hid hc8
      have HG8 := Lib.hid (grownBy_trans HG7.out hg8)
      have hsz8 : w.heap.size ≤ w8.heap.size := HG8.out.size
      have HL8 := Lib.hid hl8
      clear hf8 hc8 hg8 q1v q2v
      go_wp2_with (at_builtin; refine wpList_app1 rfl (.tmp 16) (.tmp 19) 27 rfl w.heap.size 40 _ 1 24 Tryz.elemShp _ 2 _ _ _ _ rfl rfl rfl HV.out (by rfl) (by simp [Value.oneCell']) (by unfold maxLen; omega) (by omega) (by omega) ?_; intro g' cap w9 q1 q2 q3 q4 q5 q6)
      go_ret
      refine ⟨_, rfl, ([l] ++ [l4]) ++ [l8], by simp, by simp, ?_, FarShps.snoc (v := .slice (some ⟨g5, 0, none⟩) (1 + 1) cap5) (ps := ([l] ++ [l4])) HV.out HV2.out HX.out q3 q1, HC8.out.below q2 hgw, grown_then HG8.out q2⟩
      intro p hp
      rcases List.mem_append.1 hp with hp | hp
      · exact HLL4.out p hp
      · rw [List.mem_singleton.1 hp]; exact HL8.out
end Go.Proofs.YtajmdgcnnipdoaaGreatDoor
