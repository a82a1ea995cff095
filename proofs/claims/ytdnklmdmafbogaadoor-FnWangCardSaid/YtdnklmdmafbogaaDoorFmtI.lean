/- FmtI: the walk of the program's FormatWang. -/
import Derived.Test.YtdnklmdmafbogaaDoorText1
import Derived.Test.YtdnklmdmafbogaaDoorAllFrame
import Derived.Deep.RegionHeld3
import Derived.BigRegion
import Derived.IntWalk
import Derived.Deep.DrawnRows
namespace Go.Proofs.YtdnklmdmafbogaaDoor
open Go.RowKit

attribute [local go_sem ↓] Go.wp_at_zero Go.wp_at_succ

set_option maxRecDepth 100000 in
set_option maxHeartbeats 6400000 in
theorem implFmt_yes (ad : Option Addr) (c : Nat) (ts : List Tile) (w : World) (hw : Wangs ts) (hc : CellsAt w ad (wangs ts)) :
    Calls Tryd.prog 11 #[.slice ad ts.length c] w fun e w' => e = .returned (.string (fmtTo ts ts.length)) ∧ Below w.heap.size w w' := by
  have hare := implAre ad c ts w (by have := hw.2.2; omega) hc
  rw [decide_eq_true hw] at hare
  have HARE := Lib.hid hare
  have hjoin := fmtTo_join ts ts.length (Nat.le_refl _)
  have hjl := fmtTo_length hw.1 ts.length (Nat.le_refl _)
  rw [List.take_length] at hjoin
  have HJ := Lib.hid hjoin
  have HF := Lib.hid hw.1
  have HC := Lib.hid hc
  have hn6 := hw.2.2
  have hn1 := hw.2.1
  clear hare hw hc hjoin
  go_enter Tryd.func11, Tryd.ntmps11
  go_wp2_with fail
  refine HARE.out.mono ?_
  rintro e w1 ⟨rfl, hb1⟩
  have HB1 := Lib.hid hb1
  have hsz1 := hb1.size
  clear hb1
  go_wp2
  go_loopw [3, 11] (fun pv iv wr => ∃ (k : Nat) (av : Option Addr) (cv : Nat), k ≤ ts.length ∧ iv = .int .i64 k ∧ pv = .slice av k cv ∧ wr.ownsRow w1.heap.size 9 1 (.slice av k cv) k (strs ((ts.take k).map tileB)) ∧ Below w1.heap.size w1 wr) (fun _ iv _ => ts.length - (intOf iv).toNat)
  case atStart => exact ⟨0, none, 0, Nat.zero_le _, rfl, rfl, World.ownsRow_nil _ _ _ _, Below.refl _ _⟩
  case round =>
    obtain ⟨k, av, cv, hk, rfl, rfl, hown, hb⟩ := hrel
    have HB := Lib.hid hb
    have hsz := hb.size
    have HOWN := Lib.hid hown
    clear hown
    by_cases hlt : k < ts.length
    · have i1 : (k : Int) < (ts.length : Int) := by omega
      obtain ⟨g, off, rfl, hg, hcc⟩ := wang_open HC.out (by omega)
      obtain ⟨y0, y1, y2, y3⟩ := hcc k hlt
      have hbw := HB1.out.trans (hb.mono hsz1)
      have x0 := (hbw.cell (p := ⟨g, off + k * 4, none⟩) hg).trans y0
      have x1 := (hbw.cell (p := ⟨g, off + k * 4 + 1, none⟩) hg).trans y1
      have x2 := (hbw.cell (p := ⟨g, off + k * 4 + 2, none⟩) hg).trans y2
      have x3 := (hbw.cell (p := ⟨g, off + k * 4 + 3, none⟩) hg).trans y3
      obtain ⟨h1, h2, h3, h4⟩ := HF.out ts[k] (List.getElem_mem hlt)
      have htk := List.take_succ_eq_append_getElem hlt
      have HTK := Lib.hid htk
      clear hcc hb y0 y1 y2 y3 htk hbw
      generalize ts[k] = x at x0 x1 x2 x3 h1 h2 h3 h4 HTK
      have HTB := Lib.hid (show tileB x = ((numB x.t.toNat ++ numB x.r.toNat) ++ numB x.b.toNat) ++ numB x.l.toNat from rfl)
      obtain ⟨xt, xr, xb, xl⟩ := x
      unfold Col at h1 h2 h3 h4
      dsimp only at h1 h2 h3 h4
      obtain ⟨a, rfl⟩ := Int.eq_ofNat_of_zero_le h1.1
      obtain ⟨b, rfl⟩ := Int.eq_ofNat_of_zero_le h2.1
      obtain ⟨d, rfl⟩ := Int.eq_ofNat_of_zero_le h3.1
      obtain ⟨e, rfl⟩ := Int.eq_ofNat_of_zero_le h4.1
      have ha : a < 10 := by omega
      have hb' : b < 10 := by omega
      have hd : d < 10 := by omega
      have he : e < 10 := by omega
      clear h1 h2 h3 h4
      have za := numB_sz ha
      have zb := numB_sz hb'
      have zd := numB_sz hd
      have ze := numB_sz he
      have HN := Lib.hid (fun (n : Nat) (hn : n < 10) (w' : World) => implNum n hn w')
      go_upto_region 1 with (fail)
      have hbox := heap_alloc_new wr (.cells #[.int .i64 (a : Int), .int .i64 (b : Int), .int .i64 (d : Int), .int .i64 (e : Int)] 45)
      have hbb : Below wr.heap.size wr (wr.alloc (.cells #[.int .i64 (a : Int), .int .i64 (b : Int), .int .i64 (d : Int), .int .i64 (e : Int)] 45)) := (Below.refl _ _).alloc (Nat.le_refl _) _
      have hzb : (wr.alloc (.cells #[.int .i64 (a : Int), .int .i64 (b : Int), .int .i64 (d : Int), .int .i64 (e : Int)] 45)).heap.size = wr.heap.size + 1 := by simp
      generalize wr.alloc (.cells #[.int .i64 (a : Int), .int .i64 (b : Int), .int .i64 (d : Int), .int .i64 (e : Int)] 45) = w5 at hbox hbb hzb ⊢
      have z0 : w5.cell? ⟨wr.heap.size, 0, none⟩ = some (.int .i64 a) := by rw [cell_of_row w5 _ 0 _ _ _ hbox]; rfl
      have z1 : w5.cell? ⟨wr.heap.size, 1, none⟩ = some (.int .i64 b) := by rw [cell_of_row w5 _ 1 _ _ _ hbox]; rfl
      have z2 : w5.cell? ⟨wr.heap.size, 2, none⟩ = some (.int .i64 d) := by rw [cell_of_row w5 _ 2 _ _ _ hbox]; rfl
      have z3 : w5.cell? ⟨wr.heap.size, 3, none⟩ = some (.int .i64 e) := by rw [cell_of_row w5 _ 3 _ _ _ hbox]; rfl
      have HO5 := Lib.hid (ownsRow_far_below HOWN.out hbb (Nat.le_refl _))
      have HB5 := Lib.hid (HB.out.trans (hbb.mono hsz))
      have hl5 : (strs ((ts.take k).map tileB)).length = k := by rw [strs_length, List.length_map, List.length_take]; omega
      have HNE := Lib.hid (show some wr.heap.size ≠ (Value.slice av k cv).ownBlock from fun q => by have := (HOWN.out.lt _ q.symm).2; omega)
      have hht : (w5.drew.alloc (.cells #[.string (((numB a ++ numB b) ++ numB d) ++ numB e)] 9)).heap[wr.heap.size + 1]? = some (.cells #[.string (((numB a ++ numB b) ++ numB d) ++ numB e)] 9 (0, 0)) := by
        have q := heap_alloc_top w5.drew (.cells #[.string (((numB a ++ numB b) ++ numB d) ++ numB e)] 9)
        have e : w5.drew.heap.size = wr.heap.size + 1 := hzb
        rw [e] at q
        exact q
      clear hbox hbb x0 x1 x2 x3
      go_region_held3 (fun w' => w'.cell? ⟨wr.heap.size, 0, none⟩ = some (.int .i64 (a : Int)) ∧ w'.cell? ⟨wr.heap.size, 1, none⟩ = some (.int .i64 (b : Int)) ∧ w'.cell? ⟨wr.heap.size, 2, none⟩ = some (.int .i64 (d : Int)) ∧ w'.cell? ⟨wr.heap.size, 3, none⟩ = some (.int .i64 (e : Int))) (first | (go_keep; done) | exact ⟨(World.cell?_of_block B6).trans z0, (World.cell?_of_block B6).trans z1, (World.cell?_of_block B6).trans z2, (World.cell?_of_block B6).trans z3⟩)
        (first
          | (go_at_call 52; refine (HN.out _ (by assumption) _).mono ?_; rintro e' w' ⟨rfl, rfl⟩)
          | (have hgw : w5.grownBy (w5.drew.alloc (.cells #[.string (((numB a ++ numB b) ++ numB d) ++ numB e)] 9)) none := grownBy_trans (grownBy_drew w5 none) (World.grownBy_alloc w5.drew _ none); refine step_app1w (wr := w5) (w2 := w5.drew.alloc (.cells #[.string (((numB a ++ numB b) ++ numB d) ++ numB e)] 9)) rfl (.tmp 15) (.tmp 31) 67 rfl w1.heap.size 9 (.string ⟨#[]⟩) 1 16 Tryd.elemStr (.slice av k cv) k (strs ((ts.take k).map tileB)) #[.string (((numB a ++ numB b) ++ numB d) ++ numB e)] (wr.heap.size + 1) (0, 0) hzb (by rfl) (by rfl) hgw hht HO5.out rfl (by simp [Value.oneCell']) (by unfold maxLen; omega) (by omega) (by omega) ?_; intro g4 c4 w6 r1 r2 r3 r4 r5 r6; have B6 : w6.heap[wr.heap.size]? = w5.heap[wr.heap.size]? := r3.block wr.heap.size (by omega) HNE.out))
      have HB6 := Lib.hid (HB5.out.trans (r2.mono (Nat.le_refl _)))
      have HO6 := Lib.hid r1
      have hz6 := HB6.out.size
      clear r1 r2 r3 r4 r5 r6 B6
      go_wp2
      go_roundw
      case rel =>
        refine ⟨k + 1, some ⟨g4, 0, none⟩, c4, hlt, by go_num, rfl, ?_, HB6.out⟩
        rw [HTK.out, List.map_append, strs_append]
        show w6.ownsRow _ _ _ _ _ (_ ++ strs [tileB _])
        rw [HTB.out]
        simp only [Int.toNat_natCast]
        exact HO6.out
      case measure => simp [intOf]; omega
    · obtain rfl : k = ts.length := by omega
      obtain ⟨bk, hbk⟩ : ∃ bk, av = some ⟨bk, 0, none⟩ ∧ bk < wr.heap.size := by
        rcases HOWN.out.2 with ⟨h1, h2⟩ | ⟨g', c', cur, h1, h2, h3, h4⟩
        · omega
        · cases h1
          exact ⟨g', rfl, lt_of_block h3⟩
      obtain ⟨rfl, hbl⟩ := hbk
      have hcs := HOWN.out.cells (g := bk) rfl
      have hcap := ownsRow_capS HOWN.out
      have hml : ((ts.take ts.length).map tileB).length = ts.length := by rw [List.length_map, List.take_length]
      have hJN := Tryd.strings_Join bk 0 cv ((ts.take ts.length).map tileB) ⟨#[32]⟩ wr (fun j x hx => (by rw [show (⟨bk, 0 + j, none⟩ : Addr) = (⟨bk, 0, none⟩ : Addr).add j from by unfold Addr.add; split <;> simp_all]; exact hcs j _ (strs_at hx))) hbl (by rw [hml]; omega) (by rw [hml]; exact hcap) (by
        rw [List.take_length, List.map_map]
        show (Lib.join (ts.map fun x => (tileB x).data.toList) [32]).length ≤ _
        rw [← HJ.out]
        omega)
      rw [hml, List.take_length, List.map_map] at hJN
      have e : (⟨(Lib.join (ts.map ((fun x => x.data.toList) ∘ tileB)) ((⟨#[32]⟩ : ByteArray).data.toList)).toArray⟩ : ByteArray) = fmtTo ts ts.length := ba_of_list (by
        show (Lib.join (ts.map fun x => (tileB x).data.toList) [32]).toArray.toList = _
        rw [← HJ.out])
      rw [e] at hJN
      have HJN := Lib.hid hJN
      clear hcs hcap hml hJN e
      go_wp2_with fail
      refine HJN.out.mono ?_
      rintro e w3 ⟨rfl, hb3⟩
      have HB3 := Lib.hid (HB1.out.trans ((HB.out.trans (hb3.mono hsz)).mono hsz1))
      clear hb3
      go_wp2
      go_ret
      exact ⟨rfl, HB3.out⟩

set_option maxRecDepth 100000 in
set_option maxHeartbeats 1600000 in
theorem implFmt (ad : Option Addr) (c : Nat) (ts : List Tile) (w : World) (hn : ts.length ≤ 1048576) (hc : CellsAt w ad (wangs ts)) :
    Calls Tryd.prog 11 #[.slice ad ts.length c] w fun e w' => e = .returned (.string (fmtW ts)) ∧ Below w.heap.size w w' := by
  by_cases hw : Wangs ts
  · rw [show fmtW ts = fmtTo ts ts.length from if_pos hw]
    exact implFmt_yes ad c ts w hw hc
  · rw [show fmtW ts = ⟨#[]⟩ from if_neg hw]
    have hare := implAre ad c ts w hn hc
    rw [decide_eq_false hw] at hare
    have HARE := Lib.hid hare
    clear hare hw hc
    go_enter Tryd.func11, Tryd.ntmps11
    go_wp2_with fail
    refine HARE.out.mono ?_
    rintro e w1 ⟨rfl, hb1⟩
    have HB1 := Lib.hid hb1
    clear hb1
    go_wp2
    go_ret
    exact ⟨rfl, HB1.out⟩
end Go.Proofs.YtdnklmdmafbogaaDoor
