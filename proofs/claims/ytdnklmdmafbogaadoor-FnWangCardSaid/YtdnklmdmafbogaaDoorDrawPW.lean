/- DrawPW: DrawParseWang gives a short text, DrawIsWangFill tiles, sides and a list of numbers. -/
import Derived.Test.YtdnklmdmafbogaaDoorDrawT
import Derived.Test.YtdnklmdmafbogaaDoorDrawW2
import Derived.Test.YtdnklmdmafbogaaDoorFmtS
import Derived.Test.YtdnklmdmafbogaaDoorWangLaw0
namespace Go.Proofs.YtdnklmdmafbogaaDoor
open Go.RowKit

attribute [local go_sem ↓] Go.wp_at_zero Go.wp_at_succ

theorem strs_at2 {xs : List ByteArray} {k : Nat} (h : k < xs.length) : (strs xs)[k]? = some (.string xs[k]) := by simp [strs, h]
theorem strs_len2 (xs : List ByteArray) : (strs xs).length = xs.length := by simp [strs]
set_option maxRecDepth 100000 in
set_option maxHeartbeats 1600000 in
/-- One of a short list's texts. -/
theorem pick_any (g : Nat) (bs : List Nat) (ad : Option Addr) (c : Nat) (xs : List ByteArray) (w : World) (hc : Curs w g bs) (hn : 1 ≤ xs.length ∧ xs.length ≤ 256) (hx : CellsAt w ad (strs xs)) (hg : ∀ a, ad = some a → a.block ≠ g) :
    Calls Tryd.prog 70 #[.pointer (some ⟨g, 0, none⟩), .slice ad xs.length c] w fun e w' => ∃ z : ByteArray, e = .returned (.string z) ∧ z ∈ xs ∧ Curs w' g bs ∧ w.grownBy w' (some g) := by
  have HB := Lib.hid (drawBelow g bs xs.length w hc hn)
  have hil := strs_len2 xs
  obtain ⟨b, off, rfl, hb, hcc⟩ := hx.open (by omega)
  have HCC := Lib.hid hcc
  have hbg : b ≠ g := hg _ rfl
  obtain ⟨hn1, hn2⟩ := hn
  clear hc hx hg hcc
  go_enter Tryd.func70, Tryd.ntmps70
  go_wp2_with fail
  refine HB.out.mono ?_
  rintro e w1 ⟨k, rfl, hk, hc1, hg1⟩
  have HC1 := Lib.hid hc1
  have HG1 := Lib.hid hg1
  have x0 : w1.cell? ⟨b, off + k, none⟩ = some (.string xs[k]) := by
    rw [World.cell?_of_block (w := w) (hg1.block b hb (fun q => hbg (by cases q; rfl)))]
    exact HCC.out k _ (strs_at2 hk)
  have hmem : xs[k] ∈ xs := List.getElem_mem hk
  generalize xs[k] = z at x0 hmem
  have HM := Lib.hid hmem
  clear hc1 hg1 hmem
  go_wp2
  go_ret
  exact ⟨z, rfl, HM.out, HC1.out, HG1.out⟩
def eight : List ByteArray := [⟨#[]⟩, ⟨#[48, 48, 48, 48]⟩, ⟨#[48, 48, 48, 52]⟩, ⟨#[48, 48, 48]⟩, ⟨#[48, 48, 48, 48, 32]⟩, ⟨#[48, 48, 48, 48, 32, 32, 48, 48, 48, 48]⟩, ⟨#[48, 48, 48, 48, 48, 48, 48, 48]⟩, ⟨#[48, 49, 50, 51, 32, 51, 50, 49, 48]⟩]
theorem eight_small : ∀ z ∈ eight, z.size ≤ 20 := by decide

set_option maxRecDepth 100000 in
set_option maxHeartbeats 3200000 in
theorem drawParseWang (ad : Option Addr) (cap : Nat) (bs : List Nat) (w : World) (hn : bs.length ≤ 1048576) (hb : ∀ b ∈ bs, b < 256) (hc : CellsAt w ad (bts bs)) :
    Calls Tryd.prog 29 #[.slice ad bs.length cap] w fun e w' => ∃ s : ByteArray, e = .returned (.string s) ∧ s.size ≤ 300 ∧ Below w.heap.size w w' := by
  have HD := Lib.hid (drawNew ad cap bs w hn hb hc)
  clear hn hb hc
  go_enter Tryd.func29, Tryd.ntmps29
  go_wp2_with fail
  refine HD.out.mono ?_
  rintro e w1 ⟨g, rfl, hg, hc1, hb1⟩
  have HB1 := Lib.hid hb1
  have hs1 := hb1.size
  have hgw := hc1.lt
  have HT := Lib.hid (l18Tiles_any g bs w1 hc1)
  clear hc1 hb1
  go_wp2_with fail
  refine HT.out.mono ?_
  rintro e w2 ⟨at0, ct, ts, rfl, ht1, ht5, ho2, hc2, hg2⟩
  have HC2 := Lib.hid hc2
  have HB2 := Lib.hid (HB1.out.trans (below_grown hg2 hs1 hg))
  have hs2 := HB2.out.size
  have hs12 := hg2.size
  have HF := Lib.hid (specFmt at0 ct ts w2 (by omega) (ownsRow_cellsAt ho2))
  have hf100 := fmtW_small ts
  clear hc2 hg2 ho2
  generalize fmtW ts = s at HF hf100
  go_wp2_with fail
  refine HF.out.mono ?_
  rintro e w3 ⟨rfl, hb3⟩
  have HC3 := Lib.hid (HC2.out.below hb3 (by omega))
  have HB3 := Lib.hid (HB2.out.trans (hb3.mono hs2))
  have hs3 := HB3.out.size
  have HD3 := Lib.hid (drawBelow g bs 4 w3 HC3.out (by decide))
  clear hb3
  go_wp2_with fail
  refine HD3.out.mono ?_
  rintro e w4 ⟨md, rfl, hmd, hc4, hg4⟩
  have HC4 := Lib.hid hc4
  have HB4 := Lib.hid (HB3.out.trans (below_grown hg4 hs3 hg))
  have hs4 := HB4.out.size
  clear hc4 hg4
  obtain rfl | rfl | h2 : md = 0 ∨ md = 1 ∨ (2 ≤ md ∧ md < 4) := by omega
  · have HS := Lib.hid (l1Spoil_any g bs s w4 HC4.out hf100)
    go_wp2_with fail
    refine HS.out.mono ?_
    rintro e w5 ⟨t, rfl, ht, _, hg5⟩
    have HB5 := Lib.hid (HB4.out.trans (below_grown hg5 hs4 hg))
    clear hg5
    go_wp2
    go_ret
    exact ⟨t, rfl, ht, HB5.out⟩
  · have hb5 : Below w4.heap.size w4 (w4.alloc (.cells #[.string ⟨#[]⟩, .string ⟨#[48, 48, 48, 48]⟩, .string ⟨#[48, 48, 48, 52]⟩, .string ⟨#[48, 48, 48]⟩, .string ⟨#[48, 48, 48, 48, 32]⟩, .string ⟨#[48, 48, 48, 48, 32, 32, 48, 48, 48, 48]⟩, .string ⟨#[48, 48, 48, 48, 48, 48, 48, 48]⟩, .string ⟨#[48, 49, 50, 51, 32, 51, 50, 49, 48]⟩] 9)) := (Below.refl _ _).alloc (Nat.le_refl _) _
    have HL := Lib.hid (cells_lit (w := w4) (vs := strs eight) (e := 9) (heap_alloc_new w4 (.cells #[.string ⟨#[]⟩, .string ⟨#[48, 48, 48, 48]⟩, .string ⟨#[48, 48, 48, 52]⟩, .string ⟨#[48, 48, 48]⟩, .string ⟨#[48, 48, 48, 48, 32]⟩, .string ⟨#[48, 48, 48, 48, 32, 32, 48, 48, 48, 48]⟩, .string ⟨#[48, 48, 48, 48, 48, 48, 48, 48]⟩, .string ⟨#[48, 49, 50, 51, 32, 51, 50, 49, 48]⟩] 9)))
    have hgl := HC4.out.lt
    have HP := Lib.hid (fun c => pick_any g bs (some ⟨w4.heap.size, 0, none⟩) c eight _ (HC4.out.below hb5 hgl) (by decide) HL.out (fun a q => by cases q; show w4.heap.size ≠ g; omega))
    have HB5 := Lib.hid (HB4.out.trans (hb5.mono hs4))
    have hs5 := HB5.out.size
    clear hb5
    go_wp2_with fail
    refine (HP.out _).mono ?_
    rintro e w6 ⟨t, rfl, hm, _, hg6⟩
    have HB6 := Lib.hid (HB5.out.trans (below_grown hg6 hs5 hg))
    have ht := eight_small t hm
    clear hg6 hm
    go_wp2
    go_ret
    exact ⟨t, rfl, by omega, HB6.out⟩
  · have n0 : ((md : Int) == 0) = false := by simp; omega
    have n1 : ((md : Int) == 1) = false := by simp; omega
    go_wp2
    go_ret
    exact ⟨s, rfl, by omega, HB4.out⟩

theorem fill_pos {ts : List Tile} {a b : Int} (h : hasFill ts a b = true) : 0 < (fillL ts a b).length := by
  have hf := find_fill h
  obtain ⟨_, ⟨⟨a1, _⟩, b1, _⟩, hl, _⟩ := hf
  have : (1 : Int) * 1 ≤ a * b := Int.mul_le_mul a1 b1 (by decide) (by omega)
  show 0 < (nats (findFill ts a b)).length
  omega

set_option maxRecDepth 100000 in
set_option maxHeartbeats 3200000 in
theorem drawIsWang (ad : Option Addr) (cap : Nat) (bs : List Nat) (w : World) (hn : bs.length ≤ 1048576) (hb : ∀ b ∈ bs, b < 256) (hc : CellsAt w ad (bts bs)) :
    Calls Tryd.prog 32 #[.slice ad bs.length cap] w fun e w' => ∃ (a : Option Addr) (c : Nat) (ts : List Tile) (x y : Int) (af : Option Addr) (cf : Nat) (xs : List Int), e = .returned (.tuple #[.slice a ts.length c, .int .i64 x, .int .i64 y, .slice af xs.length cf]) ∧ 1 ≤ ts.length ∧ ts.length ≤ 5 ∧ xs.length ≤ 16 ∧ xs.length ≤ cf ∧ CellsAt w' a (wangs ts) ∧ CellsAt w' af (ints xs) ∧ Below w.heap.size w w' := by
  have HD := Lib.hid (l18Three_any ad cap bs w hn hb hc)
  clear hb hc
  obtain ⟨q5, hq5⟩ : ∃ q : Nat, q = bs.length % 5 := ⟨_, rfl⟩
  have hm5 : (bs.length : Int).tmod 5 = (q5 : Int) := by rw [hq5]; norm_cast
  have hm52 : ((bs.length : Int) % 5) = (q5 : Int) := by rw [hq5]; norm_cast
  obtain ⟨q7, hq7⟩ : ∃ q : Nat, q = bs.length % 7 := ⟨_, rfl⟩
  have hm7 : (bs.length : Int).tmod 7 = (q7 : Int) := by rw [hq7]; norm_cast
  have hm72 : ((bs.length : Int) % 7) = (q7 : Int) := by rw [hq7]; norm_cast
  clear hq5 hq7
  go_enter Tryd.func32, Tryd.ntmps32
  go_wp2_with fail
  refine HD.out.mono ?_
  rintro e w1 ⟨a, c, ts, x, y, rfl, ht1, ht5, hx, hy, hc1, hb1⟩
  have HC1 := Lib.hid hc1
  have HB1 := Lib.hid hb1
  have hs1 := hb1.size
  have HF := Lib.hid (specFindX a c ts x y w1 (by omega) hc1)
  have HP := Lib.hid (fun h => fill_pos (ts := ts) (a := (x : Int)) (b := (y : Int)) h)
  have hfl := fillL_small ts x y
  clear hc1 hb1
  generalize fillL ts x y = xs at HF HP hfl
  generalize hasFill ts x y = is at HF HP
  go_wp2_with fail
  refine HF.out.mono ?_
  rintro e w2 ⟨af, cf, rfl, ho2, hb2⟩
  have HC2 := Lib.hid (HC1.out.below hb2)
  have HO2 := Lib.hid ho2
  have HB2 := Lib.hid (HB1.out.trans (hb2.mono hs1))
  have hsz12 := hb2.size
  have ROWLT := Lib.hid (fun (g off : Nat) (q : a = some ⟨g, off, none⟩) => (by
    have hp : 0 < (wangs ts).length := by rw [wangs_length]; omega
    obtain ⟨g', off', q', hlt, _⟩ := HC1.out.open hp
    rw [q] at q'; cases q'; exact hlt : g < w1.heap.size))
  clear hb2 ho2
  by_cases hst : is = true ∧ q5 = 0
  · obtain ⟨rfl, rfl⟩ := hst
    have hpos := HP.out rfl
    obtain ⟨gb, rfl⟩ : ∃ gb, af = some ⟨gb, 0, none⟩ := by
      rcases HO2.out.2 with ⟨h1, _⟩ | ⟨gb, cc, cur, h1, _⟩
      · injection h1 with _ h2 _; omega
      · injection h1 with h2 _ _; exact ⟨gb, h2⟩
    have hgb := HO2.out.lt gb rfl
    obtain ⟨s1, s2⟩ := HO2.out.stored 0 (.int .i64 (q7 : Int))
    have hset : (ints xs).set 0 (.int .i64 (q7 : Int)) = ints (xs.set 0 (q7 : Int)) := by simp [ints, List.map_set]
    rw [hset] at s1
    have hb3 : Below w1.heap.size w2 (w2.setCell ⟨gb, 0, none⟩ (.int .i64 (q7 : Int))) := (Below.refl _ _).grown s2 hsz12 (fun k hk => by cases hk; exact hgb.1)
    have HB3 := Lib.hid (HB2.out.trans (hb3.mono hs1))
    have HC3 := Lib.hid (show CellsAt (w2.setCell ⟨gb, 0, none⟩ (.int .i64 (q7 : Int))) a (wangs ts) by
      rcases HC2.out with q | ⟨g, off, q, hcc⟩
      · exact .inl q
      · refine .inr ⟨g, off, q, fun j u hu => ?_⟩
        rw [World.cell?_of_block (w := w2) (hb3.block g (ROWLT.out g off q))]
        exact hcc j u hu)
    have HS1 := Lib.hid s1
    have hfz : w2.frozen? ⟨gb, 0, none⟩ = false := HO2.out.frozenAt 0
    have hce : ∃ u, w2.cell? ⟨gb, 0, none⟩ = some u := ⟨_, by rw [HO2.out.cellAt 0 (by omega)]; exact ints_at xs 0 hpos⟩
    obtain ⟨u0, hu0⟩ := hce
    have hp1 : (0 : Int) < (xs.length : Int) := by omega
    clear s1 s2 hset hb3
    go_wp2
    ((try simp only [Exit.inBlock, Exit.then]); refine bodyPost_ret (results_tmp4 rfl _ _ _) rfl ?_)
    refine ⟨a, c, ts, x, y, some ⟨gb, 0, none⟩, cf, xs.set 0 (q7 : Int), by rw [List.length_set]; rfl, ht1, ht5, by rw [List.length_set]; exact hfl, by rw [List.length_set]; exact row_le_cap HO2.out, HC3.out, ownsRow_cellsAt HS1.out, HB3.out⟩
  · have hd : (is && ((q5 : Int) == 0)) = false := by
      cases is
      · rfl
      · have : q5 ≠ 0 := fun q => hst ⟨rfl, q⟩
        simp; omega
    cases is
    · go_wp2
      ((try simp only [Exit.inBlock, Exit.then]); refine bodyPost_ret (results_tmp4 rfl _ _ _) rfl ?_)
      exact ⟨a, c, ts, x, y, af, cf, xs, rfl, ht1, ht5, hfl, row_le_cap HO2.out, HC2.out, ownsRow_cellsAt HO2.out, HB2.out⟩
    · have hq : ((q5 : Int) == 0) = false := by
        have : q5 ≠ 0 := fun q => hst ⟨rfl, q⟩
        exact beq_false_of_ne (by omega)
      clear hd hst
      go_wp2
      ((try simp only [Exit.inBlock, Exit.then]); refine bodyPost_ret (results_tmp4 rfl _ _ _) rfl ?_)
      exact ⟨a, c, ts, x, y, af, cf, xs, rfl, ht1, ht5, hfl, row_le_cap HO2.out, HC2.out, ownsRow_cellsAt HO2.out, HB2.out⟩

end Go.Proofs.YtdnklmdmafbogaaDoor
