/- DrawL2: l12List and l1PickInt walked: a list of at most fifteen numbers, whichever. -/
import Derived.Test.YtgplpngphaaefaaDoorDrawL
import Derived.Deep.Cut
namespace Go.Proofs.YtgplpngphaaefaaDoor
open Go.RowKit

attribute [local go_sem ↓] Go.wp_at_zero Go.wp_at_succ

theorem own_grown {w w' : World} {base e size n g : Nat} {v : Value} {xs : List Value} (h : w.ownsRow base e size v n xs) (hg : w.grownBy w' (some g)) (hne : g < base) : w'.ownsRow base e size v n xs :=
  ownsRow_far h hg fun k hk => by cases hk; exact hne
theorem rowNilCap {w : World} {base e size n m cap : Nat} {ad : Option Addr} {xs : List Value} (h : w.ownsRow base e size (.slice ad m cap) n xs) : ad = none → cap = 0 := by
  intro hn
  rcases h.2 with ⟨h1, _⟩ | ⟨g, c, cur, h1, _⟩
  · cases h1; rfl
  · cases h1; cases hn
/-- A short list that a call wrote out. -/
theorem cells_lit {w w' : World} {vs : List Value} {e : TypeId} (h : w'.heap[w.heap.size]? = some (.cells vs.toArray e (0, 0))) : CellsAt w' (some ⟨w.heap.size, 0, none⟩) vs := by
  refine .inr ⟨_, 0, rfl, fun j u hu => ?_⟩
  rw [Nat.zero_add, cell_of_row _ _ j _ _ _ h]
  simpa using hu
theorem grown_then {w a b : World} {row : Option Nat} (h : w.grownBy a row) (k : Below w.heap.size a b) : w.grownBy b row :=
  ⟨k.os.trans h.os, k.tape.trans h.tape, k.output.trans h.output, Nat.le_trans h.size k.size, fun i hi hne => (k.block i hi).trans (h.block i hi hne)⟩

set_option maxRecDepth 100000 in
set_option maxHeartbeats 1600000 in
/-- One of a short list's numbers. -/
theorem pickInt_any (g : Nat) (bs : List Nat) (ad : Option Addr) (c : Nat) (xs : List Int) (w : World) (hc : Curs w g bs) (hn : 1 ≤ xs.length ∧ xs.length ≤ 256) (hx : CellsAt w ad (ints xs)) (hg : ∀ a, ad = some a → a.block ≠ g) :
    Calls Tryd.prog 48 #[.pointer (some ⟨g, 0, none⟩), .slice ad xs.length c] w fun e w' => ∃ z : Int, e = .returned (.int .i64 z) ∧ z ∈ xs ∧ Curs w' g bs ∧ w.grownBy w' (some g) := by
  have HB := Lib.hid (drawBelow g bs xs.length w hc hn)
  have hil := ints_length xs
  obtain ⟨b, off, rfl, hb, hcc⟩ := hx.open (by omega)
  have HCC := Lib.hid hcc
  have hbg : b ≠ g := hg _ rfl
  obtain ⟨hn1, hn2⟩ := hn
  clear hc hx hg hcc
  go_enter Tryd.func48, Tryd.ntmps48
  go_wp2_with fail
  refine HB.out.mono ?_
  rintro e w1 ⟨k, rfl, hk, hc1, hg1⟩
  have HC1 := Lib.hid hc1
  have HG1 := Lib.hid hg1
  have x0 : w1.cell? ⟨b, off + k, none⟩ = some (.int .i64 xs[k]) := by
    rw [World.cell?_of_block (w := w) (hg1.block b hb (fun q => hbg (by cases q; rfl)))]
    exact HCC.out k _ (ints_at xs k hk)
  have hmem : xs[k] ∈ xs := List.getElem_mem hk
  generalize xs[k] = z at x0 hmem
  have HM := Lib.hid hmem
  clear hc1 hg1 hmem
  go_wp2
  go_ret
  exact ⟨z, rfl, HM.out, HC1.out, HG1.out⟩

set_option maxRecDepth 100000 in
set_option maxHeartbeats 3200000 in
theorem l12List_any (g : Nat) (bs : List Nat) (w : World) (hc : Curs w g bs) :
    Calls Tryd.prog 36 #[.pointer (some ⟨g, 0, none⟩)] w fun e w' => ∃ (a a2 : Option Addr) (c c2 n2 : Nat) (xs : List Int), e = .returned (.tuple #[.slice a xs.length c, .slice a2 n2 c2]) ∧ xs.length ≤ 15 ∧
      w'.ownsRow w.heap.size 3 1 (.slice a xs.length c) xs.length (ints xs) ∧ w.grownBy w' (some g) := by
  have HE := Lib.hid (ownsRow_empty w 3 1)
  have hgw := hc.lt
  have hbA : Below w.heap.size w (w.alloc (.cells #[] 3)) := (Below.refl _ _).alloc (Nat.le_refl _) _
  have HCA := Lib.hid (hc.below hbA hgw)
  have HGA := Lib.hid (grown_below (row := some g) hbA)
  have hszA : (w.alloc (.cells #[] 3)).heap.size = w.heap.size + 1 := by simp
  clear hc hbA
  go_enter Tryd.func36, Tryd.ntmps36
  go_upto_region 2 with (fail)
  generalize w.alloc (.cells #[] 3) = wA at HE HCA HGA hszA ⊢
  have HD := Lib.hid (drawBelow g bs 3 wA HCA.out (by decide))
  go_wp2_with fail
  refine HD.out.mono ?_
  rintro e w1 ⟨m0, rfl, hm0, hc1, hg1⟩
  have HC1 := Lib.hid hc1
  have HG1 := Lib.hid (grownBy_trans HGA.out hg1)
  have HE1 := Lib.hid (own_grown HE.out hg1 hgw)
  have hsz1 : w.heap.size ≤ w1.heap.size := HG1.out.size
  clear hc1 hg1 HCA
  go_wp2
  go_loopw [4, 5] (fun v i wr => ∃ (m : Nat) (ks : List Int), m ≤ 3 ∧ i = .int .i64 m ∧ ks.length + m ≤ 3 ∧ 1 ≤ ks.length + m ∧ wr.ownsRow w.heap.size 3 1 v ks.length (ints ks) ∧ Curs wr g bs ∧ w.grownBy wr (some g)) (fun _ i _ => (intOf i).toNat)
  case atStart => exact ⟨1 + m0, [], by omega, by go_num, by simp; omega, by simp, HE1.out, HC1.out, HG1.out⟩
  case round =>
    obtain ⟨m, ks, hm, rfl, hks, hks1, hown, hcr, hgr⟩ := hrel
    have HO := Lib.hid hown
    have HCR := Lib.hid hcr
    have HGR := Lib.hid hgr
    have hsz : w.heap.size ≤ wr.heap.size := hgr.size
    clear hown hcr hgr
    by_cases h0 : 0 < m
    · have hd : decide (0 < m) = true := decide_eq_true h0
      have hd2 : decide ((0 : Int) < (m : Int)) = true := decide_eq_true (by omega)
      have HD := Lib.hid (drawBelow g bs 5 wr HCR.out (by decide))
      obtain ⟨p, rfl⟩ : ∃ p, m = p + 1 := ⟨m - 1, by omega⟩
      go_wp2_with fail
      refine HD.out.mono ?_
      rintro e w2 ⟨z0, rfl, hz0, hc2, hg2⟩
      have HC2 := Lib.hid hc2
      have HG2 := Lib.hid (grownBy_trans HGR.out hg2)
      have HO2 := Lib.hid (own_grown HO.out hg2 hgw)
      have hsz2 : w.heap.size ≤ w2.heap.size := HG2.out.size
      have hgw2 : g < w2.heap.size := by omega
      clear hc2 hg2 HCR HGR HO
      go_wp2_with (at_builtin; refine wpList_app1 rfl (.tmp 18) (.tmp 22) 29 rfl w.heap.size 3 _ 1 8 Tryd.elemInt _ ks.length _ _ _ _ rfl rfl rfl HO2.out (by rfl) (by simp [Value.oneCell']) (by unfold maxLen; omega) (by omega) (by omega) ?_; intro g' cap w3 q1 q2 q3 q4 q5 q6)
      go_roundw
      case rel =>
        refine ⟨p, ks ++ [(z0 : Int) - 2], by omega, by go_num, by rw [List.length_append, List.length_singleton]; omega, by rw [List.length_append, List.length_singleton]; omega, ?_, HC2.out.below q2 hgw, grown_then HG2.out q2⟩
        rw [ints_append, List.length_append, List.length_singleton]
        exact q1
      case measure => simp [intOf]
    · obtain rfl : m = 0 := by omega
      have hd : decide (0 < (0 : Nat)) = false := rfl
      obtain ⟨ak, ck, rfl, hck⟩ := ownsRow_cells HO.out
      have HCK := Lib.hid hck
      have hk3 : ks.length ≤ 3 := by omega
      have hk1 : 1 ≤ ks.length := by omega
      clear hks hks1 hck HE HE1 HC1 HG1 HGA
      obtain ⟨wo, rfl⟩ : ∃ wo, wo = wr := ⟨_, rfl⟩
      have hszo : w.heap.size ≤ wo.heap.size := hsz
      have hbr : Below wo.heap.size wo (wo.alloc (.cells #[] 3)) := (Below.refl _ _).alloc (Nat.le_refl _) _
      have HE := Lib.hid (ownsRow_empty wo 3 1)
      have HCB := Lib.hid (HCR.out.below hbr (by omega))
      have HGB := Lib.hid (grown_below (row := some g) hbr)
      have hgo : g < wo.heap.size := by omega
      have HCK0 := Lib.hid HCK.out
      clear hbr HCR HCK
      go_upto_region 7 with (fail)
      generalize wo.alloc (.cells #[] 3) = wB at HE HCB HGB ⊢
      go_wp2
      go_loopw [6, 7] (fun v i wr => ∃ (k : Nat) (ls : List Int), k ≤ ks.length ∧ ls.length = k ∧ i = .int .i64 k ∧ wr.ownsRow wo.heap.size 3 1 v ls.length (ints ls) ∧ Curs wr g bs ∧ wo.grownBy wr (some g)) (fun _ i _ => ks.length - (intOf i).toNat)
      case atStart => exact ⟨0, [], by omega, rfl, rfl, HE.out, HCB.out, HGB.out⟩
      case round =>
        obtain ⟨k, ls, hk, hls, rfl, hown, hcr, hgr⟩ := hrel
        have HOL := Lib.hid hown
        have HCR := Lib.hid hcr
        have HGR2 := Lib.hid hgr
        have hsz2 : wo.heap.size ≤ wr.heap.size := hgr.size
        have HLS := Lib.hid hls
        have hls3 : ls.length ≤ 3 := by omega
        clear hown hcr hgr hls
        by_cases hlt : k < ks.length
        · have HD := Lib.hid (drawBelow g bs 5 wr HCR.out (by decide))
          go_wp2_with fail
          refine HD.out.mono ?_
          rintro e w2 ⟨z0, rfl, hz0, hc2, hg2⟩
          have HC2 := Lib.hid hc2
          have HG2 := Lib.hid (grownBy_trans HGR2.out hg2)
          have HO2 := Lib.hid (own_grown HOL.out hg2 hgo)
          have hsz3 : wo.heap.size ≤ w2.heap.size := HG2.out.size
          clear hc2 hg2 HCR HGR2 HOL
          go_wp2_with (at_builtin; refine wpList_app1 rfl (.tmp 31) (.tmp 34) 29 rfl wo.heap.size 3 _ 1 8 Tryd.elemInt _ ls.length _ _ _ _ rfl rfl rfl HO2.out (by rfl) (by simp [Value.oneCell']) (by unfold maxLen; omega) (by omega) (by omega) ?_; intro g' cap w3 q1 q2 q3 q4 q5 q6)
          go_roundw
          case rel =>
            refine ⟨k + 1, by omega, ls ++ [(z0 : Int)], by rw [List.length_append, List.length_singleton, HLS.out], by go_num, ?_, HC2.out.below q2 hgo, grown_then HG2.out q2⟩
            rw [ints_append, List.length_append, List.length_singleton]
            exact q1
          case measure => simp [intOf]; omega
        · obtain rfl : k = ks.length := by omega
          obtain ⟨al, cl, rfl, hcl⟩ := ownsRow_cells HOL.out
          have hnil := rowNilCap HOL.out
          have HD := Lib.hid (drawBelow g bs 7 wr HCR.out (by decide))
          have HNIL := Lib.hid hnil
          clear hcl hnil
          go_wp2_with fail
          refine HD.out.mono ?_
          rintro e w2 ⟨n0, rfl, hn0, hc2, hg2⟩
          have HC2 := Lib.hid hc2
          have HG2 := Lib.hid (grownBy_trans HGR2.out hg2)
          have HO2 := Lib.hid (own_grown HOL.out hg2 hgo)
          have hsz3 : wo.heap.size ≤ w2.heap.size := HG2.out.size
          have HK2 := Lib.hid (ownsRow_cellsAt (own_grown HO.out HG2.out hgw))
          have HX := Lib.hid (extend_any al ak cl ck n0 ls ks w2 (by omega) HLS.out.symm (by have := HLS.out; omega) (by omega) HNIL.out (ownsRow_cellsAt HO2.out) HK2.out)
          clear hc2 hg2 HCR HGR2 HOL
          go_wp2_with fail
          refine HX.out.mono ?_
          rintro e w3 ⟨ax, cx, bx, xs, rfl, hx14, hox, hbx⟩
          have HC3 := Lib.hid (HC2.out.below hbx (by omega))
          have HG3 := Lib.hid (grown_then HG2.out (hbx.mono hsz3))
          have HO3 := Lib.hid (ownsRow_far_below HO2.out hbx (Nat.le_refl _))
          have HX3 := Lib.hid (ownsRow_rebase hox hsz3)
          have hsz4 : wo.heap.size ≤ w3.heap.size := HG3.out.size
          clear hox hbx HC2 HG2 HO2
          have HDO := Lib.hid (drawOnce g bs 8 w3 HC3.out (by decide))
          have hls3 : ls.length ≤ 3 := by omega
          cases bx
          · go_wp2_with fail
            refine HDO.out.mono ?_
            rintro e w4 ⟨b8, rfl, hc4, hg4⟩
            have HC4 := Lib.hid hc4
            have HG4 := Lib.hid (grownBy_trans HG3.out hg4)
            have HR4 := Lib.hid (own_grown HO3.out hg4 hgo)
            have hsz5 : wo.heap.size ≤ w4.heap.size := HG4.out.size
            clear hc4 hg4 HC3 HG3 HO3 HX3
            cases b8
            · go_wp2
              go_ret2
              exact ⟨_, _, _, _, _, ls, rfl, by omega, ownsRow_rebase HR4.out hszo, grownBy_trans HGR.out HG4.out⟩
            · have hb4 : Below w4.heap.size w4 (w4.alloc (.cells #[.int .i64 0, .int .i64 1, .int .i64 1000000001, .int .i64 (-9223372036854775808)] 3)) := (Below.refl _ _).alloc (Nat.le_refl _) _
              have HC5 := Lib.hid (HC4.out.below hb4 (by omega))
              have HR5 := Lib.hid (ownsRow_far_below HR4.out hb4 (Nat.le_refl _))
              have HG5 := Lib.hid (grown_then HG4.out (hb4.mono hsz5))
              have HL5 := Lib.hid (cells_lit (w := w4) (vs := ints [0, 1, 1000000001, -9223372036854775808]) (e := 3) (heap_alloc_new w4 (.cells #[.int .i64 0, .int .i64 1, .int .i64 1000000001, .int .i64 (-9223372036854775808)] 3)))
              have HP := Lib.hid (fun c => pickInt_any g bs (some ⟨w4.heap.size, 0, none⟩) c [0, 1, 1000000001, -9223372036854775808] _ HC5.out (by decide) HL5.out (fun a q => by cases q; show w4.heap.size ≠ g; omega))
              clear hb4 HC4 HR4 HG4
              go_wp2_with fail
              refine (HP.out _).mono ?_
              rintro e w5 ⟨z5, rfl, _, hc5, hg5⟩
              have HC6 := Lib.hid hc5
              have HG6 := Lib.hid (grownBy_trans HG5.out hg5)
              have HR6 := Lib.hid (own_grown HR5.out hg5 hgo)
              have hsz6 : wo.heap.size ≤ w5.heap.size := HG6.out.size
              clear hc5 hg5 HC5 HR5 HG5 HL5 HP
              go_wp2_with (at_builtin; refine wpList_app1 rfl (.tmp 48) (.tmp 52) 29 rfl wo.heap.size 3 _ 1 8 Tryd.elemInt _ ls.length _ _ _ _ rfl rfl rfl HR6.out (by rfl) (by simp [Value.oneCell']) (by unfold maxLen; omega) (by omega) (by omega) ?_; intro g' cap w6 q1 q2 q3 q4 q5 q6)
              go_ret2
              refine ⟨_, _, _, _, _, ls ++ [z5], by rw [List.length_append, List.length_singleton]; rfl, by rw [List.length_append, List.length_singleton]; omega, ?_, grownBy_trans HGR.out (grown_then HG6.out q2)⟩
              rw [ints_append, List.length_append, List.length_singleton]
              exact ownsRow_rebase q1 hszo
          · go_wp2_with fail
            refine HDO.out.mono ?_
            rintro e w4 ⟨b8, rfl, hc4, hg4⟩
            have HC4 := Lib.hid hc4
            have HG4 := Lib.hid (grownBy_trans HG3.out hg4)
            have HR4 := Lib.hid (own_grown HX3.out hg4 hgo)
            have hsz5 : wo.heap.size ≤ w4.heap.size := HG4.out.size
            clear hc4 hg4 HC3 HG3 HO3 HX3
            cases b8
            · go_wp2
              go_ret2
              exact ⟨_, _, _, _, _, xs, rfl, by omega, ownsRow_rebase HR4.out hszo, grownBy_trans HGR.out HG4.out⟩
            · have hb4 : Below w4.heap.size w4 (w4.alloc (.cells #[.int .i64 0, .int .i64 1, .int .i64 1000000001, .int .i64 (-9223372036854775808)] 3)) := (Below.refl _ _).alloc (Nat.le_refl _) _
              have HC5 := Lib.hid (HC4.out.below hb4 (by omega))
              have HR5 := Lib.hid (ownsRow_far_below HR4.out hb4 (Nat.le_refl _))
              have HG5 := Lib.hid (grown_then HG4.out (hb4.mono hsz5))
              have HL5 := Lib.hid (cells_lit (w := w4) (vs := ints [0, 1, 1000000001, -9223372036854775808]) (e := 3) (heap_alloc_new w4 (.cells #[.int .i64 0, .int .i64 1, .int .i64 1000000001, .int .i64 (-9223372036854775808)] 3)))
              have HP := Lib.hid (fun c => pickInt_any g bs (some ⟨w4.heap.size, 0, none⟩) c [0, 1, 1000000001, -9223372036854775808] _ HC5.out (by decide) HL5.out (fun a q => by cases q; show w4.heap.size ≠ g; omega))
              clear hb4 HC4 HR4 HG4
              go_wp2_with fail
              refine (HP.out _).mono ?_
              rintro e w5 ⟨z5, rfl, _, hc5, hg5⟩
              have HC6 := Lib.hid hc5
              have HG6 := Lib.hid (grownBy_trans HG5.out hg5)
              have HR6 := Lib.hid (own_grown HR5.out hg5 hgo)
              have hsz6 : wo.heap.size ≤ w5.heap.size := HG6.out.size
              clear hc5 hg5 HC5 HR5 HG5 HL5 HP
              go_wp2_with (at_builtin; refine wpList_app1 rfl (.tmp 48) (.tmp 52) 29 rfl wo.heap.size 3 _ 1 8 Tryd.elemInt _ xs.length _ _ _ _ rfl rfl rfl HR6.out (by rfl) (by simp [Value.oneCell']) (by unfold maxLen; omega) (by omega) (by omega) ?_; intro g' cap w6 q1 q2 q3 q4 q5 q6)
              go_ret2
              refine ⟨_, _, _, _, _, xs ++ [z5], by rw [List.length_append, List.length_singleton]; rfl, by rw [List.length_append, List.length_singleton]; omega, ?_, grownBy_trans HGR.out (grown_then HG6.out q2)⟩
              rw [ints_append, List.length_append, List.length_singleton]
              exact ownsRow_rebase q1 hszo
end Go.Proofs.YtgplpngphaaefaaDoor
