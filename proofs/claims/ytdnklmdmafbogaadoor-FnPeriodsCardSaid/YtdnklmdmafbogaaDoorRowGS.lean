/- RowGS: the walk of the reference's RowGraph. -/
import Derived.Test.YtdnklmdmafbogaaDoorRowG
namespace Go.Proofs.YtdnklmdmafbogaaDoor
open Go.RowKit

theorem rgs_set (xs : List Int) (k : Nat) (x : Int) : (ints xs).set k (.int .i64 x) = ints (xs.set k x) := by simp [ints, List.map_set]
theorem rgs_zero (n : Nat) : mixed (.int .i64 0) (ints (List.replicate n 0)) 0 = ints (List.replicate n 0) := by rw [mixed_zero]; simp [ints]
/-- A row while its digits are filled in from behind. -/
def dgTo (n W c j : Nat) : List Int := List.replicate (W - j) 0 ++ nats (dig n j c)
theorem dgTo_length {n W c j : Nat} (h : j ≤ W) : (dgTo n W c j).length = W := by
  unfold dgTo
  rw [List.length_append, List.length_replicate, nats_length, dig_length]
  omega
theorem dgTo_succ {n W c j : Nat} (h : j < W) : (dgTo n W c j).set (W - 1 - j) ((c / n ^ j % n : Nat) : Int) = dgTo n W c (j + 1) := by
  unfold dgTo
  have e : W - j = (W - 1 - j) + 1 := by omega
  rw [e, List.replicate_succ', List.append_assoc, List.set_append_right _ _ (by rw [List.length_replicate]; exact Nat.le_refl _), List.length_replicate, Nat.sub_self, dig_cons, show W - (j + 1) = W - 1 - j by omega]
  rfl
theorem rowsTo_all (ts : List Tile) (W : Nat) (hn : 0 < ts.length) : rowsTo ts W (ts.length ^ W) = fillsF ts W W [] := (fillsF_codes ts W hn).symm
theorem pow_le_216 {n i : Nat} (hn : 1 ≤ n ∧ n ≤ 6) (hi : i ≤ 3) : 1 ≤ n ^ i ∧ n ^ i ≤ 216 :=
  ⟨Nat.pow_pos (by omega), Nat.le_trans (Nat.pow_le_pow_left hn.2 i) (Nat.le_trans (Nat.pow_le_pow_right (by decide) hi) (by decide))⟩

set_option maxRecDepth 100000 in
set_option maxHeartbeats 3200000 in
theorem specRG_no (ad : Option Addr) (c : Nat) (ts : List Tile) (a : Int) (w : World) (hn : ts.length ≤ 1048576) (hc : CellsAt w ad (wangs ts)) (h : ¬ rgOk ts a) :
    Calls Tryd.prog 48 #[.slice ad ts.length c, .int .i64 a] w (RgAt ts a w) := by
  obtain ⟨e1, e2⟩ := rg_no (fun q => h q.1)
  unfold RgAt
  rw [e1, e2]
  obtain ⟨wA, hwA⟩ : ∃ wA, wA = w.alloc (.cells #[] 37) := ⟨_, rfl⟩
  have hbA : Below w.heap.size w wA := by rw [hwA]; exact (Below.refl _ _).alloc (Nat.le_refl _) _
  have hoA : wA.ownsRow w.heap.size 37 1 (.slice (some ⟨w.heap.size, 0, none⟩) 0 0) 0 [] := by rw [hwA]; exact ownsRow_empty _ _ _
  have hare := specAre ad c ts wA hn (hc.below hbA)
  have HBA := Lib.hid hbA
  have HWA := Lib.hid hwA
  have HOA := Lib.hid hoA
  clear hbA hwA hoA hc
  by_cases hW : Wangs ts
  · rw [decide_eq_true hW] at hare
    have hS : ¬ (1 ≤ a ∧ a ≤ 3) := fun q => h ⟨hW, q⟩
    have HARE := Lib.hid hare
    clear hare h e1 e2 hW
    go_enter Tryd.func48, Tryd.ntmps48
    go_wp2_with fail
    rw [← HWA.out]
    refine HARE.out.mono ?_
    rintro e w' ⟨rfl, rfl⟩
    go_wp2_with fail
    refine (l1In_no a 1 3 _ (by omega)).mono ?_
    rintro e w' ⟨rfl, rfl⟩
    go_wp2
    go_ret2
    exact ⟨_, _, rfl, ⟨[], HOA.out, RowsIn.nil _ _⟩, HBA.out⟩
  · rw [decide_eq_false hW] at hare
    have HARE := Lib.hid hare
    clear hare h e1 e2 hW
    go_enter Tryd.func48, Tryd.ntmps48
    go_wp2_with fail
    rw [← HWA.out]
    refine HARE.out.mono ?_
    rintro e w' ⟨rfl, rfl⟩
    go_wp2
    go_ret2
    exact ⟨_, _, rfl, ⟨[], HOA.out, RowsIn.nil _ _⟩, HBA.out⟩

set_option maxRecDepth 100000 in
set_option maxHeartbeats 6400000 in
theorem specRG_many (ad : Option Addr) (c : Nat) (ts : List Tile) (W : Nat) (w : World) (hn : ts.length ≤ 1048576) (hc : CellsAt w ad (wangs ts)) (hW : Wangs ts) (h1 : 1 ≤ (W : Int)) (h2 : (W : Int) ≤ 3) (F : List (List Nat)) (hFF : fillsF ts W W [] = F) (hle : ¬ F.length ≤ 40) :
    Calls Tryd.prog 48 #[.slice ad ts.length c, .int .i64 W] w fun e w' => ∃ ad' cap', e = .returned (.tuple #[.slice ad' ([] : List (List Int)).length cap', .bool false]) ∧ OwnMat w' w.heap.size (.slice ad' ([] : List (List Int)).length cap') [] ∧ Below w.heap.size w w' := by
  have hts : 1 ≤ ts.length ∧ ts.length ≤ 6 := hW.2
  have hC := pow_le_216 hts (show W ≤ 3 by omega)
  obtain ⟨C, hCC⟩ : ∃ C, C = ts.length ^ W := ⟨_, rfl⟩
  rw [← hCC] at hC
  have hrow : rowsTo ts W C = F := by rw [hCC, rowsTo_all ts W (by omega), hFF]
  have HROW := Lib.hid hrow
  have HPOW := Lib.hid (fun i (hi : i ≤ W) => pow_le_216 hts (show i ≤ 3 by omega))
  have HCC := Lib.hid hCC
  have HISF := Lib.hid (fun k => isFill_dig (c := k) hW (show 0 < ts.length by omega) (show 1 ≤ W ∧ W ≤ 4 by omega))
  have hlen := fun g (hg : g ∈ F) => (by have q := fillsF_length ts W W [] g (by rw [hFF]; exact hg); rw [List.length_nil, Nat.zero_add] at q; exact q : g.length = W)
  have hin := fun g (hg : g ∈ F) => fillsF_in W W [] g (by rw [hFF]; exact hg) (InR.nil ts)
  have HLEN := Lib.hid hlen
  have HIN := Lib.hid hin
  obtain ⟨wA, hwA⟩ : ∃ wA, wA = w.alloc (.cells #[] 37) := ⟨_, rfl⟩
  have hbA : Below w.heap.size w wA := by rw [hwA]; exact (Below.refl _ _).alloc (Nat.le_refl _) _
  have hoA : wA.ownsRow w.heap.size 37 1 (.slice (some ⟨w.heap.size, 0, none⟩) 0 0) 0 [] := by rw [hwA]; exact ownsRow_empty _ _ _
  have hare := specAre ad c ts wA hn (hc.below hbA)
  rw [decide_eq_true hW] at hare
  have HARE := Lib.hid hare
  have HC := Lib.hid hc
  have HBA := Lib.hid hbA
  have HWA := Lib.hid hwA
  have HOA := Lib.hid hoA
  have hszA := hbA.size
  clear hbA hwA hoA hc hare hrow hCC hlen hin hW hFF
  have hn0 : ¬ (ts.length : Int) = 0 := by omega
  go_enter Tryd.func48, Tryd.ntmps48
  go_wp2_with fail
  rw [← HWA.out]
  refine HARE.out.mono ?_
  rintro e w' ⟨rfl, rfl⟩
  go_wp2_with fail
  refine (l1In_yes (W : Int) 1 3 _ (by omega) (by omega)).mono ?_
  rintro e w' ⟨rfl, rfl⟩
  go_wp2
  go_loopw [7, 8] (fun v i wr => ∃ k p : Nat, k ≤ W ∧ i = .int .i64 k ∧ v = .int .i64 p ∧ p = ts.length ^ k ∧ wr = wA) (fun _ i _ => W - (intOf i).toNat)
  case atStart => exact ⟨0, 1, Nat.zero_le _, rfl, rfl, rfl, rfl⟩
  case round =>
    obtain ⟨k, p, hk, rfl, rfl, hp, rfl⟩ := hrel
    have hpl := HPOW.out k hk
    rw [← hp] at hpl
    by_cases hlt : k < W
    · have i1 : (k : Int) < (W : Int) := by omega
      have hp2 := HPOW.out (k + 1) hlt
      obtain ⟨q, hq⟩ : ∃ q, q = ts.length ^ (k + 1) := ⟨_, rfl⟩
      rw [← hq] at hp2
      have hpq : (p : Int) * (ts.length : Int) = (q : Int) := by rw [hq, Nat.pow_succ, ← hp]; norm_cast
      have HQ := Lib.hid hq
      have t1 : wrap64 (q : Int) = (q : Int) := IntWalk.wrap64_in _ (by omega)
      have t2 : IntKind.i64.wrap (q : Int) = (q : Int) := by rw [IntWalk.i64_left]; exact t1
      clear hq hp
      go_wp2
      go_roundw
      case rel => exact ⟨k + 1, q, hlt, by go_num, rfl, HQ.out, by first | rfl | trivial⟩
      case measure => simp [intOf]; omega
    · obtain rfl : W = k := by omega
      rw [← HCC.out] at hp
      subst hp
      go_wp2
      go_loopw [6, 9] (fun s i wr => ∃ (k : Nat) (vs : List Value), k ≤ p ∧ i = .int .i64 k ∧ wr.ownsRow w.heap.size 37 1 s (rowsTo ts W k).length vs ∧ RowsIn wr w.heap.size vs ((rowsTo ts W k).map nats) ∧ Below w.heap.size w wr) (fun _ i _ => p - (intOf i).toNat)
      case atStart => exact ⟨0, [], Nat.zero_le _, rfl, HOA.out, RowsIn.nil _ _, HBA.out⟩
      case round =>
        obtain ⟨k, vs, hk, rfl, hown, hrows, hb⟩ := hrel
        obtain ⟨wo, rfl⟩ : ∃ wo : World, wo = wr := ⟨_, rfl⟩
        have HW := Lib.hid hown
        have HR := Lib.hid hrows
        have HB := Lib.hid hb
        have hszr := hb.size
        have hrl := rowsTo_length ts W k
        clear hown hrows hb
        by_cases hlt2 : k < p
        · have i1 : (k : Int) < (p : Int) := by omega
          go_wp2_with (at_make; refine wpList_make _ rfl _ _ 37 rfl 3 (.int .i64 0) 1 8 Tryd.elemInt (.int .i64 0) ?c0 W rfl rfl ?c1 ?c2 (ints (List.replicate W 0)) ?c3 ?_)
          case c0 =>
            intro i hi
            obtain rfl : i = 0 := by simpa [Value.cells] using hi
            rfl
          case c1 => omega
          case c2 => unfold maxLen; omega
          case c3 => rw [ints_length, List.length_replicate]; omega
          intro w1 hrow1 _ hb1
          rw [rgs_zero] at hrow1
          have HRW1 := Lib.hid hrow1
          have HB1 := Lib.hid hb1
          clear hrow1 hb1
          go_wp2
          go_loopw [11, 12] (fun v i wi => ∃ j x : Nat, j ≤ W ∧ i = .int .i64 ((W : Int) - 1 - (j : Int)) ∧ v = .int .i64 x ∧ x = k / ts.length ^ j ∧ wi.ownsRow wo.heap.size 3 1 (.slice (some ⟨wo.heap.size, 0, none⟩) W W) W (ints (dgTo ts.length W k j)) ∧ Below wo.heap.size wo wi) (fun _ i _ => (intOf i + 1).toNat)
          case atStart => exact ⟨0, k, Nat.zero_le _, by simp, rfl, by rw [Nat.pow_zero, Nat.div_one], by
            have e : dgTo ts.length W k 0 = List.replicate W 0 := by unfold dgTo; simp [dig, nats]
            rw [e]; exact HRW1.out, HB1.out⟩
          case round =>
            obtain ⟨j, x, hj, rfl, rfl, hx, hrw, hbi⟩ := hrel
            obtain ⟨wi, rfl⟩ : ∃ wi : World, wi = wr := ⟨_, rfl⟩
            have HRWI := Lib.hid hrw
            have HBI := Lib.hid hbi
            have hxl : x ≤ 216 := by rw [hx]; exact Nat.le_trans (Nat.div_le_self _ _) (by omega)
            have hszi := hbi.size
            clear hbi
            by_cases hjl : j < W
            · obtain ⟨ix, hix⟩ : ∃ ix : Nat, ix = W - 1 - j := ⟨_, rfl⟩
              have e1 : (W : Int) - 1 - (j : Int) = (ix : Int) := by omega
              rw [e1]
              have e2 : (ix : Int) - 1 = (W : Int) - 1 - ((j + 1 : Nat) : Int) := by omega
              have E2 := Lib.hid e2
              have hset := dgTo_succ (n := ts.length) (c := k) hjl
              rw [← hix, ← hx] at hset
              have hlen3 := dgTo_length (n := ts.length) (c := k) hj
              obtain ⟨y, hy⟩ : ∃ y, y = x % ts.length := ⟨_, rfl⟩
              obtain ⟨z, hz⟩ : ∃ z, z = x / ts.length := ⟨_, rfl⟩
              rw [← hy] at hset
              have t1 : ((x : Int)).tmod (ts.length : Int) = (y : Int) := by rw [hy]; exact (Int.ofNat_tmod x ts.length).symm
              have t2 : ((x : Int)).tdiv (ts.length : Int) = (z : Int) := by rw [hz]; exact (Int.ofNat_tdiv x ts.length).symm
              have hyl : y < 6 := by rw [hy]; exact Nat.lt_of_lt_of_le (Nat.mod_lt _ (by omega)) hts.2
              have hzl : z ≤ 216 := by rw [hz]; exact Nat.le_trans (Nat.div_le_self _ _) hxl
              have hzx : z = k / ts.length ^ (j + 1) := by rw [hz, hx, Nat.div_div_eq_div_mul, ← Nat.pow_succ]
              have HZX := Lib.hid hzx
              have HSET := Lib.hid hset
              have hixl : ix < W := by omega
              have hck := hrw.cellAt ix (by omega)
              obtain ⟨u0, hu0⟩ : ∃ u0, (ints (dgTo ts.length W k j))[ix]? = some u0 := ⟨_, List.getElem?_eq_getElem (by rw [ints_length, hlen3]; exact hixl)⟩
              rw [hu0] at hck
              have hfz := hrw.frozenAt ix
              have hst := hrw.stored ix (.int .i64 (y : Int))
              have HST := Lib.hid hst
              have i2 : (ix : Int) < (W : Int) := by omega
              clear hset hst hrw hu0 hy hz hx hzx e1 e2 hix
              go_wp2
              go_roundw
              case rel =>
                refine ⟨j + 1, z, by omega, by first | (rw [← E2.out]; done) | (rw [← E2.out]; rfl) | (rw [E2.out]; done) | (rw [E2.out]; rfl) | (congr 1; omega), rfl, HZX.out, ?_, HBI.out.grown HST.out.2 hszi (fun j hj => by cases hj; exact Nat.le_refl _)⟩
                have q := HST.out.1
                rw [rgs_set, HSET.out] at q
                exact q
              case measure => first | (simp [intOf]; done) | (simp [intOf]; omega)
            · obtain rfl : j = W := by omega
              have e1 : (j : Int) - 1 - (j : Int) = -1 := by omega
              rw [e1]
              have ed : dgTo ts.length j k j = nats (dig ts.length j k) := by unfold dgTo; simp
              rw [ed] at HRWI
              have hld : (nats (dig ts.length j k)).length = j := by rw [nats_length, dig_length]
              have hbw := HB.out.trans (HBI.out.mono hszr)
              have hif := specFill ad (some ⟨wo.heap.size, 0, none⟩) c j ts (j : Int) 1 (nats (dig ts.length j k)) wi hn (by omega) (by omega) (HC.out.below hbw) (ownsRow_cellsAt HRWI.out)
              rw [HISF.out k, hld] at hif
              have HIF := Lib.hid hif
              have HLD := Lib.hid hld
              have hszw := hbw.size
              clear hif hbw ed hx hrw hld e1
              cases hok : okRow ts j k with
              | true =>
                rw [hok] at HIF
                have HY := Lib.hid (rowsTo_yes hok)
                clear hok
                go_wp2_with fail
                refine HIF.out.mono ?_
                rintro e w5 ⟨rfl, hb5⟩
                have hro : w5.ownsRow wo.heap.size 3 1 (.slice (some ⟨wo.heap.size, 0, none⟩) (nats (dig ts.length j k)).length j) (nats (dig ts.length j k)).length (ints (nats (dig ts.length j k))) := by
                  rw [HLD.out]
                  exact ownsRow_far_below HRWI.out hb5 (Nat.le_refl _)
                have hb05 := HBI.out.trans (hb5.mono hszi)
                have hsn := RowsIn.snoc HR.out hb05 hszr hro
                rw [HLD.out] at hsn
                have HSN := Lib.hid hsn
                have HW5 := Lib.hid (ownsRow_far_below HW.out hb05 (Nat.le_refl _))
                have HB5 := Lib.hid (HB.out.trans (hb05.mono hszr))
                have hsz5 := HB5.out.size
                clear hsn hro hb5 hb05
                go_wp2_with (at_builtin; refine wpList_app1 rfl (.tmp 67) (.tmp 69) 60 rfl w.heap.size 37 (.slice none 0 0) 1 24 Tryd.elemInts _ (rowsTo ts j k).length vs _ _ _ rfl rfl rfl HW5.out (by rfl) (by simp [Value.oneCell']) (by unfold maxLen; omega) (by omega) (by omega) ?_; intro g' cap w6 q1 q2 q3 q4 q5 q6)
                go_wp2
                go_roundw
                case rel =>
                  refine ⟨k + 1, vs ++ [.slice (some ⟨wo.heap.size, 0, none⟩) j j], by omega, by go_num, ?_, ?_, HB5.out.trans q2⟩
                  · rw [HY.out, List.length_append, List.length_singleton]
                    exact q1
                  · rw [HY.out, List.map_append]
                    exact HSN.out.grown HW5.out (by decide) q3
                case measure => simp [intOf]; omega
              | false =>
                rw [hok] at HIF
                have HY := Lib.hid (rowsTo_no hok)
                clear hok
                go_wp2_with fail
                refine HIF.out.mono ?_
                rintro e w5 ⟨rfl, hb5⟩
                have hb05 := HBI.out.trans (hb5.mono hszi)
                have HB5 := Lib.hid (HB.out.trans (hb05.mono hszr))
                have HW5 := Lib.hid (ownsRow_far_below HW.out hb05 (Nat.le_refl _))
                have HR5 := Lib.hid (HR.out.below hb05)
                clear hb5 hb05
                go_wp2
                go_roundw
                case rel => exact ⟨k + 1, vs, by omega, by go_num, by rw [HY.out]; exact HW5.out, by rw [HY.out]; exact HR5.out, HB5.out⟩
                case measure => simp [intOf]; omega
        · obtain rfl : k = p := by omega
          rw [HROW.out] at HW HR hrl
          obtain ⟨av, cv, rfl, _⟩ := ownsRow_cells HW.out
          have i40 : (40 : Int) < (F.length : Int) := by omega
          have hsz := HB.out.size
          have HE := Lib.hid (ownsRow_rebase (ownsRow_empty wo 37 1) hsz)
          go_wp2
          go_ret2
          exact ⟨_, _, rfl, ⟨[], HE.out, RowsIn.nil _ _⟩, HB.out.alloc hsz _⟩

set_option maxRecDepth 100000 in
set_option maxHeartbeats 6400000 in
theorem specRG_few (ad : Option Addr) (c : Nat) (ts : List Tile) (W : Nat) (w : World) (hn : ts.length ≤ 1048576) (hc : CellsAt w ad (wangs ts)) (hW : Wangs ts) (h1 : 1 ≤ (W : Int)) (h2 : (W : Int) ≤ 3) (F : List (List Nat)) (hFF : fillsF ts W W [] = F) (hle : F.length ≤ 40) :
    Calls Tryd.prog 48 #[.slice ad ts.length c, .int .i64 W] w fun e w' => ∃ ad' cap', e = .returned (.tuple #[.slice ad' (rgTo ts W F F.length).length cap', .bool true]) ∧ OwnMat w' w.heap.size (.slice ad' (rgTo ts W F F.length).length cap') (rgTo ts W F F.length) ∧ Below w.heap.size w w' := by
  have hts : 1 ≤ ts.length ∧ ts.length ≤ 6 := hW.2
  have hC := pow_le_216 hts (show W ≤ 3 by omega)
  obtain ⟨C, hCC⟩ : ∃ C, C = ts.length ^ W := ⟨_, rfl⟩
  rw [← hCC] at hC
  have hrow : rowsTo ts W C = F := by rw [hCC, rowsTo_all ts W (by omega), hFF]
  have HROW := Lib.hid hrow
  have HPOW := Lib.hid (fun i (hi : i ≤ W) => pow_le_216 hts (show i ≤ 3 by omega))
  have HCC := Lib.hid hCC
  have HISF := Lib.hid (fun k => isFill_dig (c := k) hW (show 0 < ts.length by omega) (show 1 ≤ W ∧ W ≤ 4 by omega))
  have hlen := fun g (hg : g ∈ F) => (by have q := fillsF_length ts W W [] g (by rw [hFF]; exact hg); rw [List.length_nil, Nat.zero_add] at q; exact q : g.length = W)
  have hin := fun g (hg : g ∈ F) => fillsF_in W W [] g (by rw [hFF]; exact hg) (InR.nil ts)
  have HLEN := Lib.hid hlen
  have HIN := Lib.hid hin
  obtain ⟨wA, hwA⟩ : ∃ wA, wA = w.alloc (.cells #[] 37) := ⟨_, rfl⟩
  have hbA : Below w.heap.size w wA := by rw [hwA]; exact (Below.refl _ _).alloc (Nat.le_refl _) _
  have hoA : wA.ownsRow w.heap.size 37 1 (.slice (some ⟨w.heap.size, 0, none⟩) 0 0) 0 [] := by rw [hwA]; exact ownsRow_empty _ _ _
  have hare := specAre ad c ts wA hn (hc.below hbA)
  rw [decide_eq_true hW] at hare
  have HARE := Lib.hid hare
  have HC := Lib.hid hc
  have HBA := Lib.hid hbA
  have HWA := Lib.hid hwA
  have HOA := Lib.hid hoA
  have hszA := hbA.size
  clear hbA hwA hoA hc hare hrow hCC hlen hin hW hFF
  have hn0 : ¬ (ts.length : Int) = 0 := by omega
  go_enter Tryd.func48, Tryd.ntmps48
  go_wp2_with fail
  rw [← HWA.out]
  refine HARE.out.mono ?_
  rintro e w' ⟨rfl, rfl⟩
  go_wp2_with fail
  refine (l1In_yes (W : Int) 1 3 _ (by omega) (by omega)).mono ?_
  rintro e w' ⟨rfl, rfl⟩
  go_wp2
  go_loopw [7, 8] (fun v i wr => ∃ k p : Nat, k ≤ W ∧ i = .int .i64 k ∧ v = .int .i64 p ∧ p = ts.length ^ k ∧ wr = wA) (fun _ i _ => W - (intOf i).toNat)
  case atStart => exact ⟨0, 1, Nat.zero_le _, rfl, rfl, rfl, rfl⟩
  case round =>
    obtain ⟨k, p, hk, rfl, rfl, hp, rfl⟩ := hrel
    have hpl := HPOW.out k hk
    rw [← hp] at hpl
    by_cases hlt : k < W
    · have i1 : (k : Int) < (W : Int) := by omega
      have hp2 := HPOW.out (k + 1) hlt
      obtain ⟨q, hq⟩ : ∃ q, q = ts.length ^ (k + 1) := ⟨_, rfl⟩
      rw [← hq] at hp2
      have hpq : (p : Int) * (ts.length : Int) = (q : Int) := by rw [hq, Nat.pow_succ, ← hp]; norm_cast
      have HQ := Lib.hid hq
      have t1 : wrap64 (q : Int) = (q : Int) := IntWalk.wrap64_in _ (by omega)
      have t2 : IntKind.i64.wrap (q : Int) = (q : Int) := by rw [IntWalk.i64_left]; exact t1
      clear hq hp
      go_wp2
      go_roundw
      case rel => exact ⟨k + 1, q, hlt, by go_num, rfl, HQ.out, by first | rfl | trivial⟩
      case measure => simp [intOf]; omega
    · obtain rfl : W = k := by omega
      rw [← HCC.out] at hp
      subst hp
      go_wp2
      go_loopw [6, 9] (fun s i wr => ∃ (k : Nat) (vs : List Value), k ≤ p ∧ i = .int .i64 k ∧ wr.ownsRow w.heap.size 37 1 s (rowsTo ts W k).length vs ∧ RowsIn wr w.heap.size vs ((rowsTo ts W k).map nats) ∧ Below w.heap.size w wr) (fun _ i _ => p - (intOf i).toNat)
      case atStart => exact ⟨0, [], Nat.zero_le _, rfl, HOA.out, RowsIn.nil _ _, HBA.out⟩
      case round =>
        obtain ⟨k, vs, hk, rfl, hown, hrows, hb⟩ := hrel
        obtain ⟨wo, rfl⟩ : ∃ wo : World, wo = wr := ⟨_, rfl⟩
        have HW := Lib.hid hown
        have HR := Lib.hid hrows
        have HB := Lib.hid hb
        have hszr := hb.size
        have hrl := rowsTo_length ts W k
        clear hown hrows hb
        by_cases hlt2 : k < p
        · have i1 : (k : Int) < (p : Int) := by omega
          go_wp2_with (at_make; refine wpList_make _ rfl _ _ 37 rfl 3 (.int .i64 0) 1 8 Tryd.elemInt (.int .i64 0) ?c0 W rfl rfl ?c1 ?c2 (ints (List.replicate W 0)) ?c3 ?_)
          case c0 =>
            intro i hi
            obtain rfl : i = 0 := by simpa [Value.cells] using hi
            rfl
          case c1 => omega
          case c2 => unfold maxLen; omega
          case c3 => rw [ints_length, List.length_replicate]; omega
          intro w1 hrow1 _ hb1
          rw [rgs_zero] at hrow1
          have HRW1 := Lib.hid hrow1
          have HB1 := Lib.hid hb1
          clear hrow1 hb1
          go_wp2
          go_loopw [11, 12] (fun v i wi => ∃ j x : Nat, j ≤ W ∧ i = .int .i64 ((W : Int) - 1 - (j : Int)) ∧ v = .int .i64 x ∧ x = k / ts.length ^ j ∧ wi.ownsRow wo.heap.size 3 1 (.slice (some ⟨wo.heap.size, 0, none⟩) W W) W (ints (dgTo ts.length W k j)) ∧ Below wo.heap.size wo wi) (fun _ i _ => (intOf i + 1).toNat)
          case atStart => exact ⟨0, k, Nat.zero_le _, by simp, rfl, by rw [Nat.pow_zero, Nat.div_one], by
            have e : dgTo ts.length W k 0 = List.replicate W 0 := by unfold dgTo; simp [dig, nats]
            rw [e]; exact HRW1.out, HB1.out⟩
          case round =>
            obtain ⟨j, x, hj, rfl, rfl, hx, hrw, hbi⟩ := hrel
            obtain ⟨wi, rfl⟩ : ∃ wi : World, wi = wr := ⟨_, rfl⟩
            have HRWI := Lib.hid hrw
            have HBI := Lib.hid hbi
            have hxl : x ≤ 216 := by rw [hx]; exact Nat.le_trans (Nat.div_le_self _ _) (by omega)
            have hszi := hbi.size
            clear hbi
            by_cases hjl : j < W
            · obtain ⟨ix, hix⟩ : ∃ ix : Nat, ix = W - 1 - j := ⟨_, rfl⟩
              have e1 : (W : Int) - 1 - (j : Int) = (ix : Int) := by omega
              rw [e1]
              have e2 : (ix : Int) - 1 = (W : Int) - 1 - ((j + 1 : Nat) : Int) := by omega
              have E2 := Lib.hid e2
              have hset := dgTo_succ (n := ts.length) (c := k) hjl
              rw [← hix, ← hx] at hset
              have hlen3 := dgTo_length (n := ts.length) (c := k) hj
              obtain ⟨y, hy⟩ : ∃ y, y = x % ts.length := ⟨_, rfl⟩
              obtain ⟨z, hz⟩ : ∃ z, z = x / ts.length := ⟨_, rfl⟩
              rw [← hy] at hset
              have t1 : ((x : Int)).tmod (ts.length : Int) = (y : Int) := by rw [hy]; exact (Int.ofNat_tmod x ts.length).symm
              have t2 : ((x : Int)).tdiv (ts.length : Int) = (z : Int) := by rw [hz]; exact (Int.ofNat_tdiv x ts.length).symm
              have hyl : y < 6 := by rw [hy]; exact Nat.lt_of_lt_of_le (Nat.mod_lt _ (by omega)) hts.2
              have hzl : z ≤ 216 := by rw [hz]; exact Nat.le_trans (Nat.div_le_self _ _) hxl
              have hzx : z = k / ts.length ^ (j + 1) := by rw [hz, hx, Nat.div_div_eq_div_mul, ← Nat.pow_succ]
              have HZX := Lib.hid hzx
              have HSET := Lib.hid hset
              have hixl : ix < W := by omega
              have hck := hrw.cellAt ix (by omega)
              obtain ⟨u0, hu0⟩ : ∃ u0, (ints (dgTo ts.length W k j))[ix]? = some u0 := ⟨_, List.getElem?_eq_getElem (by rw [ints_length, hlen3]; exact hixl)⟩
              rw [hu0] at hck
              have hfz := hrw.frozenAt ix
              have hst := hrw.stored ix (.int .i64 (y : Int))
              have HST := Lib.hid hst
              have i2 : (ix : Int) < (W : Int) := by omega
              clear hset hst hrw hu0 hy hz hx hzx e1 e2 hix
              go_wp2
              go_roundw
              case rel =>
                refine ⟨j + 1, z, by omega, by first | (rw [← E2.out]; done) | (rw [← E2.out]; rfl) | (rw [E2.out]; done) | (rw [E2.out]; rfl) | (congr 1; omega), rfl, HZX.out, ?_, HBI.out.grown HST.out.2 hszi (fun j hj => by cases hj; exact Nat.le_refl _)⟩
                have q := HST.out.1
                rw [rgs_set, HSET.out] at q
                exact q
              case measure => first | (simp [intOf]; done) | (simp [intOf]; omega)
            · obtain rfl : j = W := by omega
              have e1 : (j : Int) - 1 - (j : Int) = -1 := by omega
              rw [e1]
              have ed : dgTo ts.length j k j = nats (dig ts.length j k) := by unfold dgTo; simp
              rw [ed] at HRWI
              have hld : (nats (dig ts.length j k)).length = j := by rw [nats_length, dig_length]
              have hbw := HB.out.trans (HBI.out.mono hszr)
              have hif := specFill ad (some ⟨wo.heap.size, 0, none⟩) c j ts (j : Int) 1 (nats (dig ts.length j k)) wi hn (by omega) (by omega) (HC.out.below hbw) (ownsRow_cellsAt HRWI.out)
              rw [HISF.out k, hld] at hif
              have HIF := Lib.hid hif
              have HLD := Lib.hid hld
              have hszw := hbw.size
              clear hif hbw ed hx hrw hld e1
              cases hok : okRow ts j k with
              | true =>
                rw [hok] at HIF
                have HY := Lib.hid (rowsTo_yes hok)
                clear hok
                go_wp2_with fail
                refine HIF.out.mono ?_
                rintro e w5 ⟨rfl, hb5⟩
                have hro : w5.ownsRow wo.heap.size 3 1 (.slice (some ⟨wo.heap.size, 0, none⟩) (nats (dig ts.length j k)).length j) (nats (dig ts.length j k)).length (ints (nats (dig ts.length j k))) := by
                  rw [HLD.out]
                  exact ownsRow_far_below HRWI.out hb5 (Nat.le_refl _)
                have hb05 := HBI.out.trans (hb5.mono hszi)
                have hsn := RowsIn.snoc HR.out hb05 hszr hro
                rw [HLD.out] at hsn
                have HSN := Lib.hid hsn
                have HW5 := Lib.hid (ownsRow_far_below HW.out hb05 (Nat.le_refl _))
                have HB5 := Lib.hid (HB.out.trans (hb05.mono hszr))
                have hsz5 := HB5.out.size
                clear hsn hro hb5 hb05
                go_wp2_with (at_builtin; refine wpList_app1 rfl (.tmp 67) (.tmp 69) 60 rfl w.heap.size 37 (.slice none 0 0) 1 24 Tryd.elemInts _ (rowsTo ts j k).length vs _ _ _ rfl rfl rfl HW5.out (by rfl) (by simp [Value.oneCell']) (by unfold maxLen; omega) (by omega) (by omega) ?_; intro g' cap w6 q1 q2 q3 q4 q5 q6)
                go_wp2
                go_roundw
                case rel =>
                  refine ⟨k + 1, vs ++ [.slice (some ⟨wo.heap.size, 0, none⟩) j j], by omega, by go_num, ?_, ?_, HB5.out.trans q2⟩
                  · rw [HY.out, List.length_append, List.length_singleton]
                    exact q1
                  · rw [HY.out, List.map_append]
                    exact HSN.out.grown HW5.out (by decide) q3
                case measure => simp [intOf]; omega
              | false =>
                rw [hok] at HIF
                have HY := Lib.hid (rowsTo_no hok)
                clear hok
                go_wp2_with fail
                refine HIF.out.mono ?_
                rintro e w5 ⟨rfl, hb5⟩
                have hb05 := HBI.out.trans (hb5.mono hszi)
                have HB5 := Lib.hid (HB.out.trans (hb05.mono hszr))
                have HW5 := Lib.hid (ownsRow_far_below HW.out hb05 (Nat.le_refl _))
                have HR5 := Lib.hid (HR.out.below hb05)
                clear hb5 hb05
                go_wp2
                go_roundw
                case rel => exact ⟨k + 1, vs, by omega, by go_num, by rw [HY.out]; exact HW5.out, by rw [HY.out]; exact HR5.out, HB5.out⟩
                case measure => simp [intOf]; omega
        · obtain rfl : k = p := by omega
          rw [HROW.out] at HW HR hrl
          obtain ⟨av, cv, rfl, _⟩ := ownsRow_cells HW.out
          have i40 : ¬ (40 : Int) < (F.length : Int) := by omega
          have hf40 : F.length ≤ 40 := hle
          have HLL := Lib.hid (rgTo_length ts W F F.length)
          have hr0 : RowsIn wo w.heap.size vs (rgTo ts W F 0) := by
            have e : rgTo ts W F 0 = F.map nats := by unfold rgTo; simp
            rw [e]; exact HR.out
          have HR0 := Lib.hid hr0
          clear hr0
          go_wp2
          go_loopw [6, 14] (fun s i wr => ∃ (k : Nat) (vs : List Value), k ≤ F.length ∧ i = .int .i64 k ∧ wr.ownsRow w.heap.size 37 1 s (F.length + k) vs ∧ RowsIn wr w.heap.size vs (rgTo ts W F k) ∧ Below w.heap.size w wr) (fun _ i _ => F.length - (intOf i).toNat)
          case atStart => exact ⟨0, vs, Nat.zero_le _, rfl, HW.out, HR0.out, HB.out⟩
          case round =>
            obtain ⟨k, vs, hk, rfl, hown, hrows, hb⟩ := hrel
            obtain ⟨wq, rfl⟩ : ∃ wq : World, wq = wr := ⟨_, rfl⟩
            have HW := Lib.hid hown
            have HR := Lib.hid hrows
            have HB := Lib.hid hb
            have hszr := hb.size
            clear hown hrows hb
            obtain ⟨av, cv, rfl, _⟩ := ownsRow_cells HW.out
            by_cases hlt2 : k < F.length
            · have i1 : (k : Int) < (F.length : Int) := by omega
              have hmat : OwnMat wq w.heap.size (.slice av (F.length + k) cv) (rgTo ts W F k) := ⟨vs, by rw [rgTo_length]; exact HW.out, HR.out⟩
              have HMAT := Lib.hid hmat
              obtain ⟨g, ai, ci, rfl, ⟨_, hg⟩, y0, hrow⟩ := matRow hmat (show k < (rgTo ts W F k).length by rw [rgTo_length]; omega)
              have ek : (rgTo ts W F k)[k]'(by rw [rgTo_length]; omega) = nats F[k] := Option.some.inj ((List.getElem?_eq_getElem _).symm.trans (rgTo_at ts W F k k hlt2))
              rw [ek, nats_length] at y0 hrow
              have hia := HIN.out _ (List.getElem_mem hlt2)
              have hla := HLEN.out _ (List.getElem_mem hlt2)
              have HRC := Lib.hid (ownsRow_cellsAt hrow)
              have HSUC := Lib.hid (rgTo_succ ts W F k)
              have hfk : F.getD k [] = F[k] := by simp [List.getD_eq_getElem?_getD, hlt2]
              have HYES := Lib.hid (fun j (q : fitV ts F[k] (F.getD j []) W = true) => nextTo_yes (ts := ts) (W := W) (i := k) (k := j) (rows := F) (by rw [hfk]; exact q))
              have HNO := Lib.hid (fun j (q : fitV ts F[k] (F.getD j []) W = false) => nextTo_no (ts := ts) (W := W) (i := k) (k := j) (rows := F) (by rw [hfk]; exact q))
              have HNL := Lib.hid (fun j => nextTo_length ts W F k j)
              clear hrow ek hfk hmat
              generalize F[k] = fa at y0 hia hla HRC HYES HNO
              have HEM := Lib.hid (ownsRow_empty wq 3 1)
              have hbem : Below wq.heap.size wq (wq.alloc (.cells #[] 3)) := (Below.refl _ _).alloc (Nat.le_refl _) _
              have HBEM := Lib.hid hbem
              clear hbem
              go_wp2
              go_loopw [15, 16] (fun s i wi => ∃ j : Nat, j ≤ F.length ∧ i = .int .i64 j ∧ wi.ownsRow wq.heap.size 3 1 s (nextTo ts W F k j).length (ints (nats (nextTo ts W F k j))) ∧ Below wq.heap.size wq wi) (fun _ i _ => F.length - (intOf i).toNat)
              case atStart => exact ⟨0, Nat.zero_le _, rfl, HEM.out, HBEM.out⟩
              case round =>
                obtain ⟨j, hj, rfl, hfit, hbi⟩ := hrel
                obtain ⟨wi, rfl⟩ : ∃ wi : World, wi = wr := ⟨_, rfl⟩
                have HFIT := Lib.hid hfit
                have HBI := Lib.hid hbi
                have hszi := hbi.size
                have hnl := HNL.out j
                clear hfit hbi
                by_cases hjl : j < F.length
                · have i2 : (j : Int) < (F.length : Int) := by omega
                  obtain ⟨g2, aj, cj, hgg, ⟨_, hg2⟩, u0, hrow2⟩ := matRow HMAT.out (show j < (rgTo ts W F k).length by rw [rgTo_length]; omega)
                  cases hgg
                  have ej : (rgTo ts W F k)[j]'(by rw [rgTo_length]; omega) = nats F[j] := Option.some.inj ((List.getElem?_eq_getElem _).symm.trans (rgTo_at ts W F k j hjl))
                  rw [ej, nats_length] at u0 hrow2
                  have u1 := (HBI.out.cell (p := ⟨g, j, none⟩) hg).trans u0
                  have y1 := (HBI.out.cell (p := ⟨g, k, none⟩) hg).trans y0
                  have hib := HIN.out _ (List.getElem_mem hjl)
                  have hlb := HLEN.out _ (List.getElem_mem hjl)
                  have HRA := Lib.hid (HRC.out.below HBI.out)
                  have HRB := Lib.hid ((ownsRow_cellsAt hrow2).below HBI.out)
                  have HTL := Lib.hid (HC.out.below (HB.out.trans (HBI.out.mono hszr)))
                  have hfj : F.getD j [] = F[j] := by simp [List.getD_eq_getElem?_getD, hjl]
                  have HY := Lib.hid (fun q => HYES.out j (by rw [hfj]; exact q))
                  have HN := Lib.hid (fun q => HNO.out j (by rw [hfj]; exact q))
                  have g1 : (k : Int) < ((F.length : Int) + (k : Int)) := by omega
                  have g2' : (j : Int) < ((F.length : Int) + (k : Int)) := by omega
                  clear u0 hrow2 ej hfj
                  generalize F[j] = fb at u1 hib hlb HRB HY HN
                  have X1 := Lib.hid y1
                  have X2 := Lib.hid u1
                  clear y1 u1
                  go_wp2
                  go_loopw [17, 18] (fun s i wx => ∃ x : Nat, x ≤ W ∧ i = .int .i64 x ∧ s = .bool (fitV ts fa fb x) ∧ ∃ m, wx = wi.drewN m) (fun _ i _ => W - (intOf i).toNat)
                  case atStart => exact ⟨0, Nat.zero_le _, rfl, rfl, 0, rfl⟩
                  case round =>
                    obtain ⟨x, hx, rfl, rfl, m, hwx⟩ := hrel
                    have hbx : Below wi.heap.size wi wr := by rw [hwx]; exact below_drewN (Below.refl _ _) m
                    have HWX := Lib.hid hwx
                    have HBX := Lib.hid hbx
                    have y1 := (hbx.cell (p := ⟨g, k, none⟩) (by show g < _; omega)).trans X1.out
                    have u1 := (hbx.cell (p := ⟨g, j, none⟩) (by show g < _; omega)).trans X2.out
                    clear hwx hbx
                    by_cases hxl : x < W
                    · have i3 : (x : Int) < (W : Int) := by omega
                      have hsu : fitV ts fa fb (x + 1) = (fitV ts fa fb x && decide ((Tl ts (At fa x)).b = (Tl ts (At fb x)).t)) := rfl
                      cases hf : fitV ts fa fb x with
                      | false =>
                        rw [hf, Bool.false_and] at hsu
                        have HSU := Lib.hid hsu
                        clear hsu
                        go_wp2
                        go_big_quiet (fail)
                        go_wp2
                        go_roundw
                        case rel => exact ⟨x + 1, by omega, by go_num, by rw [HSU.out], _, by rw [HWX.out]; exact World.drewN_drewN ..⟩
                        case measure => simp [intOf]; omega
                      | true =>
                        rw [hf, Bool.true_and] at hsu
                        have HSU := Lib.hid hsu
                        obtain ⟨gt, ot, hat, hgt, hcc⟩ := tl_cells (HTL.out.below HBX.out) (show 0 < ts.length by omega)
                        obtain ⟨ga, oa, hga, _, hca⟩ := (HRA.out.below HBX.out).open (by rw [ints_length, nats_length]; omega)
                        obtain ⟨gb, ob, hgb, _, hcb⟩ := (HRB.out.below HBX.out).open (by rw [ints_length, nats_length]; omega)
                        have v1 := hca x _ (nats_at (by omega))
                        have v2 := hcb x _ (nats_at (by omega))
                        have l1 := hia x (by omega)
                        have l2 := hib x (by omega)
                        obtain ⟨_, _, v3, _⟩ := hcc (At fa x) l1
                        obtain ⟨v4, _, _, _⟩ := hcc (At fb x) l2
                        have la1 : (x : Int) < (fa.length : Int) := by omega
                        have lb1 : (x : Int) < (fb.length : Int) := by omega
                        clear hsu hca hcb hcc
                        generalize At fa x = pa at v1 v3 l1 HSU
                        generalize At fb x = pb at v2 v4 l2 HSU
                        have l1' : (pa : Int) < (ts.length : Int) := by omega
                        have l2' : (pb : Int) < (ts.length : Int) := by omega
                        generalize (Tl ts pa).b = ba at v3 HSU
                        generalize (Tl ts pb).t = tb at v4 HSU
                        subst hat
                        subst hga
                        subst hgb
                        go_wp2
                        go_big_quiet (fail)
                        go_wp2
                        go_roundw
                        case rel => exact ⟨x + 1, by omega, by go_num, by rw [HSU.out]; rfl, _, by rw [HWX.out]; exact World.drewN_drewN ..⟩
                        case measure => simp [intOf]; omega
                    · obtain rfl : x = W := by omega
                      have hbx2 := HBI.out.trans (HBX.out.mono hszi)
                      have HBX2 := Lib.hid hbx2
                      have hszx := hbx2.size
                      have HF2 := Lib.hid (ownsRow_far_below HFIT.out HBX.out (Nat.le_refl _))
                      clear hbx2 u1 y1
                      cases hf : fitV ts fa fb x with
                      | true =>
                        have HYY := Lib.hid (HY.out hf)
                        clear hf
                        go_wp2_with (at_builtin; refine wpList_app1 rfl (.tmp 120) (.tmp 122) 37 rfl wq.heap.size 3 _ 1 8 Tryd.elemInt _ _ _ _ _ _ rfl rfl rfl HF2.out (by rfl) (by simp [Value.oneCell']) (by unfold maxLen; omega) (by omega) (by omega) ?_; intro g' cap w4 q1 q2 q3 q4 q5 q6)
                        go_wp2
                        go_roundw
                        case rel =>
                          refine ⟨j + 1, by omega, by go_num, ?_, HBX2.out.trans q2⟩
                          rw [HYY.out, nats_snoc, ints_append, List.length_append, List.length_singleton]
                          exact q1
                        case measure => simp [intOf]; omega
                      | false =>
                        have HYY := Lib.hid (HN.out hf)
                        clear hf
                        go_wp2
                        go_roundw
                        case rel => exact ⟨j + 1, by omega, by go_num, by rw [HYY.out]; exact HF2.out, HBX2.out⟩
                        case measure => simp [intOf]; omega
                · obtain rfl : j = F.length := by omega
                  obtain ⟨af, cf, rfl, _⟩ := ownsRow_cells HFIT.out
                  have hW2 := ownsRow_far_below HW.out HBI.out (Nat.le_refl _)
                  have hro : wi.ownsRow wq.heap.size 3 1 (.slice af (nats (nextTo ts W F k F.length)).length cf) (nats (nextTo ts W F k F.length)).length (ints (nats (nextTo ts W F k F.length))) := by rw [nats_length]; exact HFIT.out
                  have hsn := RowsIn.snoc HR.out HBI.out hszr hro
                  rw [nats_length, ← HSUC.out] at hsn
                  have HSN := Lib.hid hsn
                  have HW2 := Lib.hid hW2
                  clear hsn hW2 hro
                  go_wp2_with (at_builtin; refine wpList_app1 rfl (.tmp 124) (.tmp 126) 60 rfl w.heap.size 37 (.slice none 0 0) 1 24 Tryd.elemInts _ (F.length + k) vs _ _ _ rfl rfl rfl HW2.out (by rfl) (by simp [Value.oneCell']) (by unfold maxLen; omega) (by omega) (by omega) ?_; intro g' cap w5 q1 q2 q3 q4 q5 q6)
                  go_wp2
                  go_roundw
                  case rel => exact ⟨k + 1, _, by omega, by go_num, q1, HSN.out.grown HW2.out (by decide) q3, (HB.out.trans (HBI.out.mono hszr)).trans q2⟩
                  case measure => simp [intOf]; omega
            · obtain rfl : k = F.length := by omega
              go_wp2
              go_ret2
              rw [HLL.out]
              exact ⟨av, cv, rfl, ⟨vs, by rw [HLL.out]; exact HW.out, HR.out⟩, HB.out⟩

theorem specRG (ad : Option Addr) (c : Nat) (ts : List Tile) (a : Int) (w : World) (hn : ts.length ≤ 1048576) (hc : CellsAt w ad (wangs ts)) :
    Calls Tryd.prog 48 #[.slice ad ts.length c, .int .i64 a] w (RgAt ts a w) := by
  by_cases h : rgOk ts a
  · obtain ⟨W, rfl⟩ := Int.eq_ofNat_of_zero_le (by have := h.2.1; omega : 0 ≤ a)
    obtain ⟨e1, e2⟩ := rg_val h
    unfold RgAt
    rw [e1, e2]
    by_cases q : (fillsF ts W W []).length ≤ 40
    · rw [if_pos q, decide_eq_true q]
      exact specRG_few ad c ts W w hn hc h.1 h.2.1 h.2.2 _ rfl q
    · rw [if_neg q, decide_eq_false q]
      exact specRG_many ad c ts W w hn hc h.1 h.2.1 h.2.2 _ rfl q
  · exact specRG_no ad c ts a w hn hc h
end Go.Proofs.YtdnklmdmafbogaaDoor
