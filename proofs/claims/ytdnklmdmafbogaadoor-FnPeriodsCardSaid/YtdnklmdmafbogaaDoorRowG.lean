/- RowG: the walk of the program's RowGraph. -/
import Derived.Test.YtdnklmdmafbogaaDoorRowV
import Derived.Test.YtdnklmdmafbogaaDoorAreWang
import Derived.BigQuiet
import Derived.IntWalk
namespace Go.Proofs.YtdnklmdmafbogaaDoor
open Go.RowKit

/-- A result of RowGraph: a list of rows of the call's own. -/
def RgAt (ts : List Tile) (a : Int) (w : World) (e : Ending) (w' : World) : Prop :=
  ∃ ad' cap', e = .returned (.tuple #[.slice ad' (rgL ts a).length cap', .bool (rgB ts a)]) ∧ OwnMat w' w.heap.size (.slice ad' (rgL ts a).length cap') (rgL ts a) ∧ Below w.heap.size w w'
theorem rg_no {ts : List Tile} {a : Int} (h : ¬ (rgOk ts a ∧ (rgF ts a).length ≤ 40)) : rgL ts a = [] ∧ rgB ts a = false := ⟨if_neg h, decide_eq_false h⟩
theorem OwnMat.nil (w : World) (base : Nat) : OwnMat w base (.slice none 0 0) [] := ⟨[], World.ownsRow_nil _ _ _ _, RowsIn.nil _ _⟩
/-- A row of a slice of rows that a call has made. -/
theorem matRow {w : World} {base n c : Nat} {ad : Option Addr} {rows : List (List Int)} (h : OwnMat w base (.slice ad n c) rows) {i : Nat} (hi : i < rows.length) :
    ∃ g ai ci, ad = some ⟨g, 0, none⟩ ∧ (base ≤ g ∧ g < w.heap.size) ∧ w.cell? ⟨g, i, none⟩ = some (.slice ai rows[i].length ci) ∧ w.ownsRow base 3 1 (.slice ai rows[i].length ci) rows[i].length (ints rows[i]) := by
  obtain ⟨vals, h1, h2, h3, _⟩ := h
  obtain ⟨ai, ci, q1, q2⟩ := h3 i rows[i] (by simp [hi])
  obtain ⟨g, c', hv, hb, hlt⟩ := h1.form (show 0 < rows.length by omega)
  cases hv
  refine ⟨g, ai, ci, rfl, ⟨hb, hlt⟩, ?_, q2⟩
  rw [h1.cellAt i (by omega)]
  exact q1
/-- A fill's places are tiles. -/
theorem fillsF_in {ts : List Tile} (b : Nat) : ∀ (n : Nat) (f g : List Nat), g ∈ fillsF ts b n f → InR ts f → InR ts g
  | 0, f, g, h, hf => by
    rw [fillsF, List.mem_singleton] at h
    rw [h]
    exact hf
  | n + 1, f, g, h, hf => by
    rw [fillsF, List.mem_flatMap] at h
    obtain ⟨t, ht, h⟩ := h
    split at h
    · exact fillsF_in b n _ g h (hf.snoc (List.mem_range.1 ht))
    · simp at h

set_option maxRecDepth 100000 in
set_option maxHeartbeats 3200000 in
theorem implRG_no (ad : Option Addr) (c : Nat) (ts : List Tile) (a : Int) (w : World) (hn : ts.length ≤ 1048576) (hc : CellsAt w ad (wangs ts)) (h : ¬ rgOk ts a) :
    Calls Tryd.prog 47 #[.slice ad ts.length c, .int .i64 a] w (RgAt ts a w) := by
  obtain ⟨e1, e2⟩ := rg_no (fun q => h q.1)
  unfold RgAt
  rw [e1, e2]
  have hare := implAre ad c ts w hn hc
  by_cases hW : Wangs ts
  · rw [decide_eq_true hW] at hare
    have hS : ¬ (1 ≤ a ∧ a ≤ 3) := fun q => h ⟨hW, q⟩
    have HARE := Lib.hid hare
    clear hare hc h e1 e2 hW
    go_enter Tryd.func47, Tryd.ntmps47
    go_wp2_with fail
    refine HARE.out.mono ?_
    rintro e w1 ⟨rfl, hb1⟩
    go_wp2_with fail
    refine (between_no a 1 3 _ (by omega)).mono ?_
    rintro e w' ⟨rfl, rfl⟩
    go_wp2
    go_ret2
    exact ⟨none, 0, rfl, OwnMat.nil _ _, hb1⟩
  · rw [decide_eq_false hW] at hare
    have HARE := Lib.hid hare
    clear hare hc h e1 e2 hW
    go_enter Tryd.func47, Tryd.ntmps47
    go_wp2_with fail
    refine HARE.out.mono ?_
    rintro e w1 ⟨rfl, hb1⟩
    go_wp2
    go_ret2
    exact ⟨none, 0, rfl, OwnMat.nil _ _, hb1⟩

set_option maxRecDepth 100000 in
set_option maxHeartbeats 6400000 in
theorem implRG_few (ad : Option Addr) (c : Nat) (ts : List Tile) (W : Nat) (w : World) (hn : ts.length ≤ 1048576) (hc : CellsAt w ad (wangs ts)) (hW : Wangs ts) (h1 : 1 ≤ (W : Int)) (h2 : (W : Int) ≤ 3) (F : List (List Nat)) (hFF : fillsF ts W W [] = F) (hle : F.length ≤ 40) :
    Calls Tryd.prog 47 #[.slice ad ts.length c, .int .i64 W] w fun e w' => ∃ ad' cap', e = .returned (.tuple #[.slice ad' (rgTo ts W F F.length).length cap', .bool true]) ∧ OwnMat w' w.heap.size (.slice ad' (rgTo ts W F F.length).length cap') (rgTo ts W F F.length) ∧ Below w.heap.size w w' := by
  have hare := implAre ad c ts w hn hc
  rw [decide_eq_true hW] at hare
  have hts : 0 < ts.length := by have := hW.2; omega
  have hin := fun g (hg : g ∈ fillsF ts W W []) => fillsF_in W W [] g hg (InR.nil ts)
  have hlen := fun g (hg : g ∈ fillsF ts W W []) => fillsF_length ts W W [] g hg
  have HARE := Lib.hid hare
  have HC := Lib.hid hc
  have HIN := Lib.hid hin
  have HLEN := Lib.hid hlen
  clear hare hc hin hlen
  go_enter Tryd.func47, Tryd.ntmps47
  go_wp2_with fail
  refine HARE.out.mono ?_
  rintro e w1 ⟨rfl, hb1⟩
  go_wp2_with fail
  refine (between_yes (W : Int) 1 3 _ (by omega) (by omega)).mono ?_
  rintro e w' ⟨rfl, rfl⟩
  obtain ⟨wA, hwA⟩ : ∃ wA, wA = w1.alloc (.cells #[.slice none 0 0] 60) := ⟨_, rfl⟩
  have hbA : Below w1.heap.size w1 wA := by rw [hwA]; exact (Below.refl _ _).alloc (Nat.le_refl _) _
  have hszA : wA.heap.size = w1.heap.size + 1 := by rw [hwA]; simp
  have hA0 : wA.heap[w1.heap.size]? = some (.cells #[.slice none 0 0] 60 (0, 0)) := by rw [hwA]; exact heap_alloc_new w1 _
  have hlt : ∀ g off, ad = some ⟨g, off, none⟩ → 0 < ts.length → g < w1.heap.size := by
    intro g off hv hq
    obtain ⟨g', off', r1, r2, _⟩ := wang_open (HC.out.below hb1) hq
    rw [hv] at r1
    cases r1
    exact r2
  have hI : RowI w1.heap.size ad ts [] wA := ⟨⟨none, 0, [], hA0, World.ownsRow_nil _ _ _ _, RowsIn.nil _ _⟩, (HC.out.below hb1).below hbA, hlt⟩
  have hfills := wangFills_gen 78 #[.pointer (some ⟨w1.heap.size, 0, none⟩)] (w1.heap.size + 1) W 1 (Kin w1.heap.size (w1.heap.size + 1)) (RowFr w1.heap.size ad ts) (fun L => L.length ≤ 40) ad c ts (RowI w1.heap.size ad ts) rgCont hn ⟨by omega, by omega⟩ ⟨by omega, by omega⟩ callFunc_rg
    (fun _ _ h => Kin.of_below h) (fun _ _ _ h k => h.trans k) (fun _ _ h => h.size) (fun _ _ _ _ _ h o => h.owns o)
    (fun L Fs h k => rg_go Fs L h k) (fun L w w' v h hb hf => ⟨w, h, hb, hf⟩)
    (fun L w h => h.2.1) (fun L w w' h hb => h.below hb) (fun L f w af cf hg _ _ _ _ ho hfr => rgVisit w1.heap.size ad ts L f w af cf hg ho hfr)
    W [] [] wA none 0 (by simp) (InR.nil ts) (Nat.zero_le _) hI (by rw [hszA]; exact Nat.le_refl _) (World.ownsRow_nil _ _ _ _) ⟨wA, hI, Below.refl _ _, fun b hb => by cases hb⟩
  have hvis := visit_rg (fillsF ts W W []) [] (Nat.zero_le _)
  rw [hFF] at hfills hvis HIN HLEN
  have HV := Lib.hid hvis
  have HF := Lib.hid hfills
  have HB1 := Lib.hid hb1
  have HBA := Lib.hid (hb1.trans (hbA.mono hb1.size))
  have HWA := Lib.hid hwA
  have hsz1 := hb1.size
  clear hfills hI hvis hb1 hbA hwA hA0 hlt
  go_wp2_with fail
  rw [← HWA.out]
  refine HF.out.mono ?_
  rintro e w2 ⟨rfl, hI2, ht2⟩
  have HB2 := Lib.hid (HBA.out.trans ((ht2.below (by omega)).mono hsz1))
  have hsz2 := HB2.out.size
  have hs2 := ht2.size
  rw [HV.out, List.nil_append, List.length_nil, Nat.sub_zero] at hI2
  obtain ⟨⟨ao, co, vals, z1, z2, z3⟩, z4, _⟩ := hI2
  clear ht2 HF HV
  rw [List.take_of_length_le (by omega)] at z1 z2 z3
  have x2 := cell_of_one z1
  have hlo2 := lt_of_block z1
  have X2 := Lib.hid x2
  have HOW := Lib.hid z2
  have HRW := Lib.hid z3
  have HC2 := Lib.hid z4
  have hvl : vals.length = F.length := by rw [z3.1, List.length_map]
  have HNIL := Lib.hid (ownsRow_le_cap z2).2
  have i40 : ¬ ((40 : Int) < (F.length : Int)) := by omega
  clear z1 z2 z3 z4
  go_wp2_with (at_builtin; refine wpList_appN rfl (.const (.slice none 0 0)) (.tmp 30) 60 rfl w2.heap.size 37 (.slice none 0 0) 1 24 Tryd.elemInts _ 0 [] rfl (World.ownsRow_nil _ _ _ _) ao F.length co vals rfl HNIL.out (by omega) (ownsRow_cellsAt HOW.out) HRW.out.ones (by unfold maxLen; omega) (by omega) (by omega) ?_; intro a3 c3 w3 q1 q2 q3; have x3 := (q2.cell (p := ⟨w1.heap.size, 0, none⟩) hlo2).trans X2.out)
  rw [List.nil_append, Nat.zero_add] at q1
  have HO3 := Lib.hid q1
  have HB3 := Lib.hid q2
  have hsz3 := q2.size
  clear q1 q2 q3 x2 hvl
  go_wp2
  go_loopw [7, 34] (fun s i wr => ∃ (k : Nat) (vs : List Value), k ≤ F.length ∧ i = .int .i64 k ∧ wr.ownsRow w2.heap.size 37 1 s (F.length + k) vs ∧ RowsIn wr w.heap.size vs (rgTo ts W F k) ∧ Below w2.heap.size w2 wr) (fun _ i _ => F.length - (intOf i).toNat)
  case atStart => exact ⟨0, vals, Nat.zero_le _, rfl, HO3.out, by
    have q : RowsIn w3 (w1.heap.size + 1) vals (F.map nats) := HRW.out.below HB3.out
    have q' : RowsIn w3 w.heap.size vals (F.map nats) := ⟨q.1, fun i xs hx => by obtain ⟨ai, ci, r1, r2⟩ := q.2.1 i xs hx; exact ⟨ai, ci, r1, ownsRow_rebase r2 (by omega)⟩, q.2.2⟩
    have e : rgTo ts W F 0 = F.map nats := by unfold rgTo; simp
    rw [e]; exact q', HB3.out⟩
  case round =>
    obtain ⟨k, vs, hk, rfl, hown, hrows, hb⟩ := hrel
    obtain ⟨wo, rfl⟩ : ∃ wo : World, wo = wr := ⟨_, rfl⟩
    have HW := Lib.hid hown
    have HR := Lib.hid hrows
    have HB := Lib.hid hb
    have hszr := hb.size
    clear hown hrows hb
    by_cases hlt : k < F.length
    · have i1 : (k : Int) < (F.length : Int) := by omega
      obtain ⟨g, ai, ci, rfl, ⟨_, hg⟩, y0, hrow⟩ := matRow ⟨vals, by rw [List.length_map]; exact HOW.out, HRW.out⟩ (show k < (F.map nats).length by rw [List.length_map]; exact hlt)
      have ek : (F.map nats)[k]'(by rw [List.length_map]; exact hlt) = nats F[k] := List.getElem_map ..
      rw [ek, nats_length] at y0 hrow
      have y1 := (HB.out.cell (p := ⟨g, k, none⟩) hg).trans y0
      have x4 := (HB.out.cell (p := ⟨w1.heap.size, 0, none⟩) hlo2).trans X2.out
      have hia := HIN.out _ (List.getElem_mem hlt)
      have hla := HLEN.out _ (List.getElem_mem hlt)
      rw [List.length_nil, Nat.zero_add] at hla
      have HRC := Lib.hid (ownsRow_cellsAt hrow)
      have HSUC := Lib.hid (rgTo_succ ts W F k)
      have hfk : F.getD k [] = F[k] := by simp [List.getD_eq_getElem?_getD, hlt]
      have HYES := Lib.hid (fun j (q : fitV ts F[k] (F.getD j []) W = true) => nextTo_yes (ts := ts) (W := W) (i := k) (k := j) (rows := F) (by rw [hfk]; exact q))
      have HNO := Lib.hid (fun j (q : fitV ts F[k] (F.getD j []) W = false) => nextTo_no (ts := ts) (W := W) (i := k) (k := j) (rows := F) (by rw [hfk]; exact q))
      have HNL := Lib.hid (fun j => nextTo_length ts W F k j)
      clear y0 hrow ek hfk
      generalize F[k] = fa at y1 hia hla HRC HYES HNO
      have hlo3 := HB.out.size
      go_wp2
      go_loopw [10, 40] (fun s i wi => ∃ j : Nat, j ≤ F.length ∧ i = .int .i64 j ∧ wi.ownsRow wo.heap.size 3 1 s (nextTo ts W F k j).length (ints (nats (nextTo ts W F k j))) ∧ Below wo.heap.size wo wi) (fun _ i _ => F.length - (intOf i).toNat)
      case atStart => exact ⟨0, Nat.zero_le _, rfl, World.ownsRow_nil _ _ _ _, Below.refl _ _⟩
      case round =>
        obtain ⟨j, hj, rfl, hfit, hbi⟩ := hrel
        obtain ⟨wi, rfl⟩ : ∃ wi : World, wi = wr := ⟨_, rfl⟩
        have HFIT := Lib.hid hfit
        have HBI := Lib.hid hbi
        have hszi := hbi.size
        have hnl := HNL.out j
        clear hfit hbi
        by_cases hjl : j < F.length
        · have i2 : (j : Int) < (F.length : Int) := by omega
          obtain ⟨g2, aj, cj, hgg, ⟨_, hg2⟩, u0, hrow2⟩ := matRow ⟨vals, by rw [List.length_map]; exact HOW.out, HRW.out⟩ (show j < (F.map nats).length by rw [List.length_map]; exact hjl)
          cases hgg
          have ej : (F.map nats)[j]'(by rw [List.length_map]; exact hjl) = nats F[j] := List.getElem_map ..
          rw [ej, nats_length] at u0 hrow2
          have u1 := (HBI.out.cell (p := ⟨g, j, none⟩) (by show g < _; omega)).trans ((HB.out.cell (p := ⟨g, j, none⟩) hg).trans u0)
          have hib := HIN.out _ (List.getElem_mem hjl)
          have hlb := HLEN.out _ (List.getElem_mem hjl)
          rw [List.length_nil, Nat.zero_add] at hlb
          have hbw := HB.out.trans (HBI.out.mono hszr)
          have HRA := Lib.hid (HRC.out.below hbw)
          have HRB := Lib.hid ((ownsRow_cellsAt hrow2).below hbw)
          have HTL := Lib.hid (HC2.out.below hbw)
          have hfj : F.getD j [] = F[j] := by simp [List.getD_eq_getElem?_getD, hjl]
          have HY := Lib.hid (fun q => HYES.out j (by rw [hfj]; exact q))
          have HN := Lib.hid (fun q => HNO.out j (by rw [hfj]; exact q))
          clear u0 hrow2 ej hfj hbw
          generalize F[j] = fb at u1 hib hlb HRB HY HN
          go_wp2
          go_loopw [13, 46] (fun s i wx => ∃ x : Nat, x ≤ W ∧ i = .int .i64 x ∧ s = .bool (fitV ts fa fb x) ∧ ∃ m, wx = wi.drewN m) (fun _ i _ => W - (intOf i).toNat)
          case atStart => exact ⟨0, Nat.zero_le _, rfl, rfl, 0, rfl⟩
          case round =>
            obtain ⟨x, hx, rfl, rfl, m, hwx⟩ := hrel
            have hbx : Below wi.heap.size wi wr := by rw [hwx]; exact below_drewN (Below.refl _ _) m
            have HWX := Lib.hid hwx
            have HBX := Lib.hid hbx
            clear hwx hbx
            by_cases hxl : x < W
            · have i3 : (x : Int) < (W : Int) := by omega
              have hsu : fitV ts fa fb (x + 1) = (fitV ts fa fb x && decide ((Tl ts (At fa x)).b = (Tl ts (At fb x)).t)) := rfl
              cases hf : fitV ts fa fb x with
              | false =>
                rw [hf, Bool.false_and] at hsu
                have HSU := Lib.hid hsu
                clear hsu
                go_wp2
                go_big_quiet (fail)
                go_wp2
                go_roundw
                case rel => exact ⟨x + 1, by omega, by go_num, by rw [HSU.out], _, by rw [HWX.out]; exact World.drewN_drewN ..⟩
                case measure => simp [intOf]; omega
              | true =>
                rw [hf, Bool.true_and] at hsu
                have HSU := Lib.hid hsu
                obtain ⟨gt, ot, hat, hgt, hcc⟩ := tl_cells (HTL.out.below HBX.out) hts
                obtain ⟨ga, oa, hga, _, hca⟩ := (HRA.out.below HBX.out).open (by rw [ints_length, nats_length]; omega)
                obtain ⟨gb, ob, hgb, _, hcb⟩ := (HRB.out.below HBX.out).open (by rw [ints_length, nats_length]; omega)
                have v1 := hca x _ (nats_at (by omega))
                have v2 := hcb x _ (nats_at (by omega))
                have l1 := hia x (by omega)
                have l2 := hib x (by omega)
                obtain ⟨_, _, v3, _⟩ := hcc (At fa x) l1
                obtain ⟨v4, _, _, _⟩ := hcc (At fb x) l2
                have la1 : (x : Int) < (fa.length : Int) := by omega
                have lb1 : (x : Int) < (fb.length : Int) := by omega
                have HCC := Lib.hid hcc
                clear hsu hca hcb hcc
                generalize At fa x = pa at v1 v3 l1 HSU
                generalize At fb x = pb at v2 v4 l2 HSU
                have l1' : (pa : Int) < (ts.length : Int) := by omega
                have l2' : (pb : Int) < (ts.length : Int) := by omega
                generalize (Tl ts pa).b = ba at v3 HSU
                generalize (Tl ts pb).t = tb at v4 HSU
                subst hat
                subst hga
                subst hgb
                go_wp2
                go_big_quiet (fail)
                go_wp2
                go_roundw
                case rel => exact ⟨x + 1, by omega, by go_num, by rw [HSU.out]; rfl, _, by rw [HWX.out]; exact World.drewN_drewN ..⟩
                case measure => simp [intOf]; omega
            · obtain rfl : x = W := by omega
              have hbx2 := HBI.out.trans (HBX.out.mono hszi)
              have HBX2 := Lib.hid hbx2
              have hszx := hbx2.size
              have HF2 := Lib.hid (ownsRow_far_below HFIT.out HBX.out (Nat.le_refl _))
              clear hbx2 u1
              cases hf : fitV ts fa fb x with
              | true =>
                have HYY := Lib.hid (HY.out hf)
                clear hf
                go_wp2_with (at_builtin; refine wpList_app1 rfl (.tmp 71) (.tmp 73) 37 rfl wo.heap.size 3 _ 1 8 Tryd.elemInt _ _ _ _ _ _ rfl rfl rfl HF2.out (by rfl) (by simp [Value.oneCell']) (by unfold maxLen; omega) (by omega) (by omega) ?_; intro g' cap w4 q1 q2 q3 q4 q5 q6)
                go_wp2
                go_roundw
                case rel =>
                  refine ⟨j + 1, by omega, by go_num, ?_, HBX2.out.trans q2⟩
                  rw [HYY.out, nats_snoc, ints_append, List.length_append, List.length_singleton]
                  exact q1
                case measure => simp [intOf]; omega
              | false =>
                have HYY := Lib.hid (HN.out hf)
                clear hf
                go_wp2
                go_roundw
                case rel => exact ⟨j + 1, by omega, by go_num, by rw [HYY.out]; exact HF2.out, HBX2.out⟩
                case measure => simp [intOf]; omega
        · obtain rfl : j = F.length := by omega
          obtain ⟨af, cf, rfl, _⟩ := ownsRow_cells HFIT.out
          have hW2 := ownsRow_far_below HW.out HBI.out (Nat.le_refl _)
          have hro : wi.ownsRow wo.heap.size 3 1 (.slice af (nats (nextTo ts W F k F.length)).length cf) (nats (nextTo ts W F k F.length)).length (ints (nats (nextTo ts W F k F.length))) := by rw [nats_length]; exact HFIT.out
          have hsn := RowsIn.snoc HR.out HBI.out (by omega) hro
          rw [nats_length, ← HSUC.out] at hsn
          have HSN := Lib.hid hsn
          have HW2 := Lib.hid hW2
          clear hsn hW2 hro
          go_wp2_with (at_builtin; refine wpList_app1 rfl (.tmp 76) (.tmp 78) 60 rfl w2.heap.size 37 (.slice none 0 0) 1 24 Tryd.elemInts _ (F.length + k) vs _ _ _ rfl rfl rfl HW2.out (by rfl) (by simp [Value.oneCell']) (by unfold maxLen; omega) (by omega) (by omega) ?_; intro g' cap w5 q1 q2 q3 q4 q5 q6)
          go_wp2
          go_roundw
          case rel => exact ⟨k + 1, _, by omega, by go_num, q1, HSN.out.grown HW2.out (by decide) q3, (HB.out.trans (HBI.out.mono hszr)).trans q2⟩
          case measure => simp [intOf]; omega
    · obtain rfl : k = F.length := by omega
      obtain ⟨ax, cx, rfl, _⟩ := ownsRow_cells HW.out
      have HLL := Lib.hid (rgTo_length ts W F F.length)
      go_wp2
      go_ret2
      rw [HLL.out]
      exact ⟨ax, cx, rfl, ⟨vs, by rw [HLL.out]; exact ownsRow_rebase HW.out hsz2, HR.out⟩, HB2.out.trans (HB.out.mono hsz2)⟩

set_option maxRecDepth 100000 in
set_option maxHeartbeats 6400000 in
theorem implRG_many (ad : Option Addr) (c : Nat) (ts : List Tile) (W : Nat) (w : World) (hn : ts.length ≤ 1048576) (hc : CellsAt w ad (wangs ts)) (hW : Wangs ts) (h1 : 1 ≤ (W : Int)) (h2 : (W : Int) ≤ 3) (F : List (List Nat)) (hFF : fillsF ts W W [] = F) (hle : ¬ F.length ≤ 40) :
    Calls Tryd.prog 47 #[.slice ad ts.length c, .int .i64 W] w fun e w' => ∃ ad' cap', e = .returned (.tuple #[.slice ad' ([] : List (List Int)).length cap', .bool false]) ∧ OwnMat w' w.heap.size (.slice ad' ([] : List (List Int)).length cap') [] ∧ Below w.heap.size w w' := by
  have hare := implAre ad c ts w hn hc
  rw [decide_eq_true hW] at hare
  have hts : 0 < ts.length := by have := hW.2; omega
  have hin := fun g (hg : g ∈ fillsF ts W W []) => fillsF_in W W [] g hg (InR.nil ts)
  have hlen := fun g (hg : g ∈ fillsF ts W W []) => fillsF_length ts W W [] g hg
  have HARE := Lib.hid hare
  have HC := Lib.hid hc
  have HIN := Lib.hid hin
  have HLEN := Lib.hid hlen
  clear hare hc hin hlen
  go_enter Tryd.func47, Tryd.ntmps47
  go_wp2_with fail
  refine HARE.out.mono ?_
  rintro e w1 ⟨rfl, hb1⟩
  go_wp2_with fail
  refine (between_yes (W : Int) 1 3 _ (by omega) (by omega)).mono ?_
  rintro e w' ⟨rfl, rfl⟩
  obtain ⟨wA, hwA⟩ : ∃ wA, wA = w1.alloc (.cells #[.slice none 0 0] 60) := ⟨_, rfl⟩
  have hbA : Below w1.heap.size w1 wA := by rw [hwA]; exact (Below.refl _ _).alloc (Nat.le_refl _) _
  have hszA : wA.heap.size = w1.heap.size + 1 := by rw [hwA]; simp
  have hA0 : wA.heap[w1.heap.size]? = some (.cells #[.slice none 0 0] 60 (0, 0)) := by rw [hwA]; exact heap_alloc_new w1 _
  have hlt : ∀ g off, ad = some ⟨g, off, none⟩ → 0 < ts.length → g < w1.heap.size := by
    intro g off hv hq
    obtain ⟨g', off', r1, r2, _⟩ := wang_open (HC.out.below hb1) hq
    rw [hv] at r1
    cases r1
    exact r2
  have hI : RowI w1.heap.size ad ts [] wA := ⟨⟨none, 0, [], hA0, World.ownsRow_nil _ _ _ _, RowsIn.nil _ _⟩, (HC.out.below hb1).below hbA, hlt⟩
  have hfills := wangFills_gen 78 #[.pointer (some ⟨w1.heap.size, 0, none⟩)] (w1.heap.size + 1) W 1 (Kin w1.heap.size (w1.heap.size + 1)) (RowFr w1.heap.size ad ts) (fun L => L.length ≤ 40) ad c ts (RowI w1.heap.size ad ts) rgCont hn ⟨by omega, by omega⟩ ⟨by omega, by omega⟩ callFunc_rg
    (fun _ _ h => Kin.of_below h) (fun _ _ _ h k => h.trans k) (fun _ _ h => h.size) (fun _ _ _ _ _ h o => h.owns o)
    (fun L Fs h k => rg_go Fs L h k) (fun L w w' v h hb hf => ⟨w, h, hb, hf⟩)
    (fun L w h => h.2.1) (fun L w w' h hb => h.below hb) (fun L f w af cf hg _ _ _ _ ho hfr => rgVisit w1.heap.size ad ts L f w af cf hg ho hfr)
    W [] [] wA none 0 (by simp) (InR.nil ts) (Nat.zero_le _) hI (by rw [hszA]; exact Nat.le_refl _) (World.ownsRow_nil _ _ _ _) ⟨wA, hI, Below.refl _ _, fun b hb => by cases hb⟩
  have hvis := visit_rg (fillsF ts W W []) [] (Nat.zero_le _)
  rw [hFF] at hfills hvis HIN HLEN
  have HV := Lib.hid hvis
  have HF := Lib.hid hfills
  have HB1 := Lib.hid hb1
  have HBA := Lib.hid (hb1.trans (hbA.mono hb1.size))
  have HWA := Lib.hid hwA
  have hsz1 := hb1.size
  clear hfills hI hvis hb1 hbA hwA hA0 hlt
  go_wp2_with fail
  rw [← HWA.out]
  refine HF.out.mono ?_
  rintro e w2 ⟨rfl, hI2, ht2⟩
  have HB2 := Lib.hid (HBA.out.trans ((ht2.below (by omega)).mono hsz1))
  have hsz2 := HB2.out.size
  have hs2 := ht2.size
  rw [HV.out, List.nil_append, List.length_nil, Nat.sub_zero] at hI2
  obtain ⟨⟨ao, co, vals, z1, z2, z3⟩, z4, _⟩ := hI2
  clear ht2 HF HV
  have hl41 : (F.take 41).length = 41 := by rw [List.length_take]; omega
  rw [hl41] at z1
  have x2 := cell_of_one z1
  clear z1 z2 z3 z4
  go_wp2
  go_ret2
  exact ⟨none, 0, rfl, OwnMat.nil _ _, HB2.out⟩


theorem rg_val {ts : List Tile} {W : Nat} (h : rgOk ts W) : rgL ts W = (if (fillsF ts W W []).length ≤ 40 then rgTo ts W (fillsF ts W W []) (fillsF ts W W []).length else []) ∧ rgB ts W = decide ((fillsF ts W W []).length ≤ 40) := by
  have hF : rgF ts W = fillsF ts W W [] := by unfold rgF; rw [Int.toNat_natCast]
  constructor
  · unfold rgL
    rw [hF, Int.toNat_natCast]
    by_cases q : (fillsF ts W W []).length ≤ 40
    · rw [if_pos ⟨h, q⟩, if_pos q]
    · rw [if_neg (fun r => q r.2), if_neg q]
  · unfold rgB
    rw [hF, decide_eq_decide]
    exact ⟨fun q => q.2, fun q => ⟨h, q⟩⟩
theorem implRG_yes (ad : Option Addr) (c : Nat) (ts : List Tile) (W : Nat) (w : World) (hn : ts.length ≤ 1048576) (hc : CellsAt w ad (wangs ts)) (h : rgOk ts W) :
    Calls Tryd.prog 47 #[.slice ad ts.length c, .int .i64 W] w (RgAt ts W w) := by
  obtain ⟨e1, e2⟩ := rg_val h
  unfold RgAt
  rw [e1, e2]
  by_cases q : (fillsF ts W W []).length ≤ 40
  · rw [if_pos q, decide_eq_true q]
    exact implRG_few ad c ts W w hn hc h.1 h.2.1 h.2.2 _ rfl q
  · rw [if_neg q, decide_eq_false q]
    exact implRG_many ad c ts W w hn hc h.1 h.2.1 h.2.2 _ rfl q
theorem implRG (ad : Option Addr) (c : Nat) (ts : List Tile) (a : Int) (w : World) (hn : ts.length ≤ 1048576) (hc : CellsAt w ad (wangs ts)) :
    Calls Tryd.prog 47 #[.slice ad ts.length c, .int .i64 a] w (RgAt ts a w) := by
  by_cases h : rgOk ts a
  · obtain ⟨W, rfl⟩ := Int.eq_ofNat_of_zero_le (by have := h.2.1; omega : 0 ≤ a)
    exact implRG_yes ad c ts W w hn hc h
  · exact implRG_no ad c ts a w hn hc h
end Go.Proofs.YtdnklmdmafbogaaDoor
