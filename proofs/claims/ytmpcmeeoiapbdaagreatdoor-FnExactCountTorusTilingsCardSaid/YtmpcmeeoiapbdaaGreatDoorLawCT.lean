/- LawCT: the program's CountTorusTilings returns what the reference's returns, for all sides and all pieces, where the library's tables lie as their initialisers lay them (the card ties that to the program's text). -/
import Derived.Test.YtmpcmeeoiapbdaaGreatDoorAllFrame
import Derived.Test.YtmpcmeeoiapbdaaGreatDoorFrameShp
import Derived.Test.YtmpcmeeoiapbdaaGreatDoorShpsLaw
import Derived.Test.YtmpcmeeoiapbdaaGreatDoorCountT
import Derived.Test.YtmpcmeeoiapbdaaGreatDoorTied
import Derived.Test.YtmpcmeeoiapbdaaGreatDoorTie
import Derived.Test.YtmpcmeeoiapbdaaGreatDoorCards
import Derived.SevenTiedAt
import Derived.Deep.RegionHeld3
namespace Go.Proofs.YtmpcmeeoiapbdaaGreatDoor.lawCT
open Go.ChangeShapes Go.WideShapes Go.ChangeAt Go.RowKit

theorem both (x : Int) (_wx : (Lit.int .i64 x).wf = true) (y : Int) (_wy : (Lit.int .i64 y).wf = true) (ps : List (List Cl)) (hnp : ps.length ≤ 1048576) (hl : ∀ p ∈ ps, p.length ≤ 1048576) :
    ∃ r0 : Int, True ∧
      (∀ w al cl, ps.length ≤ cl → ShpsAt w al ps → Calls Tryz.prog 13 #[.int .i64 x, .int .i64 y, .slice al ps.length cl] w fun e w' => e = .returned (.int .i64 r0) ∧ Below w.heap.size w w') ∧
      ∀ w al cl, ps.length ≤ cl → ShpsAt w al ps → Tab w → Calls Tryz.prog 15 #[.int .i64 x, .int .i64 y, .slice al ps.length cl] w fun e w' => e = .returned (.int .i64 r0) ∧ Below w.heap.size w w' := by
  refine ⟨ctR x y ps, trivial, ?_⟩
  by_cases h : TorOk x y ps
  · obtain ⟨⟨h1, h2, h3, h4⟩, hp⟩ := h
    obtain ⟨W, rfl⟩ := Int.eq_ofNat_of_zero_le (by omega : 0 ≤ x)
    obtain ⟨H, rfl⟩ := Int.eq_ofNat_of_zero_le (by omega : 0 ≤ y)
    exact ⟨fun w al cl _ q1 => specCT_yes W H (by omega) (by omega) al cl ps w hp hnp hl q1, fun w al cl _ q1 q3 => implCT_yes W H (by omega) (by omega) al cl ps w hp q3 q1⟩
  · exact ⟨fun w al cl _ q1 => specCT_no x y al cl ps w h hnp hl q1, fun w al cl _ q1 _ => implCT_no x y al cl ps w h hnp hl q1⟩

set_option maxRecDepth 100000 in
set_option maxHeartbeats 4000000 in
theorem walk (w : World) (a0 : Int) (w0_ : (Lit.int .i64 a0).wf = true) (a1 : Int) (w1_ : (Lit.int .i64 a1).wf = true) (ad2 : Option Addr) (cap2 : Nat) (xs2 : List (List Cl)) (hm2 : xs2.length ≤ maxLen) (hc2 : ShpsAt w ad2 xs2) (hw2 : ∀ q ∈ xs2, q.length ≤ maxLen) (hT : Tab w) :
    Calls Tryz.prog 3 #[.int .i64 a0, .int .i64 a1, .slice ad2 xs2.length cap2] w fun e w' => e = .returned (.bool true) ∧ Below w.heap.size w w' := by
  unfold maxLen at hm2
  have HT := Lib.hid hT
  clear hT
  unfold maxLen at hw2
  have H2 := Lib.hid hc2
  clear hc2
  by_cases hn2_ : tot xs2 ≤ 1048576
  · skip
    have hl2 : ∀ q ∈ xs2, q.length ≤ 1048576 := fun q hq => by have := tot_mem hq; omega
    have hn2 : xs2.length ≤ 1048576 := by have := tot_len xs2; omega
    obtain ⟨r0, HL, hs, hi⟩ := both a0 w0_ a1 w1_ xs2 hn2 hl2
    have HS := Lib.hid hs
    have HI := Lib.hid hi
    clear hs hi w0_ w1_
    have nn0 : (r0 != r0) = false := by simp
    have q0 : Below w.heap.size w w := Below.refl _ _
    go_enter Tryz.func3, Tryz.ntmps3
    go_wp2_with fail
    refine (szCellSS_any _ _ _ _ _ hm2 hw2 (by omega) (by omega) (H2.out.below q0)).mono ?_
    rw [if_neg (by omega)]
    rintro e w' ⟨rfl, rfl⟩
    go_wp2_with fail
    refine (toCellSS_any _ _ xs2 _ hn2 hl2 (H2.out.below q0)).mono ?_
    rintro e w1 ⟨a1_, c1_, rfl, ho1, hb1⟩
    have z1 := hb1.size
    have q1 : Below w.heap.size w w1 := q0.trans (hb1.mono q0.size)
    have S2 := Lib.hid (OwnP.of ho1)
    clear ho1
    go_wp2_with fail
    refine (HS.out _ _ _ S2.out.le_cap S2.out.cells).mono ?_
    rintro e w2 ⟨rfl, hb2⟩
    have z2 := hb2.size
    have q2 : Below w.heap.size w w2 := q1.trans (hb2.mono q1.size)
    have S2_2 := Lib.hid (S2.out.below hb2 (by omega))
    clear S2
    clear S2_2
    go_wp2_with fail
    refine (toCellSS_any _ _ xs2 _ hn2 hl2 (H2.out.below q2)).mono ?_
    rintro e w3 ⟨a3_, c3_, rfl, ho3, hb3⟩
    have z3 := hb3.size
    have q3 : Below w.heap.size w w3 := q2.trans (hb3.mono q2.size)
    have X2 := Lib.hid (OwnP.of ho3)
    clear ho3
    go_wp2_with fail
    refine (HI.out _ _ _ X2.out.le_cap X2.out.cells (HT.out.below q3)).mono ?_
    rintro e w4 ⟨rfl, hb4⟩
    have z4 := hb4.size
    have q4 : Below w.heap.size w w4 := q3.trans (hb4.mono q3.size)
    have X2_4 := Lib.hid (X2.out.below hb4 (by omega))
    clear X2
    go_wp2_with fail
    refine (toCellSS_any _ _ xs2 _ hn2 hl2 (H2.out.below q4)).mono ?_
    rintro e w5 ⟨a5_, c5_, rfl, ho5, hb5⟩
    have z5 := hb5.size
    have q5 : Below w.heap.size w w5 := q4.trans (hb5.mono q4.size)
    have X2_5 := Lib.hid (X2_4.out.below hb5 (by omega))
    clear X2_4
    have Y2 := Lib.hid (OwnP.of ho5)
    clear ho5
    go_wp2_with fail
    refine (eqCellSS_same _ _ _ _ xs2 _ hn2 hl2 X2_5.out.cells Y2.out.cells).mono ?_
    rintro e w6 ⟨rfl, hb6⟩
    have z6 := hb6.size
    have q6 : Below w.heap.size w w6 := q5.trans (hb6.mono q5.size)
    have X2_6 := Lib.hid (X2_5.out.below hb6 (by omega))
    clear X2_5
    have Y2_6 := Lib.hid (Y2.out.below hb6 (by omega))
    clear Y2
    clear Y2_6
    go_wp2_with fail
    go_ret
    exact ⟨rfl, q6⟩
  · skip
    go_enter Tryz.func3, Tryz.ntmps3
    have q0 : Below w.heap.size w w := Below.refl _ _
    go_wp2_with fail
    refine (szCellSS_any _ _ _ _ _ hm2 hw2 (by omega) (by omega) (H2.out.below q0)).mono ?_
    rw [if_pos (by omega)]
    rintro e w' ⟨rfl, rfl⟩
    go_wp2_with fail
    go_ret
    exact ⟨rfl, Below.refl _ _⟩

set_option maxRecDepth 100000 in
theorem lifted (os : Os) (started : os.Started) (H : Type) (enc : TypeId × Value → H) :
    ReturnsInHanded {} Tryz.checked os 3 .any (fun w args => (Rows.fnExactCountTorusTilingsSpec.pre enc Tryz.prog Tryz.f3 Rows.fnExactCountTorusTilingsRow.domain false w args ∧ laidMetH Tryz.prog tabs w) ∧ sizedMet enc Tryz.prog Tryz.f3 (OpenSpec.ofChange Rows.fnExactCountTorusTilingsSpec) false w args) (Rows.fnExactCountTorusTilingsSpec.post enc Tryz.prog Tryz.f3 false true false false) := by
  refine returnsInHanded_of_change_and (C := Tryz.checked) (X := fun w _ => laidMetH Tryz.prog tabs w) (fun _ _ _ hh h => h.of_heap hh) Tryz.own started (by kernel_rfl) Tryz.func3
    (ChangeSpec.witness_shaped (enc := enc) (C := Tryz.checked) (os := os) (X := fun w _ => laidMetH Tryz.prog tabs w) false (World.laidAll Tryz.prog os tabs) #[.int .i64 0, .int .i64 0, .slice none 0 0] 8 (World.laidAll_os _ _ _)
      (World.shaped_of_ZipB (by kernel_rfl) (by kernel_rfl)) (by kernel_rfl) (by kernel_rfl) (by kernel_rfl)
      (by rw [MakeChecks.laidMetH_plain _ _ _ (by kernel_rfl)]; exact laidMet_laidAll _ (by kernel_rfl) (by kernel_rfl))) ?_
  intro W base args ds gs before hval0 hW hcnd _ hL _
  have hval : ∀ (j : Nat) t v, Tryz.f3.params[j]? = some t → args[j]? = some v → Value.okWide Tryz.prog W .any base t v := hval0
  have hW' := hW
  obtain ⟨p, q, hA0, hV, rfl, hfz, hnd⟩ := hW
  have hA : DataW.TrodAll enc Tryz.prog W 0 (fun _ => true) true Tryz.f3.params.toList args.toList ds p := hA0
  rw [Tryz.params3] at hA hval
  obtain ⟨v0, vs0, d0, ds0, p0, q0, hargs, rfl, rfl, h0, r0⟩ := trodAll_cons hA
  obtain ⟨v1, vs1, d1, ds1, p1, q1, rfl, rfl, rfl, h1, r1⟩ := trodAll_cons r0
  obtain ⟨v2, vs2, d2, ds2, p2, q2, rfl, rfl, rfl, h2, r2⟩ := trodAll_cons r1
  obtain ⟨rfl, rfl, rfl⟩ := trodAll_nil r2
  obtain rfl : args = #[v0, v1, v2] := by cases args; simp_all
  obtain ⟨rfl, rfl⟩ := trodVars_none hV
  obtain ⟨a0, rfl, rfl, rfl, w0⟩ := open_int Tryz.underlying3 (hval 0 3 v0 rfl rfl) h0
  obtain ⟨a1, rfl, rfl, rfl, w1⟩ := open_int Tryz.underlying3 (hval 1 3 v1 rfl rfl) h1
  obtain ⟨ad2, cap2, xs2, rfl, hm2, hc2, hw2⟩ := openShps (hval 2 22 v2 rfl rfl) h2
  clear hA0 hval0
  refine (walk W a0 w0 a1 w1 ad2 cap2 xs2 hm2 hc2 hw2 (tab_of_laid hL)).mono fun e W' ⟨he, hb⟩ => ?_
  subst he
  exact ⟨_, rfl, law_post rfl hW' hb (by rw [Tryz.params3]; exact readable_all (by kernel_rfl)) (by kernel_rfl) (by kernel_rfl) rfl⟩

theorem proved : Rows.FnExactCountTorusTilingsSaid :=
  OpenClaim.holds_of_wide 3 Tryz.f3 rfl rfl rfl rfl rfl rfl rfl ⟨rfl, rfl, rfl, rfl, rfl⟩ rfl rfl rfl rfl rfl (by kernel_rfl) Tryz.func3 (by kernel_rfl)
    (of_decide_eq_true (by kernel_rfl)) (by unfold Func.isWrapper; first | (rw [if_pos (by decide +kernel)]; kernel_rfl) | (rw [if_neg (by decide +kernel)]; exact ⟨rfl, rfl⟩))
    (fun os started H enc _ => lifted os started H enc)

theorem card : Rows.FnExactCountTorusTilingsCardSaid :=
  Claim7.holds_tied_plain_at .later [] [.data, .data] true (true, "d8e196497d65242edc6db36037073e4bb15a84c2436841dd753778a5d0b116b2") false proved (fun _ h => by cases h) (by kernel_rfl) (fun _ h => by cases h) fnExactCountTorusTilings_row_tie rfl ⟨rfl, rfl⟩ (by kernel_rfl) rfl
    (fun f fn hf hfn => by
      obtain rfl : f = 3 := Option.some.inj ((show Tryz.prog.funcNamed "loop.example/g03400/laws.FnExactCountTorusTilings" = some 3 by kernel_rfl).symm.trans hf) |>.symm
      obtain rfl : fn = Tryz.f3 := (Option.some.inj (Tryz.func3.symm.trans hfn)).symm
      exact ⟨by kernel_rfl, fun j t ht => by
        have hm : t ∈ Tryz.f3.params.toList := Array.mem_toList_iff.2 (Array.mem_of_getElem? ht)
        have hall : (Tryz.f3.params.toList.all fun u => !Tryz.prog.wantsStandIn u) = true := by kernel_rfl
        exact (show Tryz.prog.wantsStandIn t = false by simpa using List.all_eq_true.1 hall t hm)⟩)
    (by kernel_rfl)
end Go.Proofs.YtmpcmeeoiapbdaaGreatDoor.lawCT
