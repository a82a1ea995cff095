/- LawTT: the program's IsTorusTiling returns what the reference's returns, for all sides, all pieces and every list of numbers, where the library's tables lie as their initialisers lay them (the card ties that to the program's text). -/
import Derived.Test.YtipikojinfpidaaGreatDoorAllFrame
import Derived.Test.YtipikojinfpidaaGreatDoorFrameShp
import Derived.Test.YtipikojinfpidaaGreatDoorShpsLaw
import Derived.Test.YtipikojinfpidaaGreatDoorCover
import Derived.Test.YtipikojinfpidaaGreatDoorTied
import Derived.Test.YtipikojinfpidaaGreatDoorTie
import Derived.Test.YtipikojinfpidaaGreatDoorCards
import Derived.SevenTiedAt
import Derived.Deep.RegionHeld3
namespace Go.Proofs.YtipikojinfpidaaGreatDoor.lawTT
open Go.ChangeShapes Go.WideShapes Go.ChangeAt Go.RowKit

theorem both (x : Int) (_wx : (Lit.int .i64 x).wf = true) (y : Int) (_wy : (Lit.int .i64 y).wf = true) (ps : List (List Cl)) (hnp : ps.length ≤ 1048576) (hl : ∀ p ∈ ps, p.length ≤ 1048576) (l : List Int) (_hwl : ∀ x ∈ l, (Lit.int .i64 x).wf = true) (hnl : l.length ≤ 1048576) :
    ∃ r0 : Bool, True ∧
      (∀ w al cl am cm, ps.length ≤ cl → l.length ≤ cm → ShpsAt w al ps → CellsAt w am (ints l) → Calls Tryz.prog 16 #[.int .i64 x, .int .i64 y, .slice al ps.length cl, .slice am l.length cm] w fun e w' => e = .returned (.bool r0) ∧ Below w.heap.size w w') ∧
      ∀ w al cl am cm, ps.length ≤ cl → l.length ≤ cm → ShpsAt w al ps → CellsAt w am (ints l) → Tab w → Calls Tryz.prog 18 #[.int .i64 x, .int .i64 y, .slice al ps.length cl, .slice am l.length cm] w fun e w' => e = .returned (.bool r0) ∧ Below w.heap.size w w' := by
  refine ⟨ttR x y ps l, trivial, ?_⟩
  by_cases h : (1 ≤ x ∧ x ≤ 5 ∧ 1 ≤ y ∧ y ≤ 5) ∧ Pcs ps
  · obtain ⟨⟨h1, h2, h3, h4⟩, hp⟩ := h
    obtain ⟨W, rfl⟩ := Int.eq_ofNat_of_zero_le (by omega : 0 ≤ x)
    obtain ⟨H, rfl⟩ := Int.eq_ofNat_of_zero_le (by omega : 0 ≤ y)
    exact ⟨fun w al cl am cm _ _ q1 q2 => specTT_yes W H (by omega) (by omega) al cl ps am cm l w hp hnp hl hnl q1 q2, fun w al cl am cm _ _ q1 q2 q3 => implTT_yes W H (by omega) (by omega) al cl ps am cm l w hp q3 hnp hl hnl q1 q2⟩
  · exact ⟨fun w al cl am cm _ _ q1 q2 => specTT_no x y al cl ps am cm l w h hnp hl hnl q1 q2, fun w al cl am cm _ _ q1 q2 _ => implTT_no x y al cl ps am cm l w h hnp hl hnl q1 q2⟩

set_option maxRecDepth 100000 in
set_option maxHeartbeats 4000000 in
theorem walk (w : World) (a0 : Int) (w0_ : (Lit.int .i64 a0).wf = true) (a1 : Int) (w1_ : (Lit.int .i64 a1).wf = true) (ad2 : Option Addr) (cap2 : Nat) (xs2 : List (List Cl)) (hm2 : xs2.length ≤ maxLen) (hc2 : ShpsAt w ad2 xs2) (hw2 : ∀ q ∈ xs2, q.length ≤ maxLen) (ad3 : Option Addr) (cap3 : Nat) (xs3 : List Int) (hm3 : xs3.length ≤ maxLen) (hc3 : CellsAt w ad3 (ints xs3)) (hw3 : ∀ x ∈ xs3, (Lit.int .i64 x).wf = true) (hT : Tab w) :
    Calls Tryz.prog 4 #[.int .i64 a0, .int .i64 a1, .slice ad2 xs2.length cap2, .slice ad3 xs3.length cap3] w fun e w' => e = .returned (.bool true) ∧ Below w.heap.size w w' := by
  unfold maxLen at hm2
  unfold maxLen at hm3
  have HT := Lib.hid hT
  clear hT
  unfold maxLen at hw2
  have H2 := Lib.hid hc2
  clear hc2
  have H3 := Lib.hid hc3
  clear hc3
  by_cases hn3 : xs3.length ≤ 1048576
  · skip
    by_cases hn2_ : tot xs2 ≤ 1048576
    · skip
      have hl2 : ∀ q ∈ xs2, q.length ≤ 1048576 := fun q hq => by have := tot_mem hq; omega
      have hn2 : xs2.length ≤ 1048576 := by have := tot_len xs2; omega
      obtain ⟨r0, HL, hs, hi⟩ := both a0 w0_ a1 w1_ xs2 hn2 hl2 xs3 hw3 hn3
      have HS := Lib.hid hs
      have HI := Lib.hid hi
      clear hs hi hw3 w0_ w1_
      have nn0 : (r0 != r0) = false := by simp
      have q0 : Below w.heap.size w w := Below.refl _ _
      go_enter Tryz.func4, Tryz.ntmps4
      go_wp2_with fail
      refine (szCellSS_any _ _ _ _ _ hm2 hw2 (by omega) (by omega) (H2.out.below q0)).mono ?_
      rw [if_neg (by omega)]
      rintro e w' ⟨rfl, rfl⟩
      go_wp2_with fail
      refine (toCellSS_any _ _ xs2 _ hn2 hl2 (H2.out.below q0)).mono ?_
      rintro e w1 ⟨a1_, c1_, rfl, ho1, hb1⟩
      have z1 := hb1.size
      have q1 : Below w.heap.size w w1 := q0.trans (hb1.mono q0.size)
      have S2 := Lib.hid (OwnP.of ho1)
      clear ho1
      go_wp2_with fail
      refine (toIntS_any _ _ xs3 _ hn3 (H3.out.below q1)).mono ?_
      rintro e w2 ⟨a2_, c2_, rfl, ho2, hb2⟩
      have z2 := hb2.size
      have q2 : Below w.heap.size w w2 := q1.trans (hb2.mono q1.size)
      have S2_2 := Lib.hid (S2.out.below hb2 (by omega))
      clear S2
      have S3 := Lib.hid (Owned.of ho2)
      clear ho2
      go_wp2_with fail
      refine (HS.out _ _ _ _ _ S2_2.out.le_cap S3.out.le_cap S2_2.out.cells S3.out.cells).mono ?_
      rintro e w3 ⟨rfl, hb3⟩
      have z3 := hb3.size
      have q3 : Below w.heap.size w w3 := q2.trans (hb3.mono q2.size)
      have S2_3 := Lib.hid (S2_2.out.below hb3 (by omega))
      clear S2_2
      have S3_3 := Lib.hid (S3.out.below hb3 (by omega))
      clear S3
      clear S2_3
      clear S3_3
      go_wp2_with fail
      refine (toCellSS_any _ _ xs2 _ hn2 hl2 (H2.out.below q3)).mono ?_
      rintro e w4 ⟨a4_, c4_, rfl, ho4, hb4⟩
      have z4 := hb4.size
      have q4 : Below w.heap.size w w4 := q3.trans (hb4.mono q3.size)
      have X2 := Lib.hid (OwnP.of ho4)
      clear ho4
      go_wp2_with fail
      refine (toIntS_any _ _ xs3 _ hn3 (H3.out.below q4)).mono ?_
      rintro e w5 ⟨a5_, c5_, rfl, ho5, hb5⟩
      have z5 := hb5.size
      have q5 : Below w.heap.size w w5 := q4.trans (hb5.mono q4.size)
      have X2_5 := Lib.hid (X2.out.below hb5 (by omega))
      clear X2
      have X3 := Lib.hid (Owned.of ho5)
      clear ho5
      go_wp2_with fail
      refine (HI.out _ _ _ _ _ X2_5.out.le_cap X3.out.le_cap X2_5.out.cells X3.out.cells (HT.out.below q5)).mono ?_
      rintro e w6 ⟨rfl, hb6⟩
      have z6 := hb6.size
      have q6 : Below w.heap.size w w6 := q5.trans (hb6.mono q5.size)
      have X2_6 := Lib.hid (X2_5.out.below hb6 (by omega))
      clear X2_5
      have X3_6 := Lib.hid (X3.out.below hb6 (by omega))
      clear X3
      go_wp2_with fail
      refine (toCellSS_any _ _ xs2 _ hn2 hl2 (H2.out.below q6)).mono ?_
      rintro e w7 ⟨a7_, c7_, rfl, ho7, hb7⟩
      have z7 := hb7.size
      have q7 : Below w.heap.size w w7 := q6.trans (hb7.mono q6.size)
      have X2_7 := Lib.hid (X2_6.out.below hb7 (by omega))
      clear X2_6
      have X3_7 := Lib.hid (X3_6.out.below hb7 (by omega))
      clear X3_6
      have Y2 := Lib.hid (OwnP.of ho7)
      clear ho7
      go_wp2_with fail
      refine (eqCellSS_same _ _ _ _ xs2 _ hn2 hl2 X2_7.out.cells Y2.out.cells).mono ?_
      rintro e w8 ⟨rfl, hb8⟩
      have z8 := hb8.size
      have q8 : Below w.heap.size w w8 := q7.trans (hb8.mono q7.size)
      have X2_8 := Lib.hid (X2_7.out.below hb8 (by omega))
      clear X2_7
      have X3_8 := Lib.hid (X3_7.out.below hb8 (by omega))
      clear X3_7
      have Y2_8 := Lib.hid (Y2.out.below hb8 (by omega))
      clear Y2
      clear Y2_8
      go_wp2_with fail
      refine (toIntS_any _ _ xs3 _ hn3 (H3.out.below q8)).mono ?_
      rintro e w9 ⟨a9_, c9_, rfl, ho9, hb9⟩
      have z9 := hb9.size
      have q9 : Below w.heap.size w w9 := q8.trans (hb9.mono q8.size)
      have X2_9 := Lib.hid (X2_8.out.below hb9 (by omega))
      clear X2_8
      have X3_9 := Lib.hid (X3_8.out.below hb9 (by omega))
      clear X3_8
      have Y3 := Lib.hid (Owned.of ho9)
      clear ho9
      go_wp2_with fail
      refine (eqIntS_same _ _ _ _ xs3 _ hn3 X3_9.out.cells Y3.out.cells).mono ?_
      rintro e w10 ⟨rfl, hb10⟩
      have z10 := hb10.size
      have q10 : Below w.heap.size w w10 := q9.trans (hb10.mono q9.size)
      have X2_10 := Lib.hid (X2_9.out.below hb10 (by omega))
      clear X2_9
      have X3_10 := Lib.hid (X3_9.out.below hb10 (by omega))
      clear X3_9
      have Y3_10 := Lib.hid (Y3.out.below hb10 (by omega))
      clear Y3
      clear Y3_10
      go_wp2_with fail
      go_ret
      exact ⟨rfl, q10⟩
    · skip
      go_enter Tryz.func4, Tryz.ntmps4
      have q0 : Below w.heap.size w w := Below.refl _ _
      go_wp2_with fail
      refine (szCellSS_any _ _ _ _ _ hm2 hw2 (by omega) (by omega) (H2.out.below q0)).mono ?_
      rw [if_pos (by omega)]
      rintro e w' ⟨rfl, rfl⟩
      go_wp2_with fail
      go_ret
      exact ⟨rfl, Below.refl _ _⟩
  · skip
    go_enter Tryz.func4, Tryz.ntmps4
    have q0 : Below w.heap.size w w := Below.refl _ _
    go_wp2_with fail
    go_ret
    exact ⟨rfl, Below.refl _ _⟩

set_option maxRecDepth 100000 in
theorem lifted (os : Os) (started : os.Started) (H : Type) (enc : TypeId × Value → H) :
    ReturnsInHanded {} Tryz.checked os 4 .any (fun w args => (Rows.fnExactIsTorusTilingSpec.pre enc Tryz.prog Tryz.f4 Rows.fnExactIsTorusTilingRow.domain false w args ∧ laidMetH Tryz.prog tabs w) ∧ sizedMet enc Tryz.prog Tryz.f4 (OpenSpec.ofChange Rows.fnExactIsTorusTilingSpec) false w args) (Rows.fnExactIsTorusTilingSpec.post enc Tryz.prog Tryz.f4 false true false false) := by
  refine returnsInHanded_of_change_and (C := Tryz.checked) (X := fun w _ => laidMetH Tryz.prog tabs w) (fun _ _ _ hh h => h.of_heap hh) Tryz.own started (by kernel_rfl) Tryz.func4
    (ChangeSpec.witness_shaped (enc := enc) (C := Tryz.checked) (os := os) (X := fun w _ => laidMetH Tryz.prog tabs w) false (World.laidAll Tryz.prog os tabs) #[.int .i64 0, .int .i64 0, .slice none 0 0, .slice none 0 0] 8 (World.laidAll_os _ _ _)
      (World.shaped_of_ZipB (by kernel_rfl) (by kernel_rfl)) (by kernel_rfl) (by kernel_rfl) (by kernel_rfl)
      (by rw [MakeChecks.laidMetH_plain _ _ _ (by kernel_rfl)]; exact laidMet_laidAll _ (by kernel_rfl) (by kernel_rfl))) ?_
  intro W base args ds gs before hval0 hW hcnd _ hL _
  have hval : ∀ (j : Nat) t v, Tryz.f4.params[j]? = some t → args[j]? = some v → Value.okWide Tryz.prog W .any base t v := hval0
  have hW' := hW
  obtain ⟨p, q, hA0, hV, rfl, hfz, hnd⟩ := hW
  have hA : DataW.TrodAll enc Tryz.prog W 0 (fun _ => true) true Tryz.f4.params.toList args.toList ds p := hA0
  rw [Tryz.params4] at hA hval
  obtain ⟨v0, vs0, d0, ds0, p0, q0, hargs, rfl, rfl, h0, r0⟩ := trodAll_cons hA
  obtain ⟨v1, vs1, d1, ds1, p1, q1, rfl, rfl, rfl, h1, r1⟩ := trodAll_cons r0
  obtain ⟨v2, vs2, d2, ds2, p2, q2, rfl, rfl, rfl, h2, r2⟩ := trodAll_cons r1
  obtain ⟨v3, vs3, d3, ds3, p3, q3, rfl, rfl, rfl, h3, r3⟩ := trodAll_cons r2
  obtain ⟨rfl, rfl, rfl⟩ := trodAll_nil r3
  obtain rfl : args = #[v0, v1, v2, v3] := by cases args; simp_all
  obtain ⟨rfl, rfl⟩ := trodVars_none hV
  obtain ⟨a0, rfl, rfl, rfl, w0⟩ := open_int Tryz.underlying3 (hval 0 3 v0 rfl rfl) h0
  obtain ⟨a1, rfl, rfl, rfl, w1⟩ := open_int Tryz.underlying3 (hval 1 3 v1 rfl rfl) h1
  obtain ⟨ad2, cap2, xs2, rfl, hm2, hc2, hw2⟩ := openShps (hval 2 22 v2 rfl rfl) h2
  obtain ⟨ad3, cap3, xs3, rfl, hm3, hc3, hw3⟩ := openInts (hval 3 29 v3 rfl rfl) h3
  clear hA0 hval0
  refine (walk W a0 w0 a1 w1 ad2 cap2 xs2 hm2 hc2 hw2 ad3 cap3 xs3 hm3 hc3 hw3 (tab_of_laid hL)).mono fun e W' ⟨he, hb⟩ => ?_
  subst he
  exact ⟨_, rfl, law_post rfl hW' hb (by rw [Tryz.params4]; exact readable_all (by kernel_rfl)) (by kernel_rfl) (by kernel_rfl) rfl⟩

theorem proved : Rows.FnExactIsTorusTilingSaid :=
  OpenClaim.holds_of_wide 4 Tryz.f4 rfl rfl rfl rfl rfl rfl rfl ⟨rfl, rfl, rfl, rfl, rfl⟩ rfl rfl rfl rfl rfl (by kernel_rfl) Tryz.func4 (by kernel_rfl)
    (of_decide_eq_true (by kernel_rfl)) (by unfold Func.isWrapper; first | (rw [if_pos (by decide +kernel)]; kernel_rfl) | (rw [if_neg (by decide +kernel)]; exact ⟨rfl, rfl⟩))
    (fun os started H enc _ => lifted os started H enc)

theorem card : Rows.FnExactIsTorusTilingCardSaid :=
  Claim7.holds_tied_plain_at .later [] [.data, .data] true (true, "80a4e931d251524b05026fea52584d37b7517a7a435b94b08c8dca9cc6029bbd") false proved (fun _ h => by cases h) (by kernel_rfl) (fun _ h => by cases h) fnExactIsTorusTiling_row_tie rfl ⟨rfl, rfl⟩ (by kernel_rfl) rfl
    (fun f fn hf hfn => by
      obtain rfl : f = 4 := Option.some.inj ((show Tryz.prog.funcNamed "loop.example/g03400/laws.FnExactIsTorusTiling" = some 4 by kernel_rfl).symm.trans hf) |>.symm
      obtain rfl : fn = Tryz.f4 := (Option.some.inj (Tryz.func4.symm.trans hfn)).symm
      exact ⟨by kernel_rfl, fun j t ht => by
        have hm : t ∈ Tryz.f4.params.toList := Array.mem_toList_iff.2 (Array.mem_of_getElem? ht)
        have hall : (Tryz.f4.params.toList.all fun u => !Tryz.prog.wantsStandIn u) = true := by kernel_rfl
        exact (show Tryz.prog.wantsStandIn t = false by simpa using List.all_eq_true.1 hall t hm)⟩)
    (by kernel_rfl)
end Go.Proofs.YtipikojinfpidaaGreatDoor.lawTT
