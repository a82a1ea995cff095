/- LawVerd: the program's WangVerdict returns what the reference's returns, for every list of tiles, where the library's tables lie as their initialisers lay them (the card ties that to the program's text). -/
import Derived.Test.YtdnklmdmafbogaaDoorFrameWang
import Derived.Test.YtdnklmdmafbogaaDoorVerd
import Derived.Test.YtdnklmdmafbogaaDoorTied3
import Derived.Test.YtdnklmdmafbogaaDoorTie
import Derived.Test.YtdnklmdmafbogaaDoorCards
import Derived.SevenTiedAt
import Derived.Deep.RegionHeld3
namespace Go.Proofs.YtdnklmdmafbogaaDoor.lawVerd
open Go.ChangeShapes Go.WideShapes Go.ChangeAt Go.RowKit

theorem both (ts : List Tile) (_hw : ∀ x ∈ ts, (Lit.int .i64 x.t).wf = true ∧ (Lit.int .i64 x.r).wf = true ∧ (Lit.int .i64 x.b).wf = true ∧ (Lit.int .i64 x.l).wf = true) (hn : ts.length ≤ 1048576) :
    ∃ r0 : ByteArray, True ∧
      (∀ w ad cap, ts.length ≤ cap → CellsAt w ad (wangs ts) → Calls Tryd.prog 17 #[.slice ad ts.length cap] w fun e w' => e = .returned (.string r0) ∧ Below w.heap.size w w') ∧
      ∀ w ad cap, ts.length ≤ cap → CellsAt w ad (wangs ts) → Calls Tryd.prog 18 #[.slice ad ts.length cap] w fun e w' => e = .returned (.string r0) ∧ Below w.heap.size w w' := by
  obtain ⟨x, a, h, b, hP⟩ := PerRes.total ts
  obtain ⟨A, H, rfl, rfl, hA, hH⟩ := hP.small
  exact ⟨verS ts A H b, trivial, fun w ad cap _ hc => specVerd ad cap ts x A H b w hn hP hA hH hc, fun w ad cap _ hc => implVerd ad cap ts x A H b w hn hP hA hH hc⟩

set_option maxRecDepth 100000 in
set_option maxHeartbeats 4000000 in
theorem walk (w : World) (ad0 : Option Addr) (cap0 : Nat) (xs0 : List Tile) (hm0 : xs0.length ≤ maxLen) (hc0 : CellsAt w ad0 (wangs xs0)) (hw0 : ∀ x ∈ xs0, (Lit.int .i64 x.t).wf = true ∧ (Lit.int .i64 x.r).wf = true ∧ (Lit.int .i64 x.b).wf = true ∧ (Lit.int .i64 x.l).wf = true) :
    Calls Tryd.prog 5 #[.slice ad0 xs0.length cap0] w fun e w' => e = .returned (.bool true) ∧ Below w.heap.size w w' := by
  unfold maxLen at hm0
  have H0 := Lib.hid hc0
  clear hc0
  by_cases hn0_ : xs0.length ≤ 1048576
  · skip
    have hn0 : xs0.length ≤ 1048576 := by omega
    obtain ⟨r0, HL, hs, hi⟩ := both xs0 hw0 hn0
    have HS := Lib.hid hs
    have HI := Lib.hid hi
    clear hs hi hw0
    have nn0 : (r0 != r0) = false := ba_ne _
    have q0 : Below w.heap.size w w := Below.refl _ _
    go_enter Tryd.func5, Tryd.ntmps5
    go_wp2_with fail
    refine (szWangS_any _ _ _ _ _ hm0 (by omega) (by omega)).mono ?_
    rw [if_neg (by omega)]
    rintro e w' ⟨rfl, rfl⟩
    go_wp2_with fail
    refine (toWangS_any _ _ xs0 _ hn0 (H0.out.below q0)).mono ?_
    rintro e w1 ⟨a1_, c1_, rfl, ho1, hb1⟩
    have z1 := hb1.size
    have q1 : Below w.heap.size w w1 := q0.trans (hb1.mono q0.size)
    have S0 := Lib.hid (Owned.of ho1)
    clear ho1
    go_wp2_with fail
    refine (HS.out _ _ _ S0.out.le_cap S0.out.cells).mono ?_
    rintro e w2 ⟨rfl, hb2⟩
    have z2 := hb2.size
    have q2 : Below w.heap.size w w2 := q1.trans (hb2.mono q1.size)
    have S0_2 := Lib.hid (S0.out.below hb2 (by omega))
    clear S0
    clear S0_2
    go_wp2_with fail
    refine (toWangS_any _ _ xs0 _ hn0 (H0.out.below q2)).mono ?_
    rintro e w3 ⟨a3_, c3_, rfl, ho3, hb3⟩
    have z3 := hb3.size
    have q3 : Below w.heap.size w w3 := q2.trans (hb3.mono q2.size)
    have X0 := Lib.hid (Owned.of ho3)
    clear ho3
    go_wp2_with fail
    refine (HI.out _ _ _ X0.out.le_cap X0.out.cells).mono ?_
    rintro e w4 ⟨rfl, hb4⟩
    have z4 := hb4.size
    have q4 : Below w.heap.size w w4 := q3.trans (hb4.mono q3.size)
    have X0_4 := Lib.hid (X0.out.below hb4 (by omega))
    clear X0
    go_wp2_with fail
    refine (toWangS_any _ _ xs0 _ hn0 (H0.out.below q4)).mono ?_
    rintro e w5 ⟨a5_, c5_, rfl, ho5, hb5⟩
    have z5 := hb5.size
    have q5 : Below w.heap.size w w5 := q4.trans (hb5.mono q4.size)
    have X0_5 := Lib.hid (X0_4.out.below hb5 (by omega))
    clear X0_4
    have Y0 := Lib.hid (Owned.of ho5)
    clear ho5
    go_wp2_with fail
    refine (eqWangS_same _ _ _ _ xs0 _ hn0 X0_5.out.cells Y0.out.cells).mono ?_
    rintro e w6 ⟨rfl, hb6⟩
    have z6 := hb6.size
    have q6 : Below w.heap.size w w6 := q5.trans (hb6.mono q5.size)
    have X0_6 := Lib.hid (X0_5.out.below hb6 (by omega))
    clear X0_5
    have Y0_6 := Lib.hid (Y0.out.below hb6 (by omega))
    clear Y0
    clear Y0_6
    go_wp2_with fail
    go_ret
    exact ⟨rfl, q6⟩
  · skip
    go_enter Tryd.func5, Tryd.ntmps5
    go_wp2_with fail
    refine (szWangS_any _ _ _ _ _ hm0 (by omega) (by omega)).mono ?_
    rw [if_pos (by omega)]
    rintro e w' ⟨rfl, rfl⟩
    go_wp2_with fail
    go_ret
    exact ⟨rfl, Below.refl _ _⟩

set_option maxRecDepth 100000 in
theorem lifted (os : Os) (started : os.Started) (H : Type) (enc : TypeId × Value → H) :
    ReturnsInHanded {} Tryd.checked os 5 .any (fun w args => (Rows.fnExactWangVerdictSpec.pre enc Tryd.prog Tryd.f5 Rows.fnExactWangVerdictRow.domain false w args ∧ laidMetH Tryd.prog tabs3 w) ∧ sizedMet enc Tryd.prog Tryd.f5 (OpenSpec.ofChange Rows.fnExactWangVerdictSpec) false w args) (Rows.fnExactWangVerdictSpec.post enc Tryd.prog Tryd.f5 false true false false) := by
  refine returnsInHanded_of_change_and (C := Tryd.checked) (X := fun w _ => laidMetH Tryd.prog tabs3 w) (fun _ _ _ hh h => h.of_heap hh) Tryd.own started (by kernel_rfl) Tryd.func5
    (ChangeSpec.witness_shaped (enc := enc) (C := Tryd.checked) (os := os) (X := fun w _ => laidMetH Tryd.prog tabs3 w) false (World.laidAll Tryd.prog os tabs3) #[.slice none 0 0] 8 (World.laidAll_os _ _ _)
      (World.shaped_of_ZipB (by kernel_rfl) (by kernel_rfl)) (by kernel_rfl) (by kernel_rfl) (by kernel_rfl)
      (by rw [MakeChecks.laidMetH_plain _ _ _ (by kernel_rfl)]; exact laidMet_laidAll _ (by kernel_rfl) (by kernel_rfl))) ?_
  intro W base args ds gs before hval0 hW hcnd _ hL _
  have hval : ∀ (j : Nat) t v, Tryd.f5.params[j]? = some t → args[j]? = some v → Value.okWide Tryd.prog W .any base t v := hval0
  have hW' := hW
  obtain ⟨p, q, hA0, hV, rfl, hfz, hnd⟩ := hW
  have hA : DataW.TrodAll enc Tryd.prog W 0 (fun _ => true) true Tryd.f5.params.toList args.toList ds p := hA0
  rw [Tryd.params5] at hA hval
  obtain ⟨v0, vs0, d0, ds0, p0, q0, hargs, rfl, rfl, h0, r0⟩ := trodAll_cons hA
  obtain ⟨rfl, rfl, rfl⟩ := trodAll_nil r0
  obtain rfl : args = #[v0] := by cases args; simp_all
  obtain ⟨rfl, rfl⟩ := trodVars_none hV
  obtain ⟨ad0, cap0, xs0, rfl, hm0, hc0, hw0⟩ := openWangs (hval 0 22 v0 rfl rfl) h0
  clear hA0 hval0
  refine (walk W ad0 cap0 xs0 hm0 hc0 hw0).mono fun e W' ⟨he, hb⟩ => ?_
  subst he
  exact ⟨_, rfl, law_post rfl hW' hb (by rw [Tryd.params5]; exact readable_all (by kernel_rfl)) (by kernel_rfl) (by kernel_rfl) rfl⟩

theorem proved : Rows.FnExactWangVerdictSaid :=
  OpenClaim.holds_of_wide 5 Tryd.f5 rfl rfl rfl rfl rfl rfl rfl ⟨rfl, rfl, rfl, rfl, rfl⟩ rfl rfl rfl rfl rfl (by kernel_rfl) Tryd.func5 (by kernel_rfl)
    (of_decide_eq_true (by kernel_rfl)) (by unfold Func.isWrapper; first | (rw [if_pos (by decide +kernel)]; kernel_rfl) | (rw [if_neg (by decide +kernel)]; exact ⟨rfl, rfl⟩))
    (fun os started H enc _ => lifted os started H enc)

theorem card : Rows.FnExactWangVerdictCardSaid :=
  Claim7.holds_tied_plain_at .later [] [.data, .data, .data] true (true, "4819d24e09a884b5f2ccb9661a81f42dec9b3b02da50283e748b7986a53aa823") false proved (fun _ h => by cases h) (by kernel_rfl) (fun _ h => by cases h) fnExactWangVerdict_row_tie rfl ⟨rfl, rfl⟩ (by kernel_rfl) rfl
    (fun f fn hf hfn => by
      obtain rfl : f = 5 := Option.some.inj ((show Tryd.prog.funcNamed "loop.example/g03400/laws.FnExactWangVerdict" = some 5 by kernel_rfl).symm.trans hf) |>.symm
      obtain rfl : fn = Tryd.f5 := (Option.some.inj (Tryd.func5.symm.trans hfn)).symm
      exact ⟨by kernel_rfl, fun j t ht => by
        have hm : t ∈ Tryd.f5.params.toList := Array.mem_toList_iff.2 (Array.mem_of_getElem? ht)
        have hall : (Tryd.f5.params.toList.all fun u => !Tryd.prog.wantsStandIn u) = true := by kernel_rfl
        exact (show Tryd.prog.wantsStandIn t = false by simpa using List.all_eq_true.1 hall t hm)⟩)
    (by kernel_rfl)
end Go.Proofs.YtdnklmdmafbogaaDoor.lawVerd
