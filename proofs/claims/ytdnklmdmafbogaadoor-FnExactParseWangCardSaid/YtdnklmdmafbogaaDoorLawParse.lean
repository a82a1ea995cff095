/- LawParse: the program's ParseWang returns what the reference's returns, for every string, where the library's tables lie as their initialisers lay them (the card ties that to the program's text). -/
import Derived.Test.YtdnklmdmafbogaaDoorFrameWang
import Derived.Test.YtdnklmdmafbogaaDoorMarkWang
import Derived.Test.YtdnklmdmafbogaaDoorParseS
import Derived.Test.YtdnklmdmafbogaaDoorParseI
import Derived.Test.YtdnklmdmafbogaaDoorTiedP
import Derived.Test.YtdnklmdmafbogaaDoorTie
import Derived.Test.YtdnklmdmafbogaaDoorCards
import Derived.SevenTiedAt
import Derived.ChangeMaps5
namespace Go.Proofs.YtdnklmdmafbogaaDoor.lawParse
open Go.ChangeShapes Go.WideShapes Go.ChangeAt Go.RowKit

theorem parseT_le (l : List UInt8) : (parseT l).length ≤ 6 := by
  unfold parseT
  by_cases h : okI l
  · rw [if_pos h, List.length_map]
    exact h.2.1
  · rw [if_neg h]
    exact Nat.zero_le _
theorem both (s : ByteArray) (hn : s.size ≤ 1048576) :
    ∃ (r0 : List Tile) (r1 : Bool), r0.length ≤ 6 ∧
      (∀ w, Calls Tryd.prog 13 #[.string s] w fun e w' => ∃ ad' cap', e = .returned (.tuple #[.slice ad' r0.length cap', .bool r1]) ∧ w'.ownsRow w.heap.size 45 4 (.slice ad' r0.length cap') r0.length (wangs r0) ∧ Below w.heap.size w w') ∧
      ∀ w, MaxAt w → Calls Tryd.prog 14 #[.string s] w fun e w' => ∃ ad' cap', e = .returned (.tuple #[.slice ad' r0.length cap', .bool r1]) ∧ w'.ownsRow w.heap.size 45 4 (.slice ad' r0.length cap') r0.length (wangs r0) ∧ Below w.heap.size w w' :=
  ⟨parseT s.data.toList, decide (okI s.data.toList), parseT_le _, fun w => specParse s w hn, fun w hT => implParse s w hn hT⟩

set_option maxRecDepth 100000 in
set_option maxHeartbeats 4000000 in
theorem walk (w : World) (s0 : ByteArray) (hm0 : s0.size ≤ 9223372036854775807) (hT : MaxAt w) :
    Calls Tryd.prog 4 #[.string s0] w fun e w' => e = .returned (.bool true) ∧ Below w.heap.size w w' := by
  have HT := Lib.hid hT
  clear hT
  by_cases hn0 : s0.size ≤ 1048576
  · skip
    obtain ⟨r0, r1, HL, hs, hi⟩ := both s0 hn0
    have HS := Lib.hid hs
    have HI := Lib.hid hi
    clear hs hi
    have nn1 : (r1 != r1) = false := by simp
    have q0 : Below w.heap.size w w := Below.refl _ _
    go_enter Tryd.func4, Tryd.ntmps4
    go_wp2_with fail
    refine (HS.out _ ).mono ?_
    rintro e w1 ⟨b1_0, d1_0, rfl, ho1_0, hb1⟩
    have z1 := hb1.size
    have q1 : Below w.heap.size w w1 := q0.trans (hb1.mono q0.size)
    have R0 := Lib.hid (Owned.of ho1_0)
    clear ho1_0
    go_wp2_with fail
    refine (HI.out _  (HT.out.below q1)).mono ?_
    rintro e w2 ⟨b2_0, d2_0, rfl, ho2_0, hb2⟩
    have z2 := hb2.size
    have q2 : Below w.heap.size w w2 := q1.trans (hb2.mono q1.size)
    have R0_2 := Lib.hid (R0.out.below hb2 (by omega))
    clear R0
    have G0 := Lib.hid (Owned.of ho2_0)
    clear ho2_0
    go_wp2_with fail
    refine (eqWangS_same _ _ _ _ r0 _ (by omega) G0.out.cells R0_2.out.cells).mono ?_
    rintro e w3 ⟨rfl, hb3⟩
    have z3 := hb3.size
    have q3 : Below w.heap.size w w3 := q2.trans (hb3.mono q2.size)
    have R0_3 := Lib.hid (R0_2.out.below hb3 (by omega))
    clear R0_2
    have G0_3 := Lib.hid (G0.out.below hb3 (by omega))
    clear G0
    go_wp2_with fail
    refine (markWangS_all (k := 1) _ _ _ _ r0 _ (by omega) (by omega) G0_3.out).mono ?_
    rintro e w4 ⟨rfl, g4, ht4⟩
    have z4 := ht4.size
    have zq4 := q3.size
    have q4 : Below w.heap.size w w4 := q3.trans (ht4.below (by omega) (by omega))
    have R0_4 := Lib.hid (R0_3.out.touched ht4 (by omega))
    clear R0_3
    have M0 := Lib.hid g4
    clear g4
    go_wp2_with fail
    refine (heldWangS_b (k := 1) _ _ r0.length _ (by omega) (by omega) M0.out.cells).mono ?_
    rintro e w5 ⟨rfl, hb5⟩
    have z5 := hb5.size
    have q5 : Below w.heap.size w w5 := q4.trans (hb5.mono q4.size)
    have R0_5 := Lib.hid (R0_4.out.below hb5 (by omega))
    clear R0_4
    have M0_5 := Lib.hid (M0.out.below hb5 (by omega))
    clear M0
    go_wp2_with fail
    refine (HI.out _  (HT.out.below q5)).mono ?_
    rintro e w6 ⟨b6_0, d6_0, rfl, ho6_0, hb6⟩
    have z6 := hb6.size
    have q6 : Below w.heap.size w w6 := q5.trans (hb6.mono q5.size)
    have R0_6 := Lib.hid (R0_5.out.below hb6 (by omega))
    clear R0_5
    have M0_6 := Lib.hid (M0_5.out.below hb6 (by omega))
    clear M0_5
    have N0 := Lib.hid (Owned.of ho6_0)
    clear ho6_0
    go_wp2_with fail
    refine (eqWangS_same _ _ _ _ r0 _ (by omega) N0.out.cells R0_6.out.cells).mono ?_
    rintro e w7 ⟨rfl, hb7⟩
    have z7 := hb7.size
    have q7 : Below w.heap.size w w7 := q6.trans (hb7.mono q6.size)
    have R0_7 := Lib.hid (R0_6.out.below hb7 (by omega))
    clear R0_6
    have M0_7 := Lib.hid (M0_6.out.below hb7 (by omega))
    clear M0_6
    have N0_7 := Lib.hid (N0.out.below hb7 (by omega))
    clear N0
    go_wp2_with fail
    refine (heldWangS_b (k := 1) _ _ r0.length _ (by omega) (by omega) M0_7.out.cells).mono ?_
    rintro e w8 ⟨rfl, hb8⟩
    have z8 := hb8.size
    have q8 : Below w.heap.size w w8 := q7.trans (hb8.mono q7.size)
    have R0_8 := Lib.hid (R0_7.out.below hb8 (by omega))
    clear R0_7
    have M0_8 := Lib.hid (M0_7.out.below hb8 (by omega))
    clear M0_7
    have N0_8 := Lib.hid (N0_7.out.below hb8 (by omega))
    clear N0_7
    go_wp2_with fail
    go_ret
    exact ⟨rfl, q8⟩
  · skip
    go_enter Tryd.func4, Tryd.ntmps4
    go_wp2_with fail
    go_ret
    exact ⟨rfl, Below.refl _ _⟩

set_option maxRecDepth 100000 in
theorem lifted (os : Os) (started : os.Started) (H : Type) (enc : TypeId × Value → H) :
    ReturnsInHanded {} Tryd.checked os 4 .any (fun w args => (Rows.fnExactParseWangSpec.pre enc Tryd.prog Tryd.f4 Rows.fnExactParseWangRow.domain false w args ∧ laidMetH Tryd.prog tabsP w) ∧ sizedMet enc Tryd.prog Tryd.f4 (OpenSpec.ofChange Rows.fnExactParseWangSpec) false w args) (Rows.fnExactParseWangSpec.post enc Tryd.prog Tryd.f4 false true false false) := by
  refine returns_and_shaped (C := Tryd.checked) (X := fun w _ => laidMetH Tryd.prog tabsP w) (fun _ _ _ hh h => h.of_heap hh) Tryd.own started (by kernel_rfl) Tryd.func4
    (ChangeSpec.witness_shaped (enc := enc) (C := Tryd.checked) (os := os) (X := fun w _ => laidMetH Tryd.prog tabsP w) false (World.laidAll Tryd.prog os tabsP) #[.string ⟨#[]⟩] 8 (World.laidAll_os _ _ _)
      (World.shaped_of_ZipB (by kernel_rfl) (by kernel_rfl)) (by kernel_rfl) (by kernel_rfl) (by kernel_rfl)
      (by rw [MakeChecks.laidMetH_plain _ _ _ (by kernel_rfl)]; exact laidMet_laidAll _ (by kernel_rfl) (by kernel_rfl))) ?_
  intro W base args ds gs before hval0 hW hcnd _ _ hSh _
  have hval : ∀ (j : Nat) t v, Tryd.f4.params[j]? = some t → args[j]? = some v → Value.okWide Tryd.prog W .any base t v := hval0
  have hW' := hW
  obtain ⟨p, q, hA0, hV, rfl, hfz, hnd⟩ := hW
  have hA : DataW.TrodAll enc Tryd.prog W 0 (fun _ => true) true Tryd.f4.params.toList args.toList ds p := hA0
  rw [Tryd.params4] at hA hval
  obtain ⟨v0, vs0, d0, ds0, p0, q0, hargs, rfl, rfl, h0, r0⟩ := trodAll_cons hA
  obtain ⟨rfl, rfl, rfl⟩ := trodAll_nil r0
  obtain rfl : args = #[v0] := by cases args; simp_all
  obtain ⟨rfl, rfl⟩ := trodVars_none hV
  obtain ⟨s0, rfl, rfl, rfl, hm0⟩ := Go.ChangeMaps.open_string Tryd.underlying9 (hval 0 9 v0 rfl rfl) h0
  clear hA0 hval0
  refine (walk W s0 (Nat.le_trans hm0 (by decide)) (maxAt_of hSh)).mono fun e W' ⟨he, hb⟩ => ?_
  subst he
  exact ⟨_, rfl, law_post rfl hW' hb (by rw [Tryd.params4]; exact readable_all (by kernel_rfl)) (by kernel_rfl) (by kernel_rfl) rfl⟩

theorem proved : Rows.FnExactParseWangSaid :=
  OpenClaim.holds_of_wide 4 Tryd.f4 rfl rfl rfl rfl rfl rfl rfl ⟨rfl, rfl, rfl, rfl, rfl⟩ rfl rfl rfl rfl rfl (by kernel_rfl) Tryd.func4 (by kernel_rfl)
    (of_decide_eq_true (by kernel_rfl)) (by unfold Func.isWrapper; first | (rw [if_pos (by decide +kernel)]; kernel_rfl) | (rw [if_neg (by decide +kernel)]; exact ⟨rfl, rfl⟩))
    (fun os started H enc _ => lifted os started H enc)

theorem card : Rows.FnExactParseWangCardSaid :=
  Claim7.holds_tied_plain_at .later [] [.data, .pinned] true (true, "4819d24e09a884b5f2ccb9661a81f42dec9b3b02da50283e748b7986a53aa823") false proved (fun _ h => by cases h) (by kernel_rfl) (fun _ h => by cases h) fnExactParseWang_row_tie rfl ⟨rfl, rfl⟩ (by kernel_rfl) rfl
    (fun f fn hf hfn => by
      obtain rfl : f = 4 := Option.some.inj ((show Tryd.prog.funcNamed "loop.example/g03400/laws.FnExactParseWang" = some 4 by kernel_rfl).symm.trans hf) |>.symm
      obtain rfl : fn = Tryd.f4 := (Option.some.inj (Tryd.func4.symm.trans hfn)).symm
      exact ⟨by kernel_rfl, fun j t ht => by
        have hm : t ∈ Tryd.f4.params.toList := Array.mem_toList_iff.2 (Array.mem_of_getElem? ht)
        have hall : (Tryd.f4.params.toList.all fun u => !Tryd.prog.wantsStandIn u) = true := by kernel_rfl
        exact (show Tryd.prog.wantsStandIn t = false by simpa using List.all_eq_true.1 hall t hm)⟩)
    (by kernel_rfl)
end Go.Proofs.YtdnklmdmafbogaaDoor.lawParse
