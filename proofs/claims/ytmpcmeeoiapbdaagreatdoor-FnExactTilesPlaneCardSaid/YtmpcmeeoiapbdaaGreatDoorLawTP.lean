/- LawTP: the program's TilesPlane returns what the reference's returns, for every list of cells, where the library's tables lie as their initialisers lay them (the card ties that to the program's text). -/
import Derived.Test.YtmpcmeeoiapbdaaGreatDoorAllFrame
import Derived.Test.YtmpcmeeoiapbdaaGreatDoorAllHead
import Derived.Test.YtmpcmeeoiapbdaaGreatDoorPlaneT
import Derived.Test.YtmpcmeeoiapbdaaGreatDoorTied
import Derived.Test.YtmpcmeeoiapbdaaGreatDoorTie
import Derived.Test.YtmpcmeeoiapbdaaGreatDoorCards
import Derived.SevenTiedAt
import Derived.Deep.RegionHeld3
namespace Go.Proofs.YtmpcmeeoiapbdaaGreatDoor.lawTP
open Go.ChangeShapes Go.WideShapes Go.ChangeAt Go.RowKit

theorem both (xs : List Cl) (_hw : ∀ x ∈ xs, (Lit.int .i64 x.x).wf = true ∧ (Lit.int .i64 x.y).wf = true) (hn : xs.length ≤ 1048576) :
    ∃ (r0 r1 : Int) (r2 : Bool), True ∧
      (∀ w ad cap, xs.length ≤ cap → CellsAt w ad (cls xs) → Calls Tryz.prog 18 #[.slice ad xs.length cap] w fun e w' => e = .returned (.tuple #[.int .i64 r0, .int .i64 r1, .bool r2]) ∧ Below w.heap.size w w') ∧
      ∀ w ad cap, xs.length ≤ cap → CellsAt w ad (cls xs) → Tab w → Calls Tryz.prog 20 #[.slice ad xs.length cap] w fun e w' => e = .returned (.tuple #[.int .i64 r0, .int .i64 r1, .bool r2]) ∧ Below w.heap.size w w' :=
  ⟨_, _, _, trivial, fun w ad cap _ hc => specTP ad cap xs w hn hc, fun w ad cap _ hc hT => implTP ad cap xs w hn hT hc⟩

set_option maxRecDepth 100000 in
set_option maxHeartbeats 4000000 in
theorem walk (w : World) (ad0 : Option Addr) (cap0 : Nat) (xs0 : List Cl) (hm0 : xs0.length ≤ maxLen) (hc0 : CellsAt w ad0 (cls xs0)) (hw0 : ∀ x ∈ xs0, (Lit.int .i64 x.x).wf = true ∧ (Lit.int .i64 x.y).wf = true) (hT : Tab w) :
    Calls Tryz.prog 4 #[.slice ad0 xs0.length cap0] w fun e w' => e = .returned (.bool true) ∧ Below w.heap.size w w' := by
  unfold maxLen at hm0
  have HT := Lib.hid hT
  clear hT
  have H0 := Lib.hid hc0
  clear hc0
  by_cases hn0_ : xs0.length ≤ 1048576
  · skip
    have hn0 : xs0.length ≤ 1048576 := by omega
    obtain ⟨r0, r1, r2, HL, hs, hi⟩ := both xs0 hw0 hn0
    have HS := Lib.hid hs
    have HI := Lib.hid hi
    clear hs hi hw0
    have nn0 : (r0 != r0) = false := by simp
    have nn1 : (r1 != r1) = false := by simp
    have nn2 : (r2 != r2) = false := by simp
    have q0 : Below w.heap.size w w := Below.refl _ _
    go_enter Tryz.func4, Tryz.ntmps4
    go_wp2_with fail
    refine (szCellS_any _ _ _ _ _ hm0 (by omega) (by omega)).mono ?_
    rw [if_neg (by omega)]
    rintro e w' ⟨rfl, rfl⟩
    go_wp2_with fail
    refine (toCellS_any _ _ xs0 _ hn0 (H0.out.below q0)).mono ?_
    rintro e w1 ⟨a1_, c1_, rfl, ho1, hb1⟩
    have z1 := hb1.size
    have q1 : Below w.heap.size w w1 := q0.trans (hb1.mono q0.size)
    have S0 := Lib.hid (Owned.of ho1)
    clear ho1
    go_wp2_with fail
    refine (HS.out _ _ _ S0.out.le_cap S0.out.cells).mono ?_
    rintro e w2 ⟨rfl, hb2⟩
    have z2 := hb2.size
    have q2 : Below w.heap.size w w2 := q1.trans (hb2.mono q1.size)
    have S0_2 := Lib.hid (S0.out.below hb2 (by omega))
    clear S0
    clear S0_2
    go_wp2_with fail
    refine (toCellS_any _ _ xs0 _ hn0 (H0.out.below q2)).mono ?_
    rintro e w3 ⟨a3_, c3_, rfl, ho3, hb3⟩
    have z3 := hb3.size
    have q3 : Below w.heap.size w w3 := q2.trans (hb3.mono q2.size)
    have X0 := Lib.hid (Owned.of ho3)
    clear ho3
    go_wp2_with fail
    refine (HI.out _ _ _ X0.out.le_cap X0.out.cells (HT.out.below q3)).mono ?_
    rintro e w4 ⟨rfl, hb4⟩
    have z4 := hb4.size
    have q4 : Below w.heap.size w w4 := q3.trans (hb4.mono q3.size)
    have X0_4 := Lib.hid (X0.out.below hb4 (by omega))
    clear X0
    go_wp2_with fail
    refine (toCellS_any _ _ xs0 _ hn0 (H0.out.below q4)).mono ?_
    rintro e w5 ⟨a5_, c5_, rfl, ho5, hb5⟩
    have z5 := hb5.size
    have q5 : Below w.heap.size w w5 := q4.trans (hb5.mono q4.size)
    have X0_5 := Lib.hid (X0_4.out.below hb5 (by omega))
    clear X0_4
    have Y0 := Lib.hid (Owned.of ho5)
    clear ho5
    go_wp2_with fail
    refine (eqCellS_same _ _ _ _ xs0 _ hn0 X0_5.out.cells Y0.out.cells).mono ?_
    rintro e w6 ⟨rfl, hb6⟩
    have z6 := hb6.size
    have q6 : Below w.heap.size w w6 := q5.trans (hb6.mono q5.size)
    have X0_6 := Lib.hid (X0_5.out.below hb6 (by omega))
    clear X0_5
    have Y0_6 := Lib.hid (Y0.out.below hb6 (by omega))
    clear Y0
    clear Y0_6
    go_wp2_with fail
    go_ret
    exact ⟨rfl, q6⟩
  · skip
    go_enter Tryz.func4, Tryz.ntmps4
    go_wp2_with fail
    refine (szCellS_any _ _ _ _ _ hm0 (by omega) (by omega)).mono ?_
    rw [if_pos (by omega)]
    rintro e w' ⟨rfl, rfl⟩
    go_wp2_with fail
    go_ret
    exact ⟨rfl, Below.refl _ _⟩

set_option maxRecDepth 100000 in
theorem lifted (os : Os) (started : os.Started) (H : Type) (enc : TypeId × Value → H) :
    ReturnsInHanded {} Tryz.checked os 4 .any (fun w args => (Rows.fnExactTilesPlaneSpec.pre enc Tryz.prog Tryz.f4 Rows.fnExactTilesPlaneRow.domain false w args ∧ laidMetH Tryz.prog tabs w) ∧ sizedMet enc Tryz.prog Tryz.f4 (OpenSpec.ofChange Rows.fnExactTilesPlaneSpec) false w args) (Rows.fnExactTilesPlaneSpec.post enc Tryz.prog Tryz.f4 false true false false) := by
  refine returnsInHanded_of_change_and (C := Tryz.checked) (X := fun w _ => laidMetH Tryz.prog tabs w) (fun _ _ _ hh h => h.of_heap hh) Tryz.own started (by kernel_rfl) Tryz.func4
    (ChangeSpec.witness_shaped (enc := enc) (C := Tryz.checked) (os := os) (X := fun w _ => laidMetH Tryz.prog tabs w) false (World.laidAll Tryz.prog os tabs) #[.slice none 0 0] 8 (World.laidAll_os _ _ _)
      (World.shaped_of_ZipB (by kernel_rfl) (by kernel_rfl)) (by kernel_rfl) (by kernel_rfl) (by kernel_rfl)
      (by rw [MakeChecks.laidMetH_plain _ _ _ (by kernel_rfl)]; exact laidMet_laidAll _ (by kernel_rfl) (by kernel_rfl))) ?_
  intro W base args ds gs before hval0 hW hcnd _ hL _
  have hval : ∀ (j : Nat) t v, Tryz.f4.params[j]? = some t → args[j]? = some v → Value.okWide Tryz.prog W .any base t v := hval0
  have hW' := hW
  obtain ⟨p, q, hA0, hV, rfl, hfz, hnd⟩ := hW
  have hA : DataW.TrodAll enc Tryz.prog W 0 (fun _ => true) true Tryz.f4.params.toList args.toList ds p := hA0
  rw [Tryz.params4] at hA hval
  obtain ⟨v0, vs0, d0, ds0, p0, q0, hargs, rfl, rfl, h0, r0⟩ := trodAll_cons hA
  obtain ⟨rfl, rfl, rfl⟩ := trodAll_nil r0
  obtain rfl : args = #[v0] := by cases args; simp_all
  obtain ⟨rfl, rfl⟩ := trodVars_none hV
  obtain ⟨ad0, cap0, xs0, rfl, hm0, hc0, hw0⟩ := openCells (hval 0 29 v0 rfl rfl) h0
  clear hA0 hval0
  refine (walk W ad0 cap0 xs0 hm0 hc0 hw0 (tab_of_laid hL)).mono fun e W' ⟨he, hb⟩ => ?_
  subst he
  exact ⟨_, rfl, law_post rfl hW' hb (by rw [Tryz.params4]; exact readable_all (by kernel_rfl)) (by kernel_rfl) (by kernel_rfl) rfl⟩

theorem proved : Rows.FnExactTilesPlaneSaid :=
  OpenClaim.holds_of_wide 4 Tryz.f4 rfl rfl rfl rfl rfl rfl rfl ⟨rfl, rfl, rfl, rfl, rfl⟩ rfl rfl rfl rfl rfl (by kernel_rfl) Tryz.func4 (by kernel_rfl)
    (of_decide_eq_true (by kernel_rfl)) (by unfold Func.isWrapper; first | (rw [if_pos (by decide +kernel)]; kernel_rfl) | (rw [if_neg (by decide +kernel)]; exact ⟨rfl, rfl⟩))
    (fun os started H enc _ => lifted os started H enc)

theorem card : Rows.FnExactTilesPlaneCardSaid :=
  Claim7.holds_tied_plain_at .later [] [.data, .data] true (true, "d8e196497d65242edc6db36037073e4bb15a84c2436841dd753778a5d0b116b2") false proved (fun _ h => by cases h) (by kernel_rfl) (fun _ h => by cases h) fnExactTilesPlane_row_tie rfl ⟨rfl, rfl⟩ (by kernel_rfl) rfl
    (fun f fn hf hfn => by
      obtain rfl : f = 4 := Option.some.inj ((show Tryz.prog.funcNamed "loop.example/g03400/laws.FnExactTilesPlane" = some 4 by kernel_rfl).symm.trans hf) |>.symm
      obtain rfl : fn = Tryz.f4 := (Option.some.inj (Tryz.func4.symm.trans hfn)).symm
      exact ⟨by kernel_rfl, fun j t ht => by
        have hm : t ∈ Tryz.f4.params.toList := Array.mem_toList_iff.2 (Array.mem_of_getElem? ht)
        have hall : (Tryz.f4.params.toList.all fun u => !Tryz.prog.wantsStandIn u) = true := by kernel_rfl
        exact (show Tryz.prog.wantsStandIn t = false by simpa using List.all_eq_true.1 hall t hm)⟩)
    (by kernel_rfl)
end Go.Proofs.YtmpcmeeoiapbdaaGreatDoor.lawTP
