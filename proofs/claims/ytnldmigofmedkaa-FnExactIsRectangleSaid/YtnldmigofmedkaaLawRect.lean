/- LawRect: the program's IsRectangle returns what the reference's returns, for every list of cells; no condition. -/
import Derived.Test.YtnldmigofmedkaaFrameCell
import Derived.Test.YtnldmigofmedkaaRectS
import Derived.Test.YtnldmigofmedkaaRectI
namespace Go.Proofs.Ytnldmigofmedkaa.lawRect
open Go.ChangeShapes Go.WideShapes Go.ChangeAt Go.RowKit

set_option maxRecDepth 100000 in
set_option maxHeartbeats 400000 in
theorem walk (w : World) (ad : Option Addr) (c : Nat) (ts : List Cl) (hm : ts.length ≤ maxLen) (hc : CellsAt w ad (cls ts))
    (_hw : ∀ x ∈ ts, (Lit.int .i64 x.x).wf = true ∧ (Lit.int .i64 x.y).wf = true) :
    Calls Try.prog 7 #[.slice ad ts.length c] w fun e w' => e = .returned (.bool true) ∧ Below w.heap.size w w' := by
  unfold maxLen at hm
  clear _hw
  have hH := Lib.hid hc
  clear hc
  by_cases hn : ts.length ≤ 1048576
  · go_enter Try.func7, Try.ntmps7
    go_wp2_with fail
    refine (szCellS_any _ _ _ _ _ hm (by omega) (by omega)).mono ?_
    rw [if_neg (by omega)]
    rintro e w' ⟨rfl, rfl⟩
    go_wp2_with fail
    refine (toCellS_any _ _ ts _ hn hH.out).mono ?_
    rintro e w1 ⟨a1, c1, rfl, ho1, hb1⟩
    have O1 := Lib.hid ho1
    clear ho1
    go_wp2_with fail
    refine (specRect _ _ ts _ hn (ownsRow_cellsAt O1.out)).mono ?_
    rintro e w2 ⟨rfl, hb2⟩
    have q2 : Below w.heap.size w w2 := hb1.trans (hb2.mono hb1.size)
    go_wp2_with fail
    refine (toCellS_any _ _ ts _ hn (hH.out.below q2)).mono ?_
    rintro e w3 ⟨a3, c3, rfl, ho3, hb3⟩
    have O3 := Lib.hid ho3
    clear ho3
    have q3 : Below w.heap.size w w3 := q2.trans (hb3.mono q2.size)
    go_wp2_with fail
    refine (implRect _ _ ts _ hn (ownsRow_cellsAt O3.out)).mono ?_
    rintro e w4 ⟨rfl, hb4⟩
    have q4 : Below w.heap.size w w4 := q3.trans (hb4.mono q3.size)
    generalize isRect ts = b
    have hbb : (b != b) = false := by cases b <;> rfl
    go_wp2_with fail
    refine (toCellS_any _ _ ts _ hn (hH.out.below q4)).mono ?_
    rintro e w5 ⟨a5, c5, rfl, ho5, hb5⟩
    have O5 := Lib.hid ho5
    clear ho5
    have q5 : Below w.heap.size w w5 := q4.trans (hb5.mono q4.size)
    go_wp2_with fail
    refine (eqCellS_any _ _ _ _ ts ts _ hn (ownsRow_cellsAt (ownsRow_far_below (ownsRow_far_below O3.out hb4 (Nat.le_refl _)) hb5 (Nat.le_refl _))) (ownsRow_cellsAt O5.out)).mono ?_
    rintro e w6 ⟨rfl, hb6⟩
    have hd : decide (ts = ts) = true := by simp
    go_wp2_with fail
    go_ret
    exact ⟨rfl, q5.trans (hb6.mono q5.size)⟩
  · go_enter Try.func7, Try.ntmps7
    go_wp2_with fail
    refine (szCellS_any _ _ _ _ _ hm (by omega) (by omega)).mono ?_
    rw [if_pos (by omega)]
    rintro e w' ⟨rfl, rfl⟩
    go_wp2_with fail
    go_ret
    exact ⟨rfl, Below.refl _ _⟩

set_option maxRecDepth 100000 in
theorem lifted (os : Os) (started : os.Started) (H : Type) (enc : TypeId × Value → H) :
    ReturnsInHanded {} Try.checked os 7 .any (Rows.fnExactIsRectangleSpec.pre6 enc Try.prog Try.f7 Rows.fnExactIsRectangleRow.domain false) (Rows.fnExactIsRectangleSpec.post enc Try.prog Try.f7 false true false false) := by
  refine returnsInHanded_of_change (C := Try.checked) Try.own started (by kernel_rfl) Try.func7
    (ChangeSpec.witness6 (enc := enc) (C := Try.checked) false ⟨#[], #[.slice none 0 0], []⟩ 8 (by kernel_rfl) (by kernel_rfl) (by kernel_rfl) (by kernel_rfl)) ?_
  intro W base args ds gs before hval0 hW hcnd _
  have hval : ∀ (j : Nat) t v, Try.f7.params[j]? = some t → args[j]? = some v → Value.okWide Try.prog W .any base t v := hval0
  have hW' := hW
  obtain ⟨p, q, hA0, hV, rfl, hfz, hnd⟩ := hW
  have hA : DataW.TrodAll enc Try.prog W 0 (fun _ => true) true Try.f7.params.toList args.toList ds p := hA0
  rw [Try.params7] at hA hval
  obtain ⟨v0, vs0, d0, ds0, p0, q0, hargs, rfl, rfl, h0, r0⟩ := trodAll_cons hA
  obtain ⟨rfl, rfl, rfl⟩ := trodAll_nil r0
  obtain rfl : args = #[v0] := by cases args; simp_all
  obtain ⟨rfl, rfl⟩ := trodVars_none hV
  obtain ⟨ad0, cap0, xs0, rfl, hm0, hc0, hw0⟩ := openCells (hval 0 51 v0 rfl rfl) h0
  clear hA0 hval0
  refine (walk W ad0 cap0 xs0 hm0 hc0 hw0).mono fun e W' ⟨he, hb⟩ => ?_
  subst he
  exact ⟨_, rfl, law_post rfl hW' hb (by rw [Try.params7]; exact readable_all (by kernel_rfl)) (by kernel_rfl) (by kernel_rfl) rfl⟩

theorem proved : Rows.FnExactIsRectangleSaid :=
  OpenClaim.holds_of_wide 7 Try.f7 rfl rfl rfl rfl rfl rfl rfl ⟨rfl, rfl, rfl, rfl, rfl⟩ rfl rfl rfl rfl rfl (by kernel_rfl) Try.func7 (by kernel_rfl)
    (of_decide_eq_true (by kernel_rfl)) (by unfold Func.isWrapper; first | (rw [if_pos (by decide +kernel)]; kernel_rfl) | (rw [if_neg (by decide +kernel)]; exact ⟨rfl, rfl⟩))
    (fun os started H enc _ => lifted os started H enc)
end Go.Proofs.Ytnldmigofmedkaa.lawRect
