/- Search: the walk of sort.Search over the program's putShape's own question. -/
import Derived.Test.YtajmdgcnnipdoaaGreatDoorShapeCmp
import Derived.Test.YtajmdgcnnipdoaaGreatDoorAllShp
import Derived.Laws.EntriesVeiled
namespace Go.Proofs.YtajmdgcnnipdoaaGreatDoor
open Go.RowKit

theorem callFunc_ask (args : Array Value) (w : World) : Sem.run Tryz.prog (callFunc 157 args) w = .ok (.enter 157 args) w := by kernel_rfl

set_option maxRecDepth 100000 in
set_option maxHeartbeats 3200000 in
/-- The question: is the list's shape not less than the one to be put? -/
theorem askShape (L S g c i n : Nat) (rows : List (List Cl)) (vals : List Value) (base : Nat) (sa : Option Addr) (cs : Nat) (s : List Cl) (w : World) (hn : rows.length = n) (hrl : ∀ r ∈ rows, r.length ≤ 1000) (hi : i < n)
    (hL : w.cell? ⟨L, 0, none⟩ = some (.slice (some ⟨g, 0, none⟩) n c)) (hS : w.cell? ⟨S, 0, none⟩ = some (.slice sa s.length cs)) (hown : w.ownsRow base 40 1 (.slice (some ⟨g, 0, none⟩) n c) n vals) (hin : ShapesIn w base vals rows) (hsc : CellsAt w sa (cls s)) :
    Calls Tryz.prog 157 #[.int .i64 i, .pointer (some ⟨L, 0, none⟩), .pointer (some ⟨S, 0, none⟩)] w fun e w' => e = .returned (.bool (!ltS (rows.getD i default) s)) ∧ Below w.heap.size w w' := by
  have hiP : i < rows.length := by omega
  have hvl := All2.length hin
  rw [getDG hiP]
  obtain ⟨v, hv1, ai, ci, rfl, hv2⟩ := All2.at hin hiP
  have hx1 := hrl _ (List.getElem_mem hiP)
  have x0 := hown.cellAt i (by omega)
  rw [hv1] at x0
  generalize rows[i] = x at x0 hv2 hx1 ⊢
  have i1 : (i : Int) < (n : Int) := by omega
  have hcmp := implCmp ai sa ci cs x s w.drew hx1 (ownsRow_cellsAt hv2) hsc
  have hneg := cmpS_neg (a := x) (b := s)
  generalize cmpS x s = cv at hcmp hneg
  have HCMP := Lib.hid hcmp
  have hdec : decide (0 ≤ cv) = !ltS x s := by
    cases q : ltS x s with
    | true => have := hneg.2 q; simp; omega
    | false => simp; have : ¬ cv < 0 := fun h => by rw [hneg.1 h] at q; cases q
               omega
  have HDEC := Lib.hid hdec
  clear hcmp hneg hv1 hv2 hin hrl hown hsc hdec hvl
  go_enter Tryz.func157, Tryz.ntmps157
  go_wp2
  go_still_tail 5, (by kernel_rfl)
  go_wp2_with fail
  refine HCMP.out.mono ?_
  rintro e w' ⟨rfl, hb⟩
  have HB := Lib.hid hb
  clear hb
  go_wp2
  go_ret
  rw [HDEC.out]
  exact ⟨rfl, (Below.refl _ _).drew.trans (HB.out.mono (Nat.le_refl _))⟩

set_option maxRecDepth 100000 in
set_option maxHeartbeats 3200000 in
theorem searchShape (L S n : Nat) (pr : Nat → Bool) (w : World) (hn : n ≤ 1000) (hmono : ∀ i j, i ≤ j → j < n → pr i = true → pr j = true)
    (hcall : ∀ i w', i < n → Below w.heap.size w w' → Calls Tryz.prog 157 #[.int .i64 (i : Nat), .pointer (some ⟨L, 0, none⟩), .pointer (some ⟨S, 0, none⟩)] w' fun e w'' => e = .returned (.bool (pr i)) ∧ Below w'.heap.size w' w'') :
    Calls Tryz.prog 156 #[.int .i64 n, .func (.func 157) #[] #[.pointer (some ⟨L, 0, none⟩), .pointer (some ⟨S, 0, none⟩)]] w fun e w' => ∃ k : Nat, e = .returned (.int .i64 k) ∧ k ≤ n ∧ (∀ i, i < k → pr i = false) ∧ (∀ i, k ≤ i → i < n → pr i = true) ∧ Below w.heap.size w w' := by
  have HC := Lib.hid hcall
  have HM := Lib.hid hmono
  clear hcall hmono
  go_enter Tryz.func156, Tryz.ntmps156
  go_wp2
  go_loopw [5, 6] (fun vi vj wr => ∃ i j : Nat, vi = .int .i64 i ∧ vj = .int .i64 j ∧ i ≤ j ∧ j ≤ n ∧ (∀ x, x < i → pr x = false) ∧ (∀ x, j ≤ x → x < n → pr x = true) ∧ Below w.heap.size w wr) (fun vi vj _ => (intOf vj).toNat - (intOf vi).toNat)
  case atStart => exact ⟨0, n, rfl, rfl, by omega, Nat.le_refl _, fun x h => by omega, fun x h1 h2 => by omega, Below.refl _ _⟩
  case round =>
    obtain ⟨i, j, rfl, rfl, hij, hjn, h1, h2, hb⟩ := hrel
    have H1 := Lib.hid h1
    have H2 := Lib.hid h2
    have HB := Lib.hid hb
    have hszr := hb.size
    clear h1 h2 hb
    by_cases hlt : i < j
    · have i1 : (i : Int) < (j : Int) := by omega
      obtain ⟨s, hs⟩ : ∃ s, s = i + j := ⟨_, rfl⟩
      obtain ⟨h, hh⟩ : ∃ h, h = s / 2 := ⟨_, rfl⟩
      have e1 : (i : Int) + (j : Int) = (s : Int) := by rw [hs]; norm_cast
      have s1 : IntKind.i64.wrap (s : Int) = (s : Int) := IntWalk.i64_in _ (by omega)
      have hhj : h < j := by omega
      have hih : i ≤ h := by omega
      have HCA := Lib.hid (HC.out h wr (by omega) HB.out)
      have hcf := callFunc_ask
      have e2 : (s : Int) / 2 = (h : Int) := by rw [hh]; norm_cast
      have s2 : IntKind.i64.wrap ((h : Int) + 1) = (h : Int) + 1 := IntWalk.i64_in _ (by omega)
      have hm := HM.out
      clear hs hh
      cases hp : pr h with
      | true =>
        rw [hp] at HCA
        clear hm
        have HT := Lib.hid (fun x (h1 : h ≤ x) (h2 : x < n) => HM.out h x h1 h2 hp)
        go_wp2_with (go_at_call 157; refine HCA.out.mono ?_; rintro e w' ⟨rfl, hb2⟩)
        go_roundw
        case rel => exact ⟨i, h, rfl, rfl, hih, by omega, H1.out, HT.out, HB.out.trans (hb2.mono hszr)⟩
        case measure => simp [intOf]; omega
      | false =>
        rw [hp] at HCA
        have hf : ∀ x, x < h + 1 → pr x = false := fun x h1 => by
          cases q : pr x with
          | false => rfl
          | true =>
            have := hm x h (by omega) (by omega) q
            rw [hp] at this
            cases this
        have HF := Lib.hid hf
        clear hm hf
        go_wp2_with (go_at_call 157; refine HCA.out.mono ?_; rintro e w' ⟨rfl, hb2⟩)
        go_roundw
        case rel => exact ⟨h + 1, j, by go_num, rfl, by omega, hjn, HF.out, H2.out, HB.out.trans (hb2.mono hszr)⟩
        case measure => simp [intOf]; omega
    · obtain rfl : i = j := by omega
      have i1 : ¬ (i : Int) < (i : Int) := by omega
      go_wp2
      go_ret
      exact ⟨i, rfl, hjn, H1.out, H2.out, HB.out⟩
end Go.Proofs.YtajmdgcnnipdoaaGreatDoor
