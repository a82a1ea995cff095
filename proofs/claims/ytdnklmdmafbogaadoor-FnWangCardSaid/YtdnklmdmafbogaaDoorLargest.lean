/- Largest: the walks of LargestSquare, the reference's and the program's. -/
import Derived.Test.YtdnklmdmafbogaaDoorFind
namespace Go.Proofs.YtdnklmdmafbogaaDoor
open Go.RowKit

/-- The greatest side up to k of a square that can be filled, or 0. -/
def bestTo (ts : List Tile) : Nat → Nat
  | 0 => 0
  | k + 1 => if hasFill ts ((k + 1 : Nat) : Int) ((k + 1 : Nat) : Int) = true then k + 1 else bestTo ts k
theorem bestTo_yes {ts : List Tile} {k : Nat} (h1 : 1 ≤ k) (h : hasFill ts k k = true) : bestTo ts k = k := by
  obtain ⟨m, rfl⟩ : ∃ m, k = m + 1 := ⟨k - 1, by omega⟩
  rw [bestTo, if_pos h]
theorem bestTo_no {ts : List Tile} {k : Nat} (h1 : 1 ≤ k) (h : hasFill ts k k = false) : bestTo ts k = bestTo ts (k - 1) := by
  obtain ⟨m, rfl⟩ : ∃ m, k = m + 1 := ⟨k - 1, by omega⟩
  rw [bestTo, if_neg (by rw [h]; simp)]
  rfl
theorem bestTo_none {ts : List Tile} (h : ¬ Wangs ts) : ∀ k, bestTo ts k = 0 := by
  intro k
  induction k with
  | zero => rfl
  | succ k ih =>
    have : hasFill ts ((k + 1 : Nat) : Int) ((k + 1 : Nat) : Int) = false := if_neg (fun q => h q.1)
    rw [bestTo, if_neg (by rw [this]; simp), ih]
theorem bestTo_le (ts : List Tile) : ∀ k, bestTo ts k ≤ k := by
  intro k
  induction k with
  | zero => exact Nat.le_refl _
  | succ k ih => rw [bestTo]; split <;> omega

set_option maxHeartbeats 800000 in
theorem specLargest (ad : Option Addr) (c : Nat) (ts : List Tile) (w : World) (hn : ts.length ≤ 1048576) (hc : CellsAt w ad (wangs ts)) :
    Calls Tryd.prog 40 #[.slice ad ts.length c] w fun e w' => e = .returned (.int .i64 (bestTo ts 4 : Nat)) ∧ Below w.heap.size w w' := by
  have hare := fun w (h : CellsAt w ad (wangs ts)) => specAre ad c ts w hn h
  have hfind := fun (k : Nat) w (h : CellsAt w ad (wangs ts)) => specFind ad c ts k k w hn h
  have HARE := Lib.hid hare
  have HFIND := Lib.hid hfind
  have HC := Lib.hid hc
  clear hare hfind hc
  by_cases hW : Wangs ts
  · rw [decide_eq_true hW] at HARE
    clear hW
    go_enter Tryd.func40, Tryd.ntmps40
    go_wp2_with fail
    go_loopw [3, 4] (fun x i wr => ∃ k : Nat, 1 ≤ k ∧ k ≤ 5 ∧ i = .int .i64 k ∧ x = .int .i64 (bestTo ts (k - 1) : Nat) ∧ Below w.heap.size w wr) (fun _ i _ => 5 - (intOf i).toNat)
    case atStart => exact ⟨1, by omega, by omega, rfl, rfl, Below.refl _ _⟩
    case round =>
      obtain ⟨k, hk1, hk5, rfl, rfl, hb⟩ := hrel
      by_cases hlt : k ≤ 4
      · have hltd : decide ((k : Int) ≤ 4) = true := by simp; omega
        go_wp2_with fail
        refine (HARE.out _ (HC.out.below hb)).mono ?_
        rintro e w' ⟨rfl, rfl⟩
        go_wp2_with fail
        refine (HFIND.out k _ (HC.out.below hb)).mono ?_
        by_cases hf : hasFill ts k k = true
        · rw [hf]
          have HF := Lib.hid hf
          clear hf
          rintro e w2 ⟨a2, c2, rfl, _, hb2⟩
          go_wp2
          go_roundw
          case rel =>
            refine ⟨k + 1, by omega, by omega, by go_num, ?_, hb.trans (hb2.mono hb.size)⟩
            rw [Nat.add_sub_cancel, bestTo_yes hk1 HF.out]
          case measure => simp [intOf]; omega
        · have hf' : hasFill ts k k = false := by simpa using hf
          rw [hf']
          have HF := Lib.hid hf'
          clear hf hf'
          rintro e w2 ⟨a2, c2, rfl, _, hb2⟩
          go_wp2
          go_roundw
          case rel =>
            refine ⟨k + 1, by omega, by omega, by go_num, ?_, hb.trans (hb2.mono hb.size)⟩
            rw [Nat.add_sub_cancel, bestTo_no hk1 HF.out]
          case measure => simp [intOf]; omega
      · obtain rfl : k = 5 := by omega
        go_wp2
        go_ret
        exact ⟨rfl, hb⟩
  · rw [decide_eq_false hW] at HARE
    have h0 : bestTo ts 4 = 0 := bestTo_none hW 4
    rw [h0]
    clear hW h0
    go_enter Tryd.func40, Tryd.ntmps40
    go_wp2_with fail
    refine wp_loop_rounds 1 ?_
    rw [rounds_succ]
    go_wp2_with fail
    refine (HARE.out _ HC.out).mono ?_
    rintro e w' ⟨rfl, rfl⟩
    go_wp2
    go_ret
    exact ⟨rfl, Below.refl _ _⟩

set_option maxHeartbeats 800000 in
theorem implLargest (ad : Option Addr) (c : Nat) (ts : List Tile) (w : World) (hn : ts.length ≤ 1048576) (hc : CellsAt w ad (wangs ts)) :
    Calls Tryd.prog 39 #[.slice ad ts.length c] w fun e w' => e = .returned (.int .i64 (bestTo ts 4 : Nat)) ∧ Below w.heap.size w w' := by
  have hfind := fun (k : Nat) w (h : CellsAt w ad (wangs ts)) => implFind ad c ts k k w hn h
  have HFIND := Lib.hid hfind
  have HC := Lib.hid hc
  clear hfind hc
  go_enter Tryd.func39, Tryd.ntmps39
  go_wp2_with fail
  go_loopw [3] (fun i wr => ∃ k : Nat, k ≤ 4 ∧ i = .int .i64 k ∧ bestTo ts 4 = bestTo ts k ∧ Below w.heap.size w wr) (fun i _ => (intOf i).toNat)
  case atStart => exact ⟨4, by omega, rfl, rfl, Below.refl _ _⟩
  case round =>
    obtain ⟨k, hk, rfl, hbest, hb⟩ := hrel
    have HBEST := Lib.hid hbest
    clear hbest
    by_cases hlt : 1 ≤ k
    · go_wp2_with fail
      refine (HFIND.out k _ (HC.out.below hb)).mono ?_
      by_cases hf : hasFill ts k k = true
      · rw [hf]
        have HF := Lib.hid hf
        clear hf
        rintro e w2 ⟨a2, c2, rfl, _, hb2⟩
        go_wp2
        go_ret
        rw [HBEST.out, bestTo_yes hlt HF.out]
        exact ⟨rfl, hb.trans (hb2.mono hb.size)⟩
      · have hf' : hasFill ts k k = false := by simpa using hf
        rw [hf']
        have HF := Lib.hid hf'
        clear hf hf'
        rintro e w2 ⟨a2, c2, rfl, _, hb2⟩
        go_wp2
        go_roundw
        case rel =>
          refine ⟨k - 1, by omega, by go_num, ?_, hb.trans (hb2.mono hb.size)⟩
          rw [HBEST.out, bestTo_no hlt HF.out]
        case measure => simp [intOf]; omega
    · obtain rfl : k = 0 := by omega
      go_wp2
      go_ret
      rw [HBEST.out]
      exact ⟨rfl, hb⟩
end Go.Proofs.YtdnklmdmafbogaaDoor
