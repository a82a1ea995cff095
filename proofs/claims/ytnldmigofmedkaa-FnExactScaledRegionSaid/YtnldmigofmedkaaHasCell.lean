/- HasCell: the walks of HasCell, the reference's and the program's. -/
import Derived.Test.YtnldmigofmedkaaProg
import Derived.Test.YtnldmigofmedkaaCl0
namespace Go.Proofs.Ytnldmigofmedkaa
open Go.RowKit

theorem has_yes {l : List Cl} {k : Nat} {x y : Int} (hk : k < l.length) (h : l[k] = ⟨x, y⟩) : hasC l x y = true := decide_eq_true (h ▸ List.getElem_mem hk)
theorem has_no {l : List Cl} {x y : Int} (h : (⟨x, y⟩ : Cl) ∉ l.take l.length) : hasC l x y = false := decide_eq_false (by rwa [List.take_length] at h)

set_option maxHeartbeats 800000 in
theorem specHas (ad : Option Addr) (c : Nat) (l : List Cl) (x y : Int) (w : World) (hn : l.length ≤ 1048576) (hc : CellsAt w ad (cls l)) :
    Calls Try.prog 74 #[.slice ad l.length c, .int .i64 x, .int .i64 y] w fun e w' => e = .returned (.bool (hasC l x y)) ∧ w = w' := by
  have HC := Lib.hid hc
  clear hc
  go_enter Try.func74, Try.ntmps74
  go_wp2
  go_loopw [7] (fun i wr => ∃ k : Nat, k ≤ l.length ∧ i = .int .i64 k ∧ (⟨x, y⟩ : Cl) ∉ l.take k ∧ w = wr) (fun i _ => l.length - (intOf i).toNat)
  case atStart => exact ⟨0, by omega, rfl, by simp, rfl⟩
  case round =>
    obtain ⟨k, hk, rfl, ht, rfl⟩ := hrel
    have HT := Lib.hid ht
    clear ht
    by_cases hlt : k < l.length
    · obtain ⟨g, off, rfl, hg, hcc⟩ := cl_open HC.out (by omega)
      obtain ⟨x0, x1⟩ := hcc k hlt
      clear hcc
      obtain ⟨d, hd⟩ : ∃ d, d = l[k] := ⟨_, rfl⟩
      rw [← hd] at x0 x1
      have HD := Lib.hid hd
      clear hd
      obtain ⟨dx, dy⟩ := d
      simp only at x0 x1
      by_cases h1 : dx = x
      · have b1 : (dx == x) = true := by simp [h1]
        by_cases h2 : dy = y
        · have b2 : (dy == y) = true := by simp [h2]
          have HY := Lib.hid (has_yes (x := x) (y := y) hlt (by rw [← HD.out, h1, h2]))
          clear h1 h2
          go_wp2
          go_ret
          rw [HY.out]
          exact ⟨rfl, rfl⟩
        · have b2 : (dy == y) = false := by simp [h2]
          have HNN := Lib.hid (not_mem_take_succ hlt HT.out (by rw [← HD.out]; intro h; cases h; exact h2 rfl))
          clear h1 h2
          go_wp2
          go_roundw
          case rel => exact ⟨k + 1, by omega, by go_num, HNN.out, trivial⟩
          case measure => simp [intOf]; omega
      · have b1 : (dx == x) = false := by simp [h1]
        have HNN := Lib.hid (not_mem_take_succ hlt HT.out (by rw [← HD.out]; intro h; cases h; exact h1 rfl))
        clear h1
        go_wp2
        go_roundw
        case rel => exact ⟨k + 1, by omega, by go_num, HNN.out, trivial⟩
        case measure => simp [intOf]; omega
    · obtain rfl : k = l.length := by omega
      go_wp2
      go_ret
      rw [has_no HT.out]
      exact ⟨rfl, rfl⟩

set_option maxHeartbeats 800000 in
theorem implHas (ad : Option Addr) (c : Nat) (l : List Cl) (x y : Int) (w : World) (hn : l.length ≤ 1048576) (hc : CellsAt w ad (cls l)) :
    Calls Try.prog 77 #[.slice ad l.length c, .int .i64 x, .int .i64 y] w fun e w' => e = .returned (.bool (hasC l x y)) ∧ Below w.heap.size w w' := by
  have HC := Lib.hid hc
  clear hc
  go_enter Try.func77, Try.ntmps77
  go_wp2
  go_loopw [11] (fun i wr => ∃ k : Nat, k ≤ l.length ∧ i = .int .i64 k ∧ (⟨x, y⟩ : Cl) ∉ l.take k ∧ Below w.heap.size w wr) (fun i _ => l.length - (intOf i).toNat)
  case atStart => exact ⟨0, by omega, rfl, by simp, Below.refl _ _⟩
  case round =>
    obtain ⟨k, hk, rfl, ht, hb⟩ := hrel
    have HT := Lib.hid ht
    clear ht
    by_cases hlt : k < l.length
    · obtain ⟨g, off, rfl, hg, hcc⟩ := cl_open (HC.out.below hb) (by omega)
      obtain ⟨x0, x1⟩ := hcc k hlt
      clear hcc
      obtain ⟨d, hd⟩ : ∃ d, d = l[k] := ⟨_, rfl⟩
      rw [← hd] at x0 x1
      have HD := Lib.hid hd
      clear hd
      obtain ⟨dx, dy⟩ := d
      simp only at x0 x1
      by_cases h1 : dx = x
      · have b1 : (dx == x) = true := by simp [h1]
        by_cases h2 : dy = y
        · have b2 : (dy == y) = true := by simp [h2]
          have HY := Lib.hid (has_yes (x := x) (y := y) hlt (by rw [← HD.out, h1, h2]))
          clear h1 h2
          go_wp2
          go_ret
          rw [HY.out]
          exact ⟨rfl, hb.alloc hb.size _⟩
        · have b2 : (dy == y) = false := by simp [h2]
          have HNN := Lib.hid (not_mem_take_succ hlt HT.out (by rw [← HD.out]; intro h; cases h; exact h2 rfl))
          clear h1 h2
          go_wp2
          go_roundw
          case rel => exact ⟨k + 1, by omega, by go_num, HNN.out, hb.alloc hb.size _⟩
          case measure => simp [intOf]; omega
      · have b1 : (dx == x) = false := by simp [h1]
        have HNN := Lib.hid (not_mem_take_succ hlt HT.out (by rw [← HD.out]; intro h; cases h; exact h1 rfl))
        clear h1
        go_wp2
        go_roundw
        case rel => exact ⟨k + 1, by omega, by go_num, HNN.out, hb.alloc hb.size _⟩
        case measure => simp [intOf]; omega
    · obtain rfl : k = l.length := by omega
      go_wp2
      go_ret
      rw [has_no HT.out]
      exact ⟨rfl, hb⟩
end Go.Proofs.Ytnldmigofmedkaa
