/- Turn: the walks of TurnWang, the reference's and the program's. -/
import Derived.Test.YtdnklmdmafbogaaDoorAreWang
import Derived.Test.YtdnklmdmafbogaaDoorAllBase
import Derived.Deep.RegionHeld3
namespace Go.Proofs.YtdnklmdmafbogaaDoor
open Go.RowKit

def Tile.turn (x : Tile) : Tile := ⟨x.l, x.t, x.r, x.b⟩
def turned (ts : List Tile) : List Tile := if Wangs ts then ts.map Tile.turn else []

theorem turn_snoc (ts : List Tile) (k : Nat) (h : k < ts.length) : wangs ((ts.take (k + 1)).map Tile.turn) = wangs ((ts.take k).map Tile.turn) ++ [.int .i64 ts[k].l, .int .i64 ts[k].t, .int .i64 ts[k].r, .int .i64 ts[k].b] := by
  rw [List.take_succ_eq_append_getElem h, List.map_append, wangs_append]
  rfl

set_option maxRecDepth 100000 in
set_option maxHeartbeats 800000 in
theorem implTurn (ad : Option Addr) (c : Nat) (ts : List Tile) (w : World) (hn : ts.length ≤ 1048576) (hc : CellsAt w ad (wangs ts)) :
    Calls Tryd.prog 27 #[.slice ad ts.length c] w fun e w' => ∃ ad' cap', e = .returned (.tuple #[.slice ad' (turned ts).length cap', .bool (decide (Wangs ts))]) ∧
      w'.ownsRow w.heap.size 45 4 (.slice ad' (turned ts).length cap') (turned ts).length (wangs (turned ts)) ∧ Below w.heap.size w w' := by
  have hare := Lib.hid (fun w (h : CellsAt w ad (wangs ts)) => implAre ad c ts w hn h)
  have HC := Lib.hid hc
  clear hc
  by_cases hW : Wangs ts
  · have ht : turned ts = ts.map Tile.turn := if_pos hW
    have hd : decide (Wangs ts) = true := decide_eq_true hW
    rw [hd] at hare ⊢
    rw [ht]
    have h6 := hW.2.2
    clear hW ht hd
    go_enter Tryd.func27, Tryd.ntmps27
    go_wp2_with fail
    refine (hare.out _ HC.out).mono ?_
    rintro e w1 ⟨rfl, hb1⟩
    go_wp2
    go_loopw [4, 12] (fun v i wr => ∃ k : Nat, k ≤ ts.length ∧ i = .int .i64 k ∧ wr.ownsRow w.heap.size 45 4 v k (wangs ((ts.take k).map Tile.turn)) ∧ Below w.heap.size w wr) (fun _ i _ => ts.length - (intOf i).toNat)
    case atStart => exact ⟨0, by omega, rfl, World.ownsRow_nil _ _ _ _, hb1⟩
    case round =>
      obtain ⟨k, hk, rfl, hown, hb⟩ := hrel
      by_cases hlt : k < ts.length
      · obtain ⟨g, off, rfl, hg, hcc⟩ := wang_open (HC.out.below hb) (by omega)
        obtain ⟨x0, x1, x2, x3⟩ := hcc k hlt
        have HT := Lib.hid (turn_snoc ts k hlt)
        clear hcc
        generalize ts[k] = x at x0 x1 x2 x3 HT
        obtain ⟨xa, xb, xc, xd⟩ := x
        simp only at x0 x1 x2 x3 HT
        have HW := hown.alloc (.cells #[.int .i64 xa, .int .i64 xb, .int .i64 xc, .int .i64 xd] 45)
        have HB := hb.size
        go_wp2_with (at_builtin; refine wpList_app1 rfl (.tmp 16) (.tmp 26) 25 rfl w.heap.size 45 _ 4 32 Tryd.elemWang _ k _ _ _ _ rfl rfl (by simp) HW (by rfl) (by simp [Value.oneCell']) (by unfold maxLen; omega) (by omega) (by omega) ?_; intro g' cap w2 q1 q2 q3 q4 q5 q6)
        go_roundw
        case rel =>
          refine ⟨k + 1, by omega, by go_num, ?_, (hb.alloc hb.size _).trans q2⟩
          rw [HT.out]
          exact q1
        case measure => simp [intOf]; omega
      · obtain rfl : k = ts.length := by omega
        obtain ⟨ad', cap', rfl, _⟩ := ownsRow_cells hown
        go_wp2
        go_ret2
        rw [List.take_length] at hown
        rw [List.length_map]
        exact ⟨ad', cap', rfl, hown, hb⟩
  · have ht : turned ts = [] := if_neg hW
    have hd : decide (Wangs ts) = false := decide_eq_false hW
    rw [hd] at hare ⊢
    rw [ht]
    clear hW ht hd
    go_enter Tryd.func27, Tryd.ntmps27
    go_wp2_with fail
    refine (hare.out _ HC.out).mono ?_
    rintro e w1 ⟨rfl, hb1⟩
    go_wp2
    go_ret2
    exact ⟨none, 0, rfl, World.ownsRow_nil _ _ _ _, hb1⟩

set_option maxRecDepth 100000 in
set_option maxHeartbeats 1600000 in
theorem specTurn (ad : Option Addr) (c : Nat) (ts : List Tile) (w : World) (hn : ts.length ≤ 1048576) (hc : CellsAt w ad (wangs ts)) :
    Calls Tryd.prog 28 #[.slice ad ts.length c] w fun e w' => ∃ ad' cap', e = .returned (.tuple #[.slice ad' (turned ts).length cap', .bool (decide (Wangs ts))]) ∧
      w'.ownsRow w.heap.size 45 4 (.slice ad' (turned ts).length cap') (turned ts).length (wangs (turned ts)) ∧ Below w.heap.size w w' := by
  have hare := Lib.hid (fun w (h : CellsAt w ad (wangs ts)) => specAre ad c ts w hn h)
  have HC := Lib.hid hc
  clear hc
  by_cases hW : Wangs ts
  · have ht : turned ts = ts.map Tile.turn := if_pos hW
    have hd : decide (Wangs ts) = true := decide_eq_true hW
    rw [hd] at hare ⊢
    rw [ht]
    have h6 := hW.2.2
    clear hW ht hd
    go_enter Tryd.func28, Tryd.ntmps28
    go_wp2_with fail
    have hb0 : Below w.heap.size w (w.alloc (.cells #[] 45)) := (Below.refl _ _).alloc (Nat.le_refl _) _
    refine (hare.out _ (HC.out.below hb0)).mono ?_
    rintro e w1 ⟨rfl, rfl⟩
    have hown0 := Lib.hid (ownsRow_empty w 45 4)
    go_wp2
    go_loopw [4, 5] (fun v i wr => ∃ k : Nat, k ≤ ts.length ∧ i = .int .i64 k ∧ wr.ownsRow w.heap.size 45 4 v k (wangs ((ts.take k).map Tile.turn)) ∧ Below w.heap.size w wr) (fun _ i _ => ts.length - (intOf i).toNat)
    case atStart => exact ⟨0, by omega, rfl, hown0.out, hb0⟩
    case round =>
      obtain ⟨k, hk, rfl, hown, hb⟩ := hrel
      by_cases hlt : k < ts.length
      · obtain ⟨g, off, rfl, hg, hcc⟩ := wang_open HC.out (by omega)
        obtain ⟨z0, z1, z2, z3⟩ := hcc k hlt
        have x0 := (hb.cell (p := ⟨g, off + k * 4, none⟩) hg).trans z0
        have x1 := (hb.cell (p := ⟨g, off + k * 4 + 1, none⟩) hg).trans z1
        have x2 := (hb.cell (p := ⟨g, off + k * 4 + 2, none⟩) hg).trans z2
        have x3 := (hb.cell (p := ⟨g, off + k * 4 + 3, none⟩) hg).trans z3
        clear z0 z1 z2 z3
        have HT := Lib.hid (turn_snoc ts k hlt)
        clear hcc
        generalize ts[k] = x at x0 x1 x2 x3 HT
        obtain ⟨xa, xb, xc, xd⟩ := x
        simp only at x0 x1 x2 x3 HT
        have HB := hb.size
        have hlt' : (k : Int) < (ts.length : Int) := by omega
        go_wp2
        go_region_held3 (fun w' => w'.cell? ⟨g, off + k * 4, none⟩ = some (.int .i64 xa) ∧ w'.cell? ⟨g, off + k * 4 + 1, none⟩ = some (.int .i64 xb) ∧ w'.cell? ⟨g, off + k * 4 + 2, none⟩ = some (.int .i64 xc) ∧ w'.cell? ⟨g, off + k * 4 + 3, none⟩ = some (.int .i64 xd))
          (first
            | go_keep
            | exact ⟨(q2.cell (p := ⟨g, off + k * 4, none⟩) hg).trans x0, (q2.cell (p := ⟨g, off + k * 4 + 1, none⟩) hg).trans x1, (q2.cell (p := ⟨g, off + k * 4 + 2, none⟩) hg).trans x2, (q2.cell (p := ⟨g, off + k * 4 + 3, none⟩) hg).trans x3⟩)
          ((refine step_app1 (by rfl) (.tmp 17) (.tmp 39) 25 (by rfl) w.heap.size 45 _ 4 32 Tryd.elemWang _ k _ _ _ _ (by rfl) (by rfl) rfl hown (by rfl) (by simp [Value.oneCell']) (by unfold maxLen; omega) (by omega) (by omega) ?_; intro g' cap w2 q1 q2 q3 q4 q5 q6))
        go_wp2
        go_roundw
        case rel =>
          refine ⟨k + 1, by omega, by go_num, ?_, hb.trans q2⟩
          rw [HT.out]
          exact q1
        case measure => simp [intOf]; omega
      · obtain rfl : k = ts.length := by omega
        obtain ⟨ad', cap', rfl, _⟩ := ownsRow_cells hown
        go_wp2
        go_ret2
        rw [List.take_length] at hown
        rw [List.length_map]
        exact ⟨ad', cap', rfl, hown, hb⟩
  · have ht : turned ts = [] := if_neg hW
    have hd : decide (Wangs ts) = false := decide_eq_false hW
    rw [hd] at hare ⊢
    rw [ht]
    clear hW ht hd
    go_enter Tryd.func28, Tryd.ntmps28
    go_wp2_with fail
    have hb0 : Below w.heap.size w (w.alloc (.cells #[] 45)) := (Below.refl _ _).alloc (Nat.le_refl _) _
    refine (hare.out _ (HC.out.below hb0)).mono ?_
    rintro e w1 ⟨rfl, rfl⟩
    have hown0 := Lib.hid (ownsRow_empty w 45 4)
    go_wp2
    go_ret2
    exact ⟨_, _, rfl, hown0.out, hb0⟩
end Go.Proofs.YtdnklmdmafbogaaDoor
