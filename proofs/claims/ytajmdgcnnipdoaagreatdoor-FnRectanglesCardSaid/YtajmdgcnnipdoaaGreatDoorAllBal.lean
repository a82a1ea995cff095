/- AllBal: parts laid together: Bal0, BalW. -/
import Derived.Test.YtajmdgcnnipdoaaGreatDoorAllHead
import Derived.Test.YtajmdgcnnipdoaaGreatDoorAllShape
import Derived.BigQuiet
import Derived.IntWalk
import Derived.Deep.Cut
import Derived.Deep.DrawnRows

/- Bal0: the balance of a chessboard colouring; plain. -/
namespace Go.Proofs.YtajmdgcnnipdoaaGreatDoor
open Go.RowKit

def signC (c : Cl) : Int := if (c.x + c.y) % 2 = 0 then 1 else -1
/-- The dark cells less the light ones. -/
def balL (l : List Cl) : Int := l.foldl (fun n c => n + signC c) 0
theorem bal_from (l : List Cl) : ∀ n, l.foldl (fun n c => n + signC c) n = n + balL l := by
  induction l with
  | nil => intro n; simp [balL]
  | cons c l ih =>
    intro n
    unfold balL
    rw [List.foldl_cons, List.foldl_cons, ih, ih]
    omega
theorem bal_cons (c : Cl) (l : List Cl) : balL (c :: l) = signC c + balL l := by
  conv => lhs; unfold balL
  rw [List.foldl_cons, bal_from]
  omega
theorem bal_bound (l : List Cl) : -(l.length : Int) ≤ balL l ∧ balL l ≤ l.length := by
  induction l with
  | nil => simp [balL]
  | cons c l ih =>
    rw [bal_cons, List.length_cons]
    unfold signC
    split <;> omega
theorem bal_take (l : List Cl) (k : Nat) (hk : k < l.length) : balL (l.take (k + 1)) = balL (l.take k) + signC l[k] := by
  rw [List.take_succ_eq_append_getElem hk]
  unfold balL
  rw [List.foldl_append]
  rfl
theorem bal_take_bd (l : List Cl) (k : Nat) (hk : k ≤ l.length) : -(k : Int) ≤ balL (l.take k) ∧ balL (l.take k) ≤ k := by
  have h := bal_bound (l.take k)
  rw [List.length_take, Nat.min_eq_left hk] at h
  exact h
/-- What CheckerBalance returns. -/
def balR (l : List Cl) : Int := if Shape l then balL l else 0
end Go.Proofs.YtajmdgcnnipdoaaGreatDoor

/- BalW: the walks of CheckerBalance, the reference's and the program's. -/
namespace Go.Proofs.YtajmdgcnnipdoaaGreatDoor
open Go.RowKit

attribute [local go_sem ↓] Go.wp_at_zero Go.wp_at_succ

set_option maxRecDepth 100000 in
set_option maxHeartbeats 3200000 in
theorem implBal (ad : Option Addr) (c : Nat) (l : List Cl) (w : World) (hn : l.length ≤ 1048576) (hc : CellsAt w ad (cls l)) :
    Calls Tryz.prog 36 #[.slice ad l.length c] w fun e w' => e = .returned (.int .i64 (balR l)) ∧ Below w.heap.size w w' := by
  have HC := Lib.hid hc
  have HSH := Lib.hid (implShape ad c l w hn hc)
  clear hc
  by_cases hs : Shape l
  · rw [decide_eq_true hs] at HSH
    have HIN := Lib.hid hs.1.2
    have hl8 := hs.2.2
    have HR := Lib.hid (show balR l = balL l from if_pos hs)
    clear hs hn
    go_enter Tryz.func36, Tryz.ntmps36
    go_wp2_with fail
    refine HSH.out.mono ?_
    rintro e w1 ⟨rfl, hb1⟩
    have HB1 := Lib.hid hb1
    have HC1 := Lib.hid (HC.out.below hb1)
    clear hb1
    go_wp2
    go_loopw [3, 11] (fun n i wr => ∃ k : Nat, k ≤ l.length ∧ i = .int .i64 k ∧ n = .int .i64 (balL (l.take k)) ∧ Below w1.heap.size w1 wr) (fun _ i _ => l.length - (intOf i).toNat)
    case atStart => exact ⟨0, by omega, rfl, rfl, Below.refl _ _⟩
    case round =>
      obtain ⟨k, hk, rfl, rfl, hb⟩ := hrel
      have hszr := hb.size
      have HB := Lib.hid hb
      clear hb
      have hbd := bal_take_bd l k hk
      by_cases hlt : k < l.length
      · obtain ⟨g, off, rfl, hg, hcc⟩ := cl_open HC1.out (by omega)
        obtain ⟨v0, v1⟩ := hcc k hlt
        have x0 := (HB.out.cell (p := ⟨g, off + k * 2, none⟩) hg).trans v0
        have x1 := (HB.out.cell (p := ⟨g, off + k * 2 + 1, none⟩) hg).trans v1
        have hd := HIN.out l[k] (List.getElem_mem hlt)
        unfold OnB at hd
        have hst := bal_take l k hlt
        clear hcc v0 v1
        generalize l[k] = d at x0 x1 hd hst
        obtain ⟨dx, dy⟩ := d
        simp only at x0 x1 hd hst
        obtain ⟨⟨d1, d2⟩, d3, d4⟩ := hd
        unfold signC at hst
        simp only at hst
        generalize balL (l.take k) = n at hst hbd ⊢
        obtain ⟨b1, b2⟩ := hbd
        obtain ⟨s, hs⟩ : ∃ s, dx + dy = s := ⟨_, rfl⟩
        rw [hs] at hst
        have hs1 : IntKind.i64.wrap s = s := IntWalk.i64_in _ (by omega)
        have i1 : (k : Int) < (l.length : Int) := by omega
        have hbW : Below wr.heap.size wr (wr.alloc (.cells #[.int .i64 dx, .int .i64 dy] 91)) := (Below.refl _ _).alloc (Nat.le_refl _) _
        have hbox := cl_box (heap_alloc_new wr (.cells #[.int .i64 dx, .int .i64 dy] 91))
        have HBW := Lib.hid hbW
        have HBOX := Lib.hid hbox
        clear hbW hbox
        by_cases he : s % 2 = 0
        · rw [if_pos he] at hst
          have HST := Lib.hid hst
          have t1 : s.tmod 2 = 0 := by rw [Int.tmod_eq_emod_of_nonneg (by omega)]; exact he
          have t2 : IntKind.i64.wrap (n + 1) = n + 1 := IntWalk.i64_in _ (by omega)
          clear hst
          go_upto_region 7 with (fail)
          generalize wr.alloc (.cells #[.int .i64 dx, .int .i64 dy] 91) = wb at HBW HBOX ⊢
          obtain ⟨z0, z1⟩ := HBOX.out
          go_wp2
          go_roundw
          case rel => exact ⟨k + 1, by omega, by go_num, by first | (rw [HST.out]; done) | (rw [HST.out]; go_num), HB.out.trans (HBW.out.mono hszr)⟩
          case measure => simp [intOf]; omega
        · rw [if_neg he] at hst
          have HST := Lib.hid hst
          have t1 : s.tmod 2 = 1 := by rw [Int.tmod_eq_emod_of_nonneg (by omega)]; omega
          have t2 : IntKind.i64.wrap (n + -1) = n + -1 := IntWalk.i64_in _ (by omega)
          clear hst
          go_upto_region 7 with (fail)
          generalize wr.alloc (.cells #[.int .i64 dx, .int .i64 dy] 91) = wb at HBW HBOX ⊢
          obtain ⟨z0, z1⟩ := HBOX.out
          go_wp2
          go_roundw
          case rel => exact ⟨k + 1, by omega, by go_num, by first | (rw [HST.out]; done) | (rw [HST.out]; go_num), HB.out.trans (HBW.out.mono hszr)⟩
          case measure => simp [intOf]; omega
      · obtain rfl : k = l.length := by omega
        go_wp2
        go_ret
        exact ⟨by rw [List.take_length, HR.out]; rfl, HB1.out.trans (HB.out.mono HB1.out.size)⟩
  · rw [decide_eq_false hs] at HSH
    rw [show balR l = 0 from if_neg hs]
    go_enter Tryz.func36, Tryz.ntmps36
    go_wp2_with fail
    refine HSH.out.mono ?_
    rintro e w1 ⟨rfl, hb1⟩
    go_wp2
    go_ret
    exact ⟨rfl, hb1⟩

set_option maxRecDepth 100000 in
set_option maxHeartbeats 3200000 in
theorem specBal (ad : Option Addr) (c : Nat) (l : List Cl) (w : World) (hn : l.length ≤ 1048576) (hc : CellsAt w ad (cls l)) :
    Calls Tryz.prog 39 #[.slice ad l.length c] w fun e w' => e = .returned (.int .i64 (balR l)) ∧ Below w.heap.size w w' := by
  have HC := Lib.hid hc
  have HSH := Lib.hid (fun w' h => specShape ad c l w' hn h)
  clear hc
  by_cases hs : Shape l
  · rw [decide_eq_true hs] at HSH
    have HIN := Lib.hid hs.1.2
    have hl8 := hs.2.2
    have HR := Lib.hid (show balR l = balL l from if_pos hs)
    clear hs hn
    go_enter Tryz.func39, Tryz.ntmps39
    go_wp2
    go_loopw [3, 4] (fun n i wr => ∃ k : Nat, k ≤ l.length ∧ i = .int .i64 k ∧ n = .int .i64 (balL (l.take k)) ∧ Below w.heap.size w wr) (fun _ i _ => l.length - (intOf i).toNat)
    case atStart => exact ⟨0, by omega, rfl, rfl, Below.refl _ _⟩
    case round =>
      obtain ⟨k, hk, rfl, rfl, hb⟩ := hrel
      have HB := Lib.hid hb
      have hszr := hb.size
      clear hb
      have hbd := bal_take_bd l k hk
      by_cases hlt : k < l.length
      · have i1 : (k : Int) < (l.length : Int) := by omega
        go_wp2_with fail
        refine (HSH.out wr (HC.out.below HB.out)).mono ?_
        rintro e w2 ⟨rfl, hb2⟩
        have HB2 := Lib.hid (HB.out.trans (hb2.mono hszr))
        clear hb2
        obtain ⟨g, off, rfl, hg, hcc⟩ := cl_open HC.out (by omega)
        obtain ⟨v0, v1⟩ := hcc k hlt
        have x0 := (HB2.out.cell (p := ⟨g, off + k * 2, none⟩) hg).trans v0
        have x1 := (HB2.out.cell (p := ⟨g, off + k * 2 + 1, none⟩) hg).trans v1
        have hd := HIN.out l[k] (List.getElem_mem hlt)
        unfold OnB at hd
        have hst := bal_take l k hlt
        clear hcc v0 v1
        generalize l[k] = d at x0 x1 hd hst
        obtain ⟨dx, dy⟩ := d
        simp only at x0 x1 hd hst
        obtain ⟨⟨d1, d2⟩, d3, d4⟩ := hd
        unfold signC at hst
        simp only at hst
        generalize balL (l.take k) = n at hst hbd ⊢
        obtain ⟨b1, b2⟩ := hbd
        obtain ⟨s, hs⟩ : ∃ s, dx + dy = s := ⟨_, rfl⟩
        rw [hs] at hst
        have hs1 : IntKind.i64.wrap s = s := IntWalk.i64_in _ (by omega)
        by_cases he : s % 2 = 0
        · rw [if_pos he] at hst
          have HST := Lib.hid hst
          have t1 : s.tmod 2 = 0 := by rw [Int.tmod_eq_emod_of_nonneg (by omega)]; exact he
          have t2 : IntKind.i64.wrap (n + 1) = n + 1 := IntWalk.i64_in _ (by omega)
          clear hst
          go_wp2
          go_big_quiet (fail)
          go_wp2
          go_roundw
          case rel => exact ⟨k + 1, by omega, by go_num, by first | (rw [HST.out]; done) | (rw [HST.out]; go_num), below_drewN HB2.out _⟩
          case measure => simp [intOf]; omega
        · rw [if_neg he] at hst
          have HST := Lib.hid hst
          have t1 : s.tmod 2 = 1 := by rw [Int.tmod_eq_emod_of_nonneg (by omega)]; omega
          have t2 : IntKind.i64.wrap (n - 1) = n - 1 := IntWalk.i64_in _ (by omega)
          clear hst
          go_wp2
          go_big_quiet (fail)
          go_wp2
          go_roundw
          case rel => exact ⟨k + 1, by omega, by go_num, by first | (rw [HST.out]; done) | (rw [HST.out]; go_num), below_drewN HB2.out _⟩
          case measure => simp [intOf]; omega
      · obtain rfl : k = l.length := by omega
        go_wp2
        go_ret
        exact ⟨by rw [List.take_length, HR.out]; rfl, HB.out⟩
  · rw [decide_eq_false hs] at HSH
    rw [show balR l = 0 from if_neg hs]
    clear hs hn
    go_enter Tryz.func39, Tryz.ntmps39
    go_wp2
    go_loopw [3, 4] (fun n i wr => n = .int .i64 0 ∧ i = .int .i64 0 ∧ wr = w) (fun _ _ _ => 0)
    case atStart => exact ⟨rfl, rfl, rfl⟩
    case round =>
      obtain ⟨rfl, rfl, rfl⟩ := hrel
      by_cases hlt : 0 < l.length
      · have i1 : (0 : Int) < (l.length : Int) := by omega
        go_wp2_with fail
        refine (HSH.out _ HC.out).mono ?_
        rintro e w2 ⟨rfl, hb2⟩
        go_wp2
        go_ret
        exact ⟨rfl, hb2⟩
      · have i1 : ¬ (0 : Int) < (l.length : Int) := by omega
        go_wp2
        go_ret
        exact ⟨rfl, Below.refl _ _⟩
end Go.Proofs.YtajmdgcnnipdoaaGreatDoor
