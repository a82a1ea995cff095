/- Ways: the walks of the program's dominoWays, its closure and TransferMatrix. -/
import Derived.Test.YtgplpngphaaefaaDoorFills
import Derived.Laws.EntriesVeiled
namespace Go.Proofs.YtgplpngphaaefaaDoor
open Go.RowKit

/-- What is known of the world in the closure: its three cells, and the row. -/
def WaysI (B bo bf W N g : Nat) (o : List Int) (w : World) : Prop :=
  w.heap[B]? = some (.cells #[.int .i64 W] 3 (0, 0)) ∧ w.heap[bo]? = some (.cells #[.slice (some ⟨g, 0, none⟩) N N] 29 (0, 0)) ∧
    w.heap[bf]? = some (.cells #[.func (.func 51) #[] #[.pointer (some ⟨B, 0, none⟩), .pointer (some ⟨bo, 0, none⟩), .pointer (some ⟨bf, 0, none⟩)]] 67 (0, 0)) ∧
    w.ownsRow g 3 1 (.slice (some ⟨g, 0, none⟩) N N) N (ints o) ∧ o.length = N ∧ B < g ∧ g < bo ∧ g < bf
theorem callFunc_ways (args : Array Value) (w : World) : Sem.run Tryd.prog (callFunc 51 args) w = .ok (.enter 51 args) w := by kernel_rfl
theorem or_lt_pow {d x : Nat} (h : d < 2 ^ x) : d ||| 2 ^ x < 2 ^ (x + 1) :=
  Nat.or_lt_two_pow (Nat.lt_of_lt_of_le h (Nat.pow_le_pow_right (by decide) (by omega))) (Nat.pow_lt_pow_right (by decide) (by omega))

set_option maxRecDepth 100000 in
set_option maxHeartbeats 1600000 in
theorem wfill_any (B bo bf W N g u : Nat) (hN : N = 2 ^ W) (hW : W ≤ 4) (hu : u < 1152921504606846976) : ∀ (n x d : Nat) (o : List Int) (w : World), x + n = W → d < 2 ^ x → WaysI B bo bf W N g o w →
    Calls Tryd.prog 51 #[.int .i64 x, .int .i64 u, .int .i64 d, .pointer (some ⟨B, 0, none⟩), .pointer (some ⟨bo, 0, none⟩), .pointer (some ⟨bf, 0, none⟩)] w fun e w' =>
      e = .returned (.tuple #[]) ∧ WaysI B bo bf W N g (incAll o (endsF u n x d)) w' ∧ Below B w w' := by
  have hN16 : N ≤ 16 := by rw [hN]; exact Nat.pow_le_pow_right (by decide) hW
  have HN := Lib.hid hN
  clear hN
  intro n
  induction n using Nat.strongRecOn with
  | ind n ih =>
  intro x d o w hx hd hI
  obtain ⟨b1, b2, b3, hrow, hlen, hg⟩ := hI
  have x1 := cell_of_one b1
  have x2 := cell_of_one b2
  have x3 := cell_of_one b3
  have B1 := Lib.hid b1
  have B2 := Lib.hid b2
  have B3 := Lib.hid b3
  have HROW := Lib.hid hrow
  have HL := Lib.hid hlen
  clear b1 b2 b3 hrow
  have hd16 : d < 16 := Nat.lt_of_lt_of_le hd (Nat.pow_le_pow_right (by decide) (show x ≤ 4 by omega))
  match n, ih, hx with
  | 0, _, hx =>
    obtain rfl : x = W := by omega
    have hdN : d < N := by rw [HN.out]; exact hd
    have hck := HROW.out.cellAt d (by omega)
    have hfz := HROW.out.frozenAt d
    rw [ints, List.getElem?_map, List.getElem?_eq_getElem (by omega)] at hck
    simp only [Option.map_some] at hck
    have hset : o.set d (wrap64 (o[d] + 1)) = incAll o (endsF u 0 x d) := by
      simp [incAll, endsF, incAt, List.getD_eq_getElem?_getD, show d < o.length by omega]
    obtain ⟨y, hy⟩ : ∃ y, y = o[d] := ⟨_, rfl⟩
    rw [← hy] at hck hset
    have HSET := Lib.hid hset
    have HG := Lib.hid hg
    clear hset hy hlen hg hd
    go_enter Tryd.func51, Tryd.ntmps51
    go_wp2_with fail
    go_end0
    have q := HROW.out.stored d (.int .i64 (wrap64 (y + 1)))
    have q1 := q.1
    rw [ints_set, HSET.out] at q1
    obtain ⟨hg1, hg2, hg3⟩ := HG.out
    refine ⟨rfl, ⟨?_, ?_, ?_, q1, ?_, HG.out⟩, (Below.refl _ _).setCell (by show B ≤ g; omega) _⟩
    · rw [Below.heap_setCell _ _ _ _ (by show B ≠ g; omega)]; exact B1.out
    · rw [Below.heap_setCell _ _ _ _ (by show bo ≠ g; omega)]; exact B2.out
    · rw [Below.heap_setCell _ _ _ _ (by show bf ≠ g; omega)]; exact B3.out
    · rw [incAll_length]; exact HL.out
  | n + 1, ih, hx =>
    have hlt : decide ((W : Int) ≤ (x : Int)) = false := by simp; omega
    have h1 := fun d' o' w' (hd' : d' < 2 ^ (x + 1)) (hI' : WaysI B bo bf W N g o' w') => ih n (by omega) (x + 1) d' o' w' (by omega) hd' hI'
    rw [show ((x + 1 : Nat) : Int) = (x : Int) + 1 from rfl] at h1
    have H1 := Lib.hid h1
    have HI := Lib.hid (show WaysI B bo bf W N g o w from ⟨B1.out, B2.out, B3.out, HROW.out, HL.out, hg⟩)
    have HD := Lib.hid hd
    have hcf := callFunc_ways
    clear h1 hlen hg hd
    by_cases hub : u.testBit x = true
    · have e1 : bits .and .i64 ((u : Int) / 2 ^ x) 1 = 1 := by rw [and_shr_one _ _ (by omega), if_pos hub]
      have hv : endsF u (n + 1) x d = endsF u n (x + 1) d := by cases n <;> simp [endsF, hub]
      rw [hv]
      clear ih hub hv
      go_enter Tryd.func51, Tryd.ntmps51
      go_wp2_with fail
      refine (H1.out d o _ (Nat.lt_of_lt_of_le HD.out (Nat.pow_le_pow_right (by decide) (by omega))) HI.out).mono ?_
      rintro e w1 ⟨rfl, hI1, hb1⟩
      go_wp2_with fail
      go_end0
      exact ⟨rfl, hI1, hb1⟩
    · have e1 : bits .and .i64 ((u : Int) / 2 ^ x) 1 = 0 := by rw [and_shr_one _ _ (by omega), if_neg hub]
      have hor := or_pow d x (by omega) (by omega)
      match n, ih, hx, H1 with
      | 0, _, hx, H1 =>
        have hv : endsF u (0 + 1) x d = endsF u 0 (x + 1) (d ||| 2 ^ x) := by simp [endsF, hub]
        rw [hv]
        have hdd : decide ((x : Int) + 1 < (W : Int)) = false := by simp; omega
        clear hub hv
        go_enter Tryd.func51, Tryd.ntmps51
        go_wp2_with fail
        go_still_tail 8, (by kernel_rfl)
        go_wp2_with fail
        rw [hor]
        clear hor
        refine (H1.out (d ||| 2 ^ x) o w.drew (or_lt_pow HD.out) (show WaysI B bo bf W N g o w.drew from HI.out)).mono ?_
        rintro e w1 ⟨rfl, hI1, hb1⟩
        have y1 := cell_of_one hI1.1
        have y2 := cell_of_one hI1.2.2.1
        have HI1 := Lib.hid hI1
        clear hI1
        go_wp2_with fail
        go_end0
        exact ⟨rfl, HI1.out, (Below.refl _ _).drew.trans hb1⟩
      | n + 1, ih, hx, H1 =>
        have hdd : decide ((x : Int) + 1 < (W : Int)) = true := by simp; omega
        by_cases hvb : u.testBit (x + 1) = true
        · have e2 : bits .and .i64 ((u : Int) / 2 ^ (x + 1)) 1 = 1 := by rw [and_shr_one _ _ (by omega), if_pos hvb]
          have hv : endsF u (n + 1 + 1) x d = endsF u (n + 1) (x + 1) (d ||| 2 ^ x) := by simp [endsF, hub, hvb]
          rw [hv]
          clear hub hvb hv ih
          go_enter Tryd.func51, Tryd.ntmps51
          go_wp2_with fail
          go_still_tail 8, (by kernel_rfl)
          go_wp2_with fail
          rw [hor]
          clear hor
          refine (H1.out (d ||| 2 ^ x) o w.drew (or_lt_pow HD.out) (show WaysI B bo bf W N g o w.drew from HI.out)).mono ?_
          rintro e w1 ⟨rfl, hI1, hb1⟩
          have y1 := cell_of_one hI1.1
          have y2 := cell_of_one hI1.2.2.1
          have HI1 := Lib.hid hI1
          clear hI1
          go_wp2_with fail
          go_end0
          exact ⟨rfl, HI1.out, (Below.refl _ _).drew.trans hb1⟩
        · have e2 : bits .and .i64 ((u : Int) / 2 ^ (x + 1)) 1 = 0 := by rw [and_shr_one _ _ (by omega), if_neg hvb]
          have hv : endsF u (n + 1 + 1) x d = endsF u (n + 1) (x + 1) (d ||| 2 ^ x) ++ endsF u n (x + 2) d := by simp [endsF, hub, hvb]
          rw [hv, incAll_append]
          have h2 := fun o' w' (hI' : WaysI B bo bf W N g o' w') => ih n (by omega) (x + 2) d o' w' (by omega) (Nat.lt_of_lt_of_le HD.out (Nat.pow_le_pow_right (by decide) (by omega))) hI'
          rw [show ((x + 2 : Nat) : Int) = (x : Int) + 2 from rfl] at h2
          have H2 := Lib.hid h2
          clear hub hvb hv h2 ih
          go_enter Tryd.func51, Tryd.ntmps51
          go_wp2_with fail
          go_still_tail 8, (by kernel_rfl)
          go_wp2_with fail
          rw [hor]
          clear hor
          refine (H1.out (d ||| 2 ^ x) o w.drew (or_lt_pow HD.out) (show WaysI B bo bf W N g o w.drew from HI.out)).mono ?_
          rintro e w1 ⟨rfl, hI1, hb1⟩
          have y1 := cell_of_one hI1.1
          have y2 := cell_of_one hI1.2.2.1
          have HI1 := Lib.hid hI1
          clear hI1
          go_wp2_with fail
          refine (H2.out _ _ HI1.out).mono ?_
          rintro e w2 ⟨rfl, hI2, hb2⟩
          go_wp2_with fail
          go_end0
          exact ⟨rfl, hI2, ((Below.refl _ _).drew.trans hb1).trans hb2⟩

set_option maxRecDepth 100000 in
set_option maxHeartbeats 800000 in
theorem dominoWays_any (W u : Nat) (hW : W ≤ 4) (hu : u < 2 ^ W) (w : World) :
    Calls Tryd.prog 43 #[.int .i64 W, .int .i64 u] w fun e w' => ∃ ad cap, e = .returned (.slice ad (2 ^ W) cap) ∧
      w'.ownsRow w.heap.size 3 1 (.slice ad (2 ^ W) cap) (2 ^ W) (ints (layRow W u)) ∧ Below w.heap.size w w' := by
  have hrow := ways_lay W (by omega) u hu
  have hu16 : u < 1152921504606846976 := Nat.lt_of_lt_of_le hu (Nat.le_trans (Nat.pow_le_pow_right (by decide) hW) (by decide))
  obtain ⟨N, hN⟩ : ∃ N : Nat, N = 2 ^ W := ⟨_, rfl⟩
  have hpw := pow_wrap (B := W) (by omega)
  rw [← hN] at hpw ⊢
  have hN16 : N ≤ 16 := by rw [hN]; exact Nat.pow_le_pow_right (by decide) hW
  have hfill := fun B bo bf g o w' hI => wfill_any B bo bf W N g u hN hW hu16 W 0 0 o w' (by omega) (by simp) hI
  rw [show ((0 : Nat) : Int) = 0 from rfl] at hfill
  have hw : waysRow W u = incAll (List.replicate N 0) (endsF u W 0 0) := by rw [hN]; rfl
  rw [hrow] at hw
  have HFILL := Lib.hid hfill
  have HW := Lib.hid hw
  have hcf := callFunc_ways
  clear hN hfill hw hrow hu
  go_enter Tryd.func43, Tryd.ntmps43
  go_wp2_with (at_make; refine wpList_make _ rfl _ _ 29 rfl 3 (.int .i64 0) 1 8 Tryd.elemInt (.int .i64 0) ?c0 N (congrArg (Value.int .i64) hpw) (congrArg (Value.int .i64) hpw) ?c1 ?c2 (ints (List.replicate N 0)) ?c3 ?_)
  case c0 =>
    intro i hi
    obtain rfl : i = 0 := by simpa [Value.cells] using hi
    rfl
  case c1 => omega
  case c2 => unfold maxLen; omega
  case c3 => rw [ints_length, List.length_replicate]; omega
  intro w1 hrow hg1 hb1
  rw [zeros_made] at hrow
  have hz : (w.alloc (.cells #[.int .i64 W] 3)).heap.size = w.heap.size + 1 := by simp
  have hblk : w1.heap[w.heap.size]? = some (.cells #[.int .i64 W] 3 (0, 0)) := (hb1.block _ (by omega)).trans (heap_alloc_new w _)
  have hlt := (hrow.lt (w.heap.size + 1) rfl).2
  have hbw : Below w.heap.size w w1 := ((Below.refl _ _).alloc (Nat.le_refl _) _).trans (hb1.mono (by omega))
  have HR := Lib.hid hrow
  have HBW := Lib.hid hbw
  have HBLK := Lib.hid hblk
  clear hrow hb1 hblk hz hg1 hpw hbw
  go_wp2_with fail
  have hI0 : WaysI w.heap.size w1.heap.size (w1.heap.size + 1) W N (w.heap.size + 1) (List.replicate N 0)
      ((w1.alloc (.cells #[.slice (some ⟨w.heap.size + 1, 0, none⟩) N N] 29)).alloc
        (.cells #[.func (.func 51) #[] #[.pointer (some ⟨w.heap.size, 0, none⟩), .pointer (some ⟨w1.heap.size, 0, none⟩), .pointer (some ⟨w1.heap.size + 1, 0, none⟩)]] 67)) := by
    refine ⟨?_, ?_, ?_, ?_, by simp, by omega, by omega, by omega⟩
    · rw [Below.heap_alloc _ _ _ (by simp; omega), Below.heap_alloc _ _ _ (by omega)]
      exact HBLK.out
    · rw [Below.heap_alloc _ _ _ (by simp)]
      exact heap_alloc_new w1 _
    · have := heap_alloc_new (w1.alloc (.cells #[.slice (some ⟨w.heap.size + 1, 0, none⟩) N N] 29)) (.cells #[.func (.func 51) #[] #[.pointer (some ⟨w.heap.size, 0, none⟩), .pointer (some ⟨w1.heap.size, 0, none⟩), .pointer (some ⟨w1.heap.size + 1, 0, none⟩)]] 67)
      simpa using this
    · exact (HR.out.alloc _).alloc _
  have hb2 : Below w.heap.size w _ := (HBW.out.alloc HBW.out.size (.cells #[.slice (some ⟨w.heap.size + 1, 0, none⟩) N N] 29)).alloc (by have := HBW.out.size; simp; omega) (.cells #[.func (.func 51) #[] #[.pointer (some ⟨w.heap.size, 0, none⟩), .pointer (some ⟨w1.heap.size, 0, none⟩), .pointer (some ⟨w1.heap.size + 1, 0, none⟩)]] 67)
  refine (HFILL.out _ _ _ _ _ _ hI0).mono ?_
  rintro e w2 ⟨rfl, hI2, hb3⟩
  rw [← HW.out] at hI2
  obtain ⟨_, y2, _, hrow2, _⟩ := hI2
  have x2 := cell_of_one y2
  have HR2 := Lib.hid hrow2
  have HB := Lib.hid (hb2.trans hb3)
  clear hI0 hb2 hb3 y2 hrow2
  go_wp2_with fail
  go_ret
  exact ⟨_, _, rfl, ownsRow_rebase HR2.out (by omega), HB.out⟩

theorem between14_yes (x : Nat) (w : World) (h1 : 1 ≤ x) (h2 : x ≤ 4) : Calls Tryd.prog 23 #[.int .i64 x, .int .i64 1, .int .i64 4] w fun e w' => e = .returned (.bool true) ∧ w = w' := between_yes _ _ _ _ (by omega) (by omega)

set_option maxRecDepth 100000 in
set_option maxHeartbeats 1600000 in
theorem implTrans (W : Nat) (h1 : 1 ≤ W) (h4 : W ≤ 4) (w : World) :
    Calls Tryd.prog 27 #[.int .i64 W] w fun e w' => ∃ ad' cap', e = .returned (.tuple #[.slice ad' (2 ^ W) cap', .bool true]) ∧ OwnMat w' w.heap.size (.slice ad' (2 ^ W) cap') (transM W) ∧ Below w.heap.size w w' := by
  obtain ⟨N, hN⟩ : ∃ N : Nat, N = 2 ^ W := ⟨_, rfl⟩
  have hpw := pow_wrap (B := W) (by omega)
  have hways := fun u (hu : u < N) w => dominoWays_any W u h4 (by rw [← hN]; exact hu) w
  rw [← hN] at hpw hways ⊢
  have hN16 : N ≤ 16 := by rw [hN]; exact Nat.pow_le_pow_right (by decide) h4
  have HN := Lib.hid hN
  have HWAYS := Lib.hid hways
  have h0 : MatTo w w (transM W) 0 (.slice none 0 0) := ⟨[], World.ownsRow_nil _ _ _ _, RowsIn.nil _ _, Below.refl _ _⟩
  have H0 := Lib.hid h0
  clear hN h0 hways
  go_enter Tryd.func27, Tryd.ntmps27
  go_wp2_with (go_at_call 23; refine (between_yes _ _ _ _ (by omega) (by omega)).mono ?_; rintro e w' ⟨rfl, rfl⟩)
  go_loopw [4, 11] (fun v i wr => ∃ a : Nat, a ≤ N ∧ i = .int .i64 a ∧ MatTo w wr (transM W) a v) (fun _ i _ => N - (intOf i).toNat)
  case atStart => exact ⟨0, by omega, rfl, H0.out⟩
  case round =>
    obtain ⟨a, ha, rfl, hm⟩ := hrel
    obtain ⟨wo, rfl⟩ : ∃ wo : World, wo = wr := ⟨_, rfl⟩
    obtain ⟨vals, hown, hrows, hbo⟩ := hm
    have HOWN := Lib.hid hown
    have HROWS := Lib.hid hrows
    have HBO := Lib.hid hbo
    have hsz := hbo.size
    by_cases hlt : a < N
    · clear hrows hbo hown
      go_wp2_with fail
      refine (HWAYS.out a hlt _).mono ?_
      rintro e w2 ⟨ad, c, rfl, hrow, hb2⟩
      have hfar := ownsRow_far_below HOWN.out hb2 (Nat.le_refl _)
      have HROW := Lib.hid hrow
      have HB2 := Lib.hid hb2
      have hsz2 := hb2.size
      have HFAR := Lib.hid hfar
      clear hrow hfar hb2
      go_wp2_with (at_builtin; refine wpList_app1 rfl (.tmp 14) (.tmp 18) 37 rfl w.heap.size 29 _ 1 24 Tryd.elemInts _ a vals _ _ _ rfl rfl rfl HFAR.out (by rfl) (by simp [Value.oneCell']) (by unfold maxLen; omega) (by omega) (by omega) ?_; intro g' cap w3 q1 q2 q3 q4 q5 q6)
      go_roundw
      case rel =>
        exact ⟨_, _, _, ⟨a + 1, by omega, by go_num, MatTo.next HROWS.out hsz HB2.out HFAR.out HROW.out (by rw [layRow_length, HN.out]) q1 q3 ((HBO.out.trans (HB2.out.mono hsz)).trans q2) (transM_take (by rw [← HN.out]; exact hlt))⟩, rfl, rfl, rfl⟩
      case measure => simp [intOf]; omega
    · obtain rfl : a = N := by omega
      obtain ⟨ad', cap', rfl, _⟩ := ownsRow_cells hown
      clear hrows hbo hown
      go_wp2
      go_ret2
      refine ⟨ad', cap', rfl, ⟨vals, ?_, ?_⟩, HBO.out⟩
      · have e : (transM W).length = a := by rw [transM_length, HN.out]
        rw [e]
        exact HOWN.out
      · have := HROWS.out
        rw [List.take_of_length_le (by rw [transM_length, HN.out]; exact Nat.le_refl _)] at this
        exact this
theorem implTrans_no (x : Int) (h : x < 1 ∨ 4 < x) (w : World) :
    Calls Tryd.prog 27 #[.int .i64 x] w fun e w' => ∃ ad' cap', e = .returned (.tuple #[.slice ad' 0 cap', .bool false]) ∧ Below w.heap.size w w' := by
  have HX := Lib.hid h
  clear h
  go_enter Tryd.func27, Tryd.ntmps27
  go_wp2_with fail
  refine (between_no _ _ _ _ HX.out).mono ?_
  rintro e w' ⟨rfl, rfl⟩
  go_wp2
  go_ret2
  exact ⟨_, _, rfl, Below.refl _ _⟩
end Go.Proofs.YtgplpngphaaefaaDoor
