/- Orient: the walks of OrientationsOf, the reference's and the program's: all motions' results, in order, each once. -/
import Derived.Test.YtcoggnoeafpgbaaPutShape
import Derived.Test.YtcoggnoeafpgbaaL3Put
import Derived.Test.YtcoggnoeafpgbaaTurned
import Derived.Deep.DrawnRows
namespace Go.Proofs.Ytcoggnoeafpgbaa
open Go.RowKit

attribute [local go_sem ↓] Go.wp_at_zero Go.wp_at_succ

theorem orientTo_short {l : List Cl} (h : Shape l) {k : Nat} (hk : k ≤ 8) : ∀ r ∈ orientTo l k, r.length ≤ 1000 := fun r hr => by
  obtain ⟨m, hm, rfl⟩ := mem_orientTo hr
  have := (shape_tcorn h (m := m) (by omega)).2.2
  omega

set_option maxRecDepth 100000 in
set_option maxHeartbeats 3200000 in
theorem specOrient (ad : Option Addr) (c : Nat) (l : List Cl) (w : World) (hn : l.length ≤ 1048576) (hc : CellsAt w ad (cls l)) :
    Calls Try.prog 45 #[.slice ad l.length c] w fun e w' => ∃ ad' c', e = .returned (.slice ad' (orientL l).length c') ∧ ShpsAt w' ad' (orientL l) ∧ Below w.heap.size w w' := by
  have HC := Lib.hid hc
  clear hc
  obtain ⟨w0, hw0⟩ : ∃ w0, w0 = w.alloc (.cells #[] 36) := ⟨_, rfl⟩
  have hb0 : Below w.heap.size w w0 := by rw [hw0]; exact (Below.refl _ _).alloc (Nat.le_refl _) _
  have ho0 : w0.ownsRow w.heap.size 36 1 (.slice (some ⟨w.heap.size, 0, none⟩) 0 0) 0 [] := by rw [hw0]; exact ownsRow_empty _ _ _
  have hsz0 := hb0.size
  have HB0 := Lib.hid hb0
  have HO0 := Lib.hid ho0
  have HW0 := Lib.hid hw0
  clear hb0 ho0 hw0
  by_cases hs : Shape l
  · have hor : orientL l = orientTo l 8 := by unfold orientL; rw [if_pos hs]
    have HOR := Lib.hid hor
    have HSH := Lib.hid (fun w' hc' => (specShape ad c l w' hn hc').mono (fun e w'' (q : _ ∧ _) => (⟨by rw [q.1, decide_eq_true hs], q.2⟩ : e = .returned (.bool true) ∧ Below w'.heap.size w' w'')))
    have HTU := Lib.hid (fun (m : Nat) hm w' hc' => specTurn ad c l m w' hm hs.2.1 hs.2.2 (shape_in hs) hc')
    have HSHRT := Lib.hid (fun (k : Nat) (hk : k ≤ 8) => orientTo_short hs hk)
    have HTL := Lib.hid (fun (m : Nat) (hm : m < 8) => (shape_tcorn hs hm).2.2)
    clear hs hor
    go_enter Try.func45, Try.ntmps45
    go_wp2
    rw [← HW0.out]
    go_loopw [3, 4] (fun s i wr => ∃ k g c' vals, k ≤ 8 ∧ i = .int .i64 (k : Nat) ∧ s = .slice (some ⟨g, 0, none⟩) (orientTo l k).length c' ∧ wr.ownsRow w.heap.size 36 1 (.slice (some ⟨g, 0, none⟩) (orientTo l k).length c') (orientTo l k).length vals ∧ ShapesIn wr w.heap.size vals (orientTo l k) ∧ Below w.heap.size w wr) (fun _ i _ => 8 - (intOf i).toNat)
    case atStart => exact ⟨0, w.heap.size, 0, [], by omega, rfl, rfl, HO0.out, trivial, HB0.out⟩
    case round =>
      obtain ⟨k, g, c', vals, hk, rfl, rfl, hown, hin, hb⟩ := hrel
      have hszr := hb.size
      have hkl := orientTo_length l k
      have HB := Lib.hid hb
      have HW := Lib.hid hown
      have HIN := Lib.hid hin
      clear hb hown hin
      by_cases hlt : k < 8
      · have i1 : (k : Int) < 8 := by omega
        have hst : orientTo l (k + 1) = putG ltS (orientTo l k) (tcorn l k) := rfl
        have HST := Lib.hid hst
        have hshr := HSHRT.out k hk
        have htl := HTL.out k hlt
        clear hst
        generalize orientTo l k = rows at HW HIN HST hshr hkl ⊢
        have HSHR := Lib.hid hshr
        clear hshr
        go_wp2_with fail
        refine (HSH.out wr (HC.out.below HB.out)).mono ?_
        rintro e w1 ⟨rfl, hb1⟩
        have HB1 := Lib.hid (HB.out.trans (hb1.mono hszr))
        have hsz1 := HB1.out.size
        have HW1 := Lib.hid (ownsRow_far_below HW.out hb1 (Nat.le_refl _))
        have HIN1 := Lib.hid (HIN.out.below hb1)
        clear hb1
        go_wp2_with fail
        refine (HTU.out k hlt w1 (HC.out.below HB1.out)).mono ?_
        rintro e w2 ⟨a2, c2, rfl, ho2, hb2⟩
        have HB2 := Lib.hid (HB1.out.trans (hb2.mono hsz1))
        have hsz2 := HB2.out.size
        have hpu := l3Put_any w.heap.size g c' rows vals a2 c2 (tcorn l k) w2 (by omega) HSHR.out (by omega) hsz2 (ownsRow_far_below HW1.out hb2 (Nat.le_refl _)) (HIN1.out.below hb2) (ownsRow_rebase ho2 hsz1)
        rw [← HST.out] at hpu
        have HPU := Lib.hid hpu
        clear ho2 hb2 hpu
        generalize tcorn l k = t at HPU htl ⊢
        generalize hro : orientTo l (k + 1) = rows' at HPU
        have HRO := Lib.hid hro
        clear hro
        go_wp2_with fail
        refine HPU.out.mono ?_
        rintro e w3 ⟨g3, c3, rfl, vals3, ho3, hin3, hb3⟩
        have HO3 := Lib.hid ho3
        have HIN3 := Lib.hid hin3
        have HB3 := Lib.hid (HB2.out.trans (hb3.mono hsz2))
        clear ho3 hin3 hb3
        go_wp2
        go_roundw
        case rel =>
          refine ⟨k + 1, g3, c3, vals3, by omega, by go_num, by rw [HRO.out], ?_, ?_, HB3.out⟩
          · rw [HRO.out]; exact HO3.out
          · rw [HRO.out]; exact HIN3.out
        case measure => simp [intOf]; omega
      · obtain rfl : k = 8 := by omega
        go_wp2
        go_ret
        rw [HOR.out]
        exact ⟨_, c', rfl, ShpsAt.of HW.out HIN.out, HB.out⟩
  · have hor : orientL l = [] := by unfold orientL; rw [if_neg hs]
    have HOR := Lib.hid hor
    have HSH := Lib.hid (fun w' hc' => (specShape ad c l w' hn hc').mono (fun e w'' (q : _ ∧ _) => (⟨by rw [q.1, decide_eq_false hs], q.2⟩ : e = .returned (.bool false) ∧ Below w'.heap.size w' w'')))
    clear hs hor
    go_enter Try.func45, Try.ntmps45
    go_wp2
    rw [← HW0.out]
    go_loopw [3, 4] (fun s i wr => s = .slice (some ⟨w.heap.size, 0, none⟩) 0 0 ∧ i = .int .i64 0 ∧ w0 = wr) (fun _ i _ => 8 - (intOf i).toNat)
    case atStart => exact ⟨rfl, rfl, rfl⟩
    case round =>
      obtain ⟨rfl, rfl, rfl⟩ := hrel
      go_wp2_with fail
      refine (HSH.out w0 (HC.out.below HB0.out)).mono ?_
      rintro e w1 ⟨rfl, hb1⟩
      have HB1 := Lib.hid (HB0.out.trans (hb1.mono hsz0))
      clear hb1
      go_wp2
      go_ret
      rw [HOR.out]
      exact ⟨_, 0, rfl, ⟨[], CellsAt.nil _ _, trivial⟩, HB1.out⟩

set_option maxRecDepth 100000 in
set_option maxHeartbeats 3200000 in
theorem implOrient (ad : Option Addr) (c : Nat) (l : List Cl) (w : World) (hn : l.length ≤ 1048576) (hc : CellsAt w ad (cls l)) :
    Calls Try.prog 50 #[.slice ad l.length c] w fun e w' => ∃ ad' c', e = .returned (.slice ad' (orientL l).length c') ∧ ShpsAt w' ad' (orientL l) ∧ Below w.heap.size w w' := by
  have HC := Lib.hid hc
  clear hc
  by_cases hs : Shape l
  · have hor : orientL l = orientTo l 8 := by unfold orientL; rw [if_pos hs]
    have HOR := Lib.hid hor
    have HSH := Lib.hid (fun w' hc' => (implShape ad c l w' hn hc').mono (fun e w'' (q : _ ∧ _) => (⟨by rw [q.1, decide_eq_true hs], q.2⟩ : e = .returned (.bool true) ∧ Below w'.heap.size w' w'')))
    have HTU := Lib.hid (fun (m : Nat) hm w' hc' => implTurn ad c l m w' hm hs.2.1 hs.2.2 (shape_in hs) hc')
    have HSHRT := Lib.hid (fun (k : Nat) (hk : k ≤ 8) => orientTo_short hs hk)
    clear hs hor
    go_enter Try.func50, Try.ntmps50
    go_wp2_with fail
    refine (HSH.out w HC.out).mono ?_
    rintro e w1 ⟨rfl, hb1⟩
    have HB1 := Lib.hid hb1
    clear hb1
    go_wp2
    go_loopw [3, 8] (fun s i wr => ∃ k ad' c' vals, k ≤ 8 ∧ i = .int .i64 (k : Nat) ∧ s = .slice ad' (orientTo l k).length c' ∧ wr.ownsRow w.heap.size 36 1 (.slice ad' (orientTo l k).length c') (orientTo l k).length vals ∧ ShapesIn wr w.heap.size vals (orientTo l k) ∧ Below w.heap.size w wr) (fun _ i _ => 8 - (intOf i).toNat)
    case atStart => exact ⟨0, none, 0, [], by omega, rfl, rfl, World.ownsRow_nil _ _ _ _, trivial, HB1.out⟩
    case round =>
      obtain ⟨k, a', c', vals, hk, rfl, rfl, hown, hin, hb⟩ := hrel
      have hszr := hb.size
      have hkl := orientTo_length l k
      have HB := Lib.hid hb
      have HW := Lib.hid hown
      have HIN := Lib.hid hin
      clear hb hown hin
      by_cases hlt : k < 8
      · have i1 : (k : Int) < 8 := by omega
        have hst : orientTo l (k + 1) = putG ltS (orientTo l k) (tcorn l k) := rfl
        have HST := Lib.hid hst
        have HASC := Lib.hid (orientTo_asc l k)
        have hshr := HSHRT.out k hk
        clear hst
        generalize orientTo l k = rows at HW HIN HST HASC hshr hkl ⊢
        have HSHR := Lib.hid hshr
        clear hshr
        go_wp2_with fail
        refine (HTU.out k hlt wr (HC.out.below HB.out)).mono ?_
        rintro e w2 ⟨a2, c2, rfl, ho2, hb2⟩
        have HB2 := Lib.hid (HB.out.trans (hb2.mono hszr))
        have hsz2 := HB2.out.size
        have how2 := ownsRow_far_below HW.out hb2 (Nat.le_refl _)
        have HLT2 := Lib.hid (fun q hq => (how2.lt q hq).1)
        have hpu := putShape_any w.heap.size a' c' rows vals a2 c2 (tcorn l k) w2 (by omega) HSHR.out HASC.out hsz2 how2 (HIN.out.below hb2) (ownsRow_rebase ho2 hszr)
        rw [← HST.out] at hpu
        have HPU := Lib.hid hpu
        clear ho2 hb2 hpu how2
        generalize tcorn l k = t at HPU ⊢
        generalize hro : orientTo l (k + 1) = rows' at HPU
        have HRO := Lib.hid hro
        clear hro
        go_wp2_with fail
        refine HPU.out.mono ?_
        rintro e w3 ⟨a3, c3, rfl, vals3, ho3, hin3, hg3⟩
        have HO3 := Lib.hid ho3
        have HIN3 := Lib.hid hin3
        have HB3 := Lib.hid (HB2.out.grown hg3 hsz2 HLT2.out)
        clear ho3 hin3 hg3
        go_wp2
        go_roundw
        case rel =>
          refine ⟨k + 1, a3, c3, vals3, by omega, by go_num, by rw [HRO.out], ?_, ?_, HB3.out⟩
          · rw [HRO.out]; exact HO3.out
          · rw [HRO.out]; exact HIN3.out
        case measure => simp [intOf]; omega
      · obtain rfl : k = 8 := by omega
        go_wp2
        go_ret
        rw [HOR.out]
        exact ⟨a', c', rfl, ShpsAt.of HW.out HIN.out, HB.out⟩
  · have hor : orientL l = [] := by unfold orientL; rw [if_neg hs]
    have HOR := Lib.hid hor
    have HSH := Lib.hid (fun w' hc' => (implShape ad c l w' hn hc').mono (fun e w'' (q : _ ∧ _) => (⟨by rw [q.1, decide_eq_false hs], q.2⟩ : e = .returned (.bool false) ∧ Below w'.heap.size w' w'')))
    clear hs hor
    go_enter Try.func50, Try.ntmps50
    go_wp2_with fail
    refine (HSH.out w HC.out).mono ?_
    rintro e w1 ⟨rfl, hb1⟩
    have HB1 := Lib.hid hb1
    clear hb1
    go_wp2
    go_ret
    rw [HOR.out]
    exact ⟨none, 0, rfl, ⟨[], CellsAt.nil _ _, trivial⟩, HB1.out⟩
end Go.Proofs.Ytcoggnoeafpgbaa
