/- Cong: the walks of CanonicalShape and IsCongruent, the reference's and the program's. -/
import Derived.Test.YtcoggnoeafpgbaaOrient
import Derived.Test.YtcoggnoeafpgbaaAllPl
namespace Go.Proofs.Ytcoggnoeafpgbaa
open Go.RowKit

/-- The first orientation. -/
def canonL (l : List Cl) : List Cl := match orientL l with
  | [] => []
  | x :: _ => x
def Cong (a b : List Cl) : Prop := Shape a ∧ Shape b ∧ canonL a = canonL b
instance (a b : List Cl) : Decidable (Cong a b) := by unfold Cong; infer_instance
theorem canonL_le {l : List Cl} (h : Shape l) : (canonL l).length ≤ 8 := by
  unfold canonL
  cases hO : orientL l with
  | nil => exact Nat.zero_le _
  | cons x rs =>
    have := orientL_len (l := l) (x := x) (by rw [hO]; exact List.mem_cons_self)
    show x.length ≤ 8
    have := h.2.2
    omega

set_option maxRecDepth 100000 in
set_option maxHeartbeats 1600000 in
theorem specCanon (ad : Option Addr) (c : Nat) (l : List Cl) (w : World) (hn : l.length ≤ 1048576) (hc : CellsAt w ad (cls l)) :
    Calls Try.prog 34 #[.slice ad l.length c] w fun e w' => ∃ ad' c', e = .returned (.slice ad' (canonL l).length c') ∧ CellsAt w' ad' (cls (canonL l)) ∧ Below w.heap.size w w' := by
  have HO := Lib.hid (specOrient ad c l w hn hc)
  clear hc
  cases hO : orientL l with
  | nil =>
    rw [show canonL l = [] from by unfold canonL; rw [hO]]
    rw [hO, List.length_nil] at HO
    clear hO
    go_enter Try.func34, Try.ntmps34
    go_wp2_with fail
    refine HO.out.mono ?_
    rintro e w1 ⟨a1, c1, rfl, _, hb1⟩
    have HB1 := Lib.hid hb1
    have HBE := Lib.hid (HB1.out.trans (((Below.refl w1.heap.size w1).alloc (Nat.le_refl _) (.cells #[] 39)).mono HB1.out.size))
    clear hb1
    go_wp2
    go_ret
    exact ⟨_, _, rfl, CellsAt.nil _ _, HBE.out⟩
  | cons x rs =>
    rw [show canonL l = x from by unfold canonL; rw [hO]]
    rw [hO] at HO
    clear hO
    go_enter Try.func34, Try.ntmps34
    go_wp2_with fail
    refine HO.out.mono ?_
    rintro e w1 ⟨a1, c1, rfl, hs, hb1⟩
    have HB1 := Lib.hid hb1
    obtain ⟨g, off, ai, ci, rfl, hg, x0, hx⟩ := hs.row (i := 0) (by simp)
    have HX := Lib.hid hx
    have x0' : w1.cell? ⟨g, off, none⟩ = some (.slice ai x.length ci) := x0
    have hlen : (0 : Int) < ((x :: rs).length : Int) := by rw [List.length_cons]; omega
    have hne : (((x :: rs).length : Int) == 0) = false := beq_false_of_ne (by rw [List.length_cons]; omega)
    have hx' : CellsAt w1 ai (cls x) := hx
    have HX' := Lib.hid hx'
    clear hs hb1 hx hx' x0 HX
    generalize (x :: rs).length = n at hlen hne ⊢
    go_wp2
    go_ret
    exact ⟨ai, ci, rfl, HX'.out, HB1.out⟩

set_option maxRecDepth 100000 in
set_option maxHeartbeats 1600000 in
theorem specCong (a1 a2 : Option Addr) (c1 c2 : Nat) (xs ys : List Cl) (w : World) (hn1 : xs.length ≤ 1048576) (hn2 : ys.length ≤ 1048576) (hc1 : CellsAt w a1 (cls xs)) (hc2 : CellsAt w a2 (cls ys)) :
    Calls Try.prog 18 #[.slice a1 xs.length c1, .slice a2 ys.length c2] w fun e w' => e = .returned (.bool (decide (Cong xs ys))) ∧ Below w.heap.size w w' := by
  have hs1 := fun w' h => specShape a1 c1 xs w' hn1 h
  have hs2 := fun w' h => specShape a2 c2 ys w' hn2 h
  have HK1 := Lib.hid (fun w' h => specCanon a1 c1 xs w' hn1 h)
  have HK2 := Lib.hid (fun w' h => specCanon a2 c2 ys w' hn2 h)
  have H1 := Lib.hid hc1
  have H2 := Lib.hid hc2
  clear hc1 hc2
  by_cases h1 : Shape xs
  · rw [decide_eq_true h1] at hs1
    have HS1 := Lib.hid hs1
    clear hs1
    by_cases h2 : Shape ys
    · rw [decide_eq_true h2] at hs2
      have HS2 := Lib.hid hs2
      have hd : decide (Cong xs ys) = decide (canonL xs = canonL ys) := decide_eq_decide.2 ⟨fun q => q.2.2, fun q => ⟨h1, h2, q⟩⟩
      rw [hd]
      have hl := canonL_le h1
      clear hs2 hd h1 h2
      generalize canonL xs = X at HK1 hl ⊢
      generalize canonL ys = Y at HK2 ⊢
      generalize hb : decide (X = Y) = b
      have HEQ := Lib.hid (fun a1 a2 c1 c2 w' h1 h2 => specEqS a1 a2 c1 c2 X Y w' (by omega) h1 h2)
      rw [hb] at HEQ
      clear hb
      go_enter Try.func18, Try.ntmps18
      go_wp2_with fail
      refine (HS1.out w H1.out).mono ?_
      rintro e w1 ⟨rfl, hb1⟩
      have HB1 := Lib.hid hb1
      have hz1 := hb1.size
      clear hb1
      go_wp2_with fail
      refine (HS2.out w1 (H2.out.below HB1.out)).mono ?_
      rintro e w2 ⟨rfl, hb2⟩
      have HB2 := Lib.hid (HB1.out.trans (hb2.mono hz1))
      have hz2 := HB2.out.size
      clear hb2
      go_wp2_with fail
      refine (HK1.out w2 (H1.out.below HB2.out)).mono ?_
      rintro e w3 ⟨a3, c3, rfl, hx3, hb3⟩
      have HB3 := Lib.hid (HB2.out.trans (hb3.mono hz2))
      have hz3 := HB3.out.size
      have HX3 := Lib.hid hx3
      clear hb3 hx3
      go_wp2_with fail
      refine (HK2.out w3 (H2.out.below HB3.out)).mono ?_
      rintro e w4 ⟨a4, c4, rfl, hx4, hb4⟩
      have HB4 := Lib.hid (HB3.out.trans (hb4.mono hz3))
      have hz4 := HB4.out.size
      have HX4 := Lib.hid hx4
      have HX34 := Lib.hid (HX3.out.below hb4)
      clear hb4 hx4
      go_wp2_with fail
      refine (HEQ.out a3 a4 c3 c4 w4 HX34.out HX4.out).mono ?_
      rintro e w5 ⟨rfl, hb5⟩
      have HB5 := Lib.hid (HB4.out.trans (hb5.mono hz4))
      clear hb5
      go_wp2
      go_ret
      exact ⟨rfl, HB5.out⟩
    · rw [decide_eq_false h2] at hs2
      have HS2 := Lib.hid hs2
      rw [show decide (Cong xs ys) = false from decide_eq_false (fun q => h2 q.2.1)]
      clear hs2 h1 h2
      go_enter Try.func18, Try.ntmps18
      go_wp2_with fail
      refine (HS1.out w H1.out).mono ?_
      rintro e w1 ⟨rfl, hb1⟩
      have HB1 := Lib.hid hb1
      have hz1 := hb1.size
      clear hb1
      go_wp2_with fail
      refine (HS2.out w1 (H2.out.below HB1.out)).mono ?_
      rintro e w2 ⟨rfl, hb2⟩
      have HB2 := Lib.hid (HB1.out.trans (hb2.mono hz1))
      clear hb2
      go_wp2
      go_ret
      exact ⟨rfl, HB2.out⟩
  · rw [decide_eq_false h1] at hs1
    have HS1 := Lib.hid hs1
    rw [show decide (Cong xs ys) = false from decide_eq_false (fun q => h1 q.1)]
    clear hs1 h1
    go_enter Try.func18, Try.ntmps18
    go_wp2_with fail
    refine (HS1.out w H1.out).mono ?_
    rintro e w1 ⟨rfl, hb1⟩
    have HB1 := Lib.hid hb1
    clear hb1
    go_wp2
    go_ret
    exact ⟨rfl, HB1.out⟩

set_option maxRecDepth 100000 in
set_option maxHeartbeats 1600000 in
theorem implCanon (ad : Option Addr) (c : Nat) (l : List Cl) (w : World) (hn : l.length ≤ 1048576) (hc : CellsAt w ad (cls l)) :
    Calls Try.prog 42 #[.slice ad l.length c] w fun e w' => ∃ ad' c', e = .returned (.slice ad' (canonL l).length c') ∧ CellsAt w' ad' (cls (canonL l)) ∧ Below w.heap.size w w' := by
  have HO := Lib.hid (implOrient ad c l w hn hc)
  clear hc
  cases hO : orientL l with
  | nil =>
    rw [show canonL l = [] from by unfold canonL; rw [hO]]
    rw [hO, List.length_nil] at HO
    clear hO
    go_enter Try.func42, Try.ntmps42
    go_wp2_with fail
    refine HO.out.mono ?_
    rintro e w1 ⟨a1, c1, rfl, _, hb1⟩
    have HB1 := Lib.hid hb1
    clear hb1
    go_wp2
    go_ret
    exact ⟨none, 0, rfl, CellsAt.nil _ _, HB1.out⟩
  | cons x rs =>
    rw [show canonL l = x from by unfold canonL; rw [hO]]
    rw [hO] at HO
    clear hO
    go_enter Try.func42, Try.ntmps42
    go_wp2_with fail
    refine HO.out.mono ?_
    rintro e w1 ⟨a1, c1, rfl, hs, hb1⟩
    have HB1 := Lib.hid hb1
    obtain ⟨g, off, ai, ci, rfl, hg, x0, hx⟩ := hs.row (i := 0) (by simp)
    have HX := Lib.hid hx
    have x0' : w1.cell? ⟨g, off, none⟩ = some (.slice ai x.length ci) := x0
    have hlen : (0 : Int) < ((x :: rs).length : Int) := by rw [List.length_cons]; omega
    have hne : (((x :: rs).length : Int) == 0) = false := beq_false_of_ne (by rw [List.length_cons]; omega)
    have hx' : CellsAt w1 ai (cls x) := hx
    have HX' := Lib.hid hx'
    clear hs hb1 hx hx' x0 HX
    generalize (x :: rs).length = n at hlen hne ⊢
    go_wp2
    go_ret
    exact ⟨ai, ci, rfl, HX'.out, HB1.out⟩

set_option maxRecDepth 100000 in
set_option maxHeartbeats 1600000 in
theorem implCong (a1 a2 : Option Addr) (c1 c2 : Nat) (xs ys : List Cl) (w : World) (hn1 : xs.length ≤ 1048576) (hn2 : ys.length ≤ 1048576) (hc1 : CellsAt w a1 (cls xs)) (hc2 : CellsAt w a2 (cls ys)) :
    Calls Try.prog 27 #[.slice a1 xs.length c1, .slice a2 ys.length c2] w fun e w' => e = .returned (.bool (decide (Cong xs ys))) ∧ Below w.heap.size w w' := by
  have hs1 := fun w' h => implShape a1 c1 xs w' hn1 h
  have hs2 := fun w' h => implShape a2 c2 ys w' hn2 h
  have HK1 := Lib.hid (fun w' h => implCanon a1 c1 xs w' hn1 h)
  have HK2 := Lib.hid (fun w' h => implCanon a2 c2 ys w' hn2 h)
  have H1 := Lib.hid hc1
  have H2 := Lib.hid hc2
  clear hc1 hc2
  by_cases h1 : Shape xs
  · rw [decide_eq_true h1] at hs1
    have HS1 := Lib.hid hs1
    clear hs1
    by_cases h2 : Shape ys
    · rw [decide_eq_true h2] at hs2
      have HS2 := Lib.hid hs2
      have hd : decide (Cong xs ys) = decide (canonL xs = canonL ys) := decide_eq_decide.2 ⟨fun q => q.2.2, fun q => ⟨h1, h2, q⟩⟩
      rw [hd]
      have hl := canonL_le h1
      clear hs2 hd h1 h2
      generalize canonL xs = X at HK1 hl ⊢
      generalize canonL ys = Y at HK2 ⊢
      generalize hb : decide (X = Y) = b
      have HEQ := Lib.hid (fun a1 a2 c1 c2 w' h1 h2 => implEqS a1 a2 c1 c2 X Y w' (by omega) h1 h2)
      rw [hb] at HEQ
      clear hb
      go_enter Try.func27, Try.ntmps27
      go_wp2_with fail
      refine (HS1.out w H1.out).mono ?_
      rintro e w1 ⟨rfl, hb1⟩
      have HB1 := Lib.hid hb1
      have hz1 := hb1.size
      clear hb1
      go_wp2_with fail
      refine (HS2.out w1 (H2.out.below HB1.out)).mono ?_
      rintro e w2 ⟨rfl, hb2⟩
      have HB2 := Lib.hid (HB1.out.trans (hb2.mono hz1))
      have hz2 := HB2.out.size
      clear hb2
      go_wp2_with fail
      refine (HK1.out w2 (H1.out.below HB2.out)).mono ?_
      rintro e w3 ⟨a3, c3, rfl, hx3, hb3⟩
      have HB3 := Lib.hid (HB2.out.trans (hb3.mono hz2))
      have hz3 := HB3.out.size
      have HX3 := Lib.hid hx3
      clear hb3 hx3
      go_wp2_with fail
      refine (HK2.out w3 (H2.out.below HB3.out)).mono ?_
      rintro e w4 ⟨a4, c4, rfl, hx4, hb4⟩
      have HB4 := Lib.hid (HB3.out.trans (hb4.mono hz3))
      have hz4 := HB4.out.size
      have HX4 := Lib.hid hx4
      have HX34 := Lib.hid (HX3.out.below hb4)
      clear hb4 hx4
      go_wp2_with fail
      refine (HEQ.out a3 a4 c3 c4 w4 HX34.out HX4.out).mono ?_
      rintro e w5 ⟨rfl, hb5⟩
      have HB5 := Lib.hid (HB4.out.trans (hb5.mono hz4))
      clear hb5
      go_wp2
      go_ret
      exact ⟨rfl, HB5.out⟩
    · rw [decide_eq_false h2] at hs2
      have HS2 := Lib.hid hs2
      rw [show decide (Cong xs ys) = false from decide_eq_false (fun q => h2 q.2.1)]
      clear hs2 h1 h2
      go_enter Try.func27, Try.ntmps27
      go_wp2_with fail
      refine (HS1.out w H1.out).mono ?_
      rintro e w1 ⟨rfl, hb1⟩
      have HB1 := Lib.hid hb1
      have hz1 := hb1.size
      clear hb1
      go_wp2_with fail
      refine (HS2.out w1 (H2.out.below HB1.out)).mono ?_
      rintro e w2 ⟨rfl, hb2⟩
      have HB2 := Lib.hid (HB1.out.trans (hb2.mono hz1))
      clear hb2
      go_wp2
      go_ret
      exact ⟨rfl, HB2.out⟩
  · rw [decide_eq_false h1] at hs1
    have HS1 := Lib.hid hs1
    rw [show decide (Cong xs ys) = false from decide_eq_false (fun q => h1 q.1)]
    clear hs1 h1
    go_enter Try.func27, Try.ntmps27
    go_wp2_with fail
    refine (HS1.out w H1.out).mono ?_
    rintro e w1 ⟨rfl, hb1⟩
    have HB1 := Lib.hid hb1
    clear hb1
    go_wp2
    go_ret
    exact ⟨rfl, HB1.out⟩
end Go.Proofs.Ytcoggnoeafpgbaa
