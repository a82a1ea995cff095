/- Verd: the walks of WangVerdict, the reference's and the program's. -/
import Derived.Test.YtdnklmdmafbogaaDoorFindP3
import Derived.Test.YtdnklmdmafbogaaDoorLargest
import Derived.Test.YtdnklmdmafbogaaDoorText1
namespace Go.Proofs.YtdnklmdmafbogaaDoor
open Go.RowKit

theorem PerRes.small {ts : List Tile} {x : List Nat} {a h : Int} {b : Bool} (q : PerRes ts x a h b) : ∃ A H : Nat, a = (A : Int) ∧ h = (H : Int) ∧ A < 10 ∧ H < 10 := by
  rcases q with ⟨i, h1, _, h3, _, _, rfl, rfl, _⟩ | ⟨_, _, rfl, rfl, _⟩
  · refine ⟨_, _, rfl, rfl, by omega, ?_⟩
    have := Nat.div_le_self (i / 3 + 1) (i % 3 + 1)
    omega
  · exact ⟨0, 0, rfl, rfl, by decide, by decide⟩
def perS (a h : Nat) : ByteArray := (((⟨#[112, 101, 114, 105, 111, 100, 105, 99, 32]⟩ : ByteArray) ++ numB a) ++ ⟨#[32, 98, 121, 32]⟩) ++ numB h
def notS (n : Nat) : ByteArray := (⟨#[110, 111, 116, 32, 98, 101, 121, 111, 110, 100, 32]⟩ : ByteArray) ++ numB n
def verS (ts : List Tile) (a h : Nat) (b : Bool) : ByteArray := if Wangs ts then (if b = true then perS a h else if bestTo ts 4 < 4 then notS (bestTo ts 4) else ⟨#[111, 112, 101, 110]⟩) else ⟨#[]⟩
theorem implNumB (n : Nat) (h : n < 10) (w : World) :
    Calls Tryd.prog 52 #[.int .i64 n] w fun e w' => e = .returned (.string (numB n)) ∧ Below w.heap.size w w' :=
  (implNum n h w).mono fun e w' q => ⟨q.1, by rw [q.2]; exact Below.refl _ _⟩

set_option maxRecDepth 100000 in
set_option maxHeartbeats 1600000 in
theorem specVerd (ad : Option Addr) (c : Nat) (ts : List Tile) (x : List Nat) (A H : Nat) (b : Bool) (w : World) (hn : ts.length ≤ 1048576) (hP : PerRes ts x (A : Int) (H : Int) b) (hA : A < 10) (hH : H < 10) (hc : CellsAt w ad (wangs ts)) :
    Calls Tryd.prog 17 #[.slice ad ts.length c] w fun e w' => e = .returned (.string (verS ts A H b)) ∧ Below w.heap.size w w' := by
  have hare := specAre ad c ts w hn hc
  by_cases hw : Wangs ts
  · rw [decide_eq_true hw] at hare
    have HARE := Lib.hid hare
    have HP := Lib.hid hP
    have HC := Lib.hid hc
    have HPER := Lib.hid (fun w' h => specPer ad c ts w' hn h)
    have HLAR := Lib.hid (fun w' h => specLargest ad c ts w' hn h)
    have HN := Lib.hid (fun (n : Nat) (hn : n < 10) (w' : World) => specNum n hn w')
    have hb4 := bestTo_le ts 4
    have zA := numB_sz hA
    have zH := numB_sz hH
    have hv : verS ts A H b = if b = true then perS A H else if bestTo ts 4 < 4 then notS (bestTo ts 4) else ⟨#[111, 112, 101, 110]⟩ := if_pos hw
    clear hare hc hP hw
    generalize bestTo ts 4 = N at HLAR hb4 hv
    generalize hR : verS ts A H b = R at hv
    have HV := Lib.hid hv
    clear hv hR
    have hN10 : N < 10 := by omega
    have zN := numB_sz hN10
    go_enter Tryd.func17, Tryd.ntmps17
    go_wp2_with fail
    refine HARE.out.mono ?_
    rintro e w1 ⟨rfl, hw1⟩
    have HB1 := Lib.hid (show Below w.heap.size w w1 from by rw [← hw1]; exact Below.refl _ _)
    have hs1 := HB1.out.size
    clear hw1
    go_wp2_with fail
    refine (HPER.out w1 (HC.out.below HB1.out)).mono ?_
    rintro e w2 ⟨a2, c2, y, a', h', b', rfl, hQ, _, hb2⟩
    obtain ⟨rfl, rfl, rfl, rfl⟩ := hQ.same HP.out
    have HB2 := Lib.hid (HB1.out.trans (hb2.mono hs1))
    have hs2 := HB2.out.size
    clear hQ hb2
    cases b' with
    | true =>
      have hv := HV.out
      rw [if_pos rfl] at hv
      have HR := Lib.hid hv
      clear hv
      go_wp2_with fail
      refine (HN.out _ hA _).mono ?_
      rintro e w3 ⟨rfl, hb3⟩
      have HB3 := Lib.hid (HB2.out.trans (hb3.mono hs2))
      have hs3 := HB3.out.size
      clear hb3
      go_wp2_with fail
      refine (HN.out _ hH _).mono ?_
      rintro e w4 ⟨rfl, hb4'⟩
      have HB4 := Lib.hid (HB3.out.trans (hb4'.mono hs3))
      clear hb4'
      go_wp2
      go_ret
      rw [HR.out]
      exact ⟨rfl, HB4.out⟩
    | false =>
      have hv := HV.out
      rw [if_neg (by decide)] at hv
      go_wp2_with fail
      refine (HLAR.out w2 (HC.out.below HB2.out)).mono ?_
      rintro e w3 ⟨rfl, hb3⟩
      have HB3 := Lib.hid (HB2.out.trans (hb3.mono hs2))
      have hs3 := HB3.out.size
      clear hb3
      by_cases h4 : N < 4
      · rw [if_pos h4] at hv
        have HR := Lib.hid hv
        clear hv
        have g1 : decide ((N : Int) < 4) = true := decide_eq_true (by omega)
        have g2 : decide (N < 4) = true := decide_eq_true h4
        go_wp2_with fail
        refine (HN.out _ hN10 _).mono ?_
        rintro e w4 ⟨rfl, hb4'⟩
        have HB4 := Lib.hid (HB3.out.trans (hb4'.mono hs3))
        clear hb4'
        go_wp2
        go_ret
        rw [HR.out]
        exact ⟨rfl, HB4.out⟩
      · rw [if_neg h4] at hv
        have HR := Lib.hid hv
        clear hv
        have g1 : decide ((N : Int) < 4) = false := decide_eq_false (by omega)
        have g2 : decide (N < 4) = false := decide_eq_false h4
        go_wp2
        go_ret
        rw [HR.out]
        exact ⟨rfl, HB3.out⟩
  · rw [decide_eq_false hw] at hare
    have HARE := Lib.hid hare
    rw [show verS ts A H b = ⟨#[]⟩ from if_neg hw]
    clear hare hw hP hc hA hH
    go_enter Tryd.func17, Tryd.ntmps17
    go_wp2_with fail
    refine HARE.out.mono ?_
    rintro e w1 ⟨rfl, hw1⟩
    have HB1 := Lib.hid (show Below w.heap.size w w1 from by rw [← hw1]; exact Below.refl _ _)
    go_wp2
    go_ret
    exact ⟨rfl, HB1.out⟩

set_option maxRecDepth 100000 in
set_option maxHeartbeats 1600000 in
theorem implVerd (ad : Option Addr) (c : Nat) (ts : List Tile) (x : List Nat) (A H : Nat) (b : Bool) (w : World) (hn : ts.length ≤ 1048576) (hP : PerRes ts x (A : Int) (H : Int) b) (hA : A < 10) (hH : H < 10) (hc : CellsAt w ad (wangs ts)) :
    Calls Tryd.prog 18 #[.slice ad ts.length c] w fun e w' => e = .returned (.string (verS ts A H b)) ∧ Below w.heap.size w w' := by
  have hare := implAre ad c ts w hn hc
  by_cases hw : Wangs ts
  · rw [decide_eq_true hw] at hare
    have HARE := Lib.hid hare
    have HP := Lib.hid hP
    have HC := Lib.hid hc
    have HPER := Lib.hid (fun w' h => implPer ad c ts w' hn h)
    have HLAR := Lib.hid (fun w' h => implLargest ad c ts w' hn h)
    have HN := Lib.hid (fun (n : Nat) (hn : n < 10) (w' : World) => implNumB n hn w')
    have hb4 := bestTo_le ts 4
    have zA := numB_sz hA
    have zH := numB_sz hH
    have hv : verS ts A H b = if b = true then perS A H else if bestTo ts 4 < 4 then notS (bestTo ts 4) else ⟨#[111, 112, 101, 110]⟩ := if_pos hw
    clear hare hc hP hw
    generalize bestTo ts 4 = N at HLAR hb4 hv
    generalize hR : verS ts A H b = R at hv
    have HV := Lib.hid hv
    clear hv hR
    have hN10 : N < 10 := by omega
    have zN := numB_sz hN10
    go_enter Tryd.func18, Tryd.ntmps18
    go_wp2_with fail
    refine HARE.out.mono ?_
    rintro e w1 ⟨rfl, hb1⟩
    have HB1 := Lib.hid (show Below w.heap.size w w1 from hb1)
    have hs1 := HB1.out.size
    clear hb1
    go_wp2_with fail
    refine (HPER.out w1 (HC.out.below HB1.out)).mono ?_
    rintro e w2 ⟨a2, c2, y, a', h', b', rfl, hQ, _, hb2⟩
    obtain ⟨rfl, rfl, rfl, rfl⟩ := hQ.same HP.out
    have HB2 := Lib.hid (HB1.out.trans (hb2.mono hs1))
    have hs2 := HB2.out.size
    clear hQ hb2
    cases b' with
    | true =>
      have hv := HV.out
      rw [if_pos rfl] at hv
      have HR := Lib.hid hv
      clear hv
      go_wp2_with fail
      refine (HN.out _ hA _).mono ?_
      rintro e w3 ⟨rfl, hb3⟩
      have HB3 := Lib.hid (HB2.out.trans (hb3.mono hs2))
      have hs3 := HB3.out.size
      clear hb3
      go_wp2_with fail
      refine (HN.out _ hH _).mono ?_
      rintro e w4 ⟨rfl, hb4'⟩
      have HB4 := Lib.hid (HB3.out.trans (hb4'.mono hs3))
      clear hb4'
      go_wp2
      go_ret
      rw [HR.out]
      exact ⟨rfl, HB4.out⟩
    | false =>
      have hv := HV.out
      rw [if_neg (by decide)] at hv
      go_wp2_with fail
      refine (HLAR.out w2 (HC.out.below HB2.out)).mono ?_
      rintro e w3 ⟨rfl, hb3⟩
      have HB3 := Lib.hid (HB2.out.trans (hb3.mono hs2))
      have hs3 := HB3.out.size
      clear hb3
      by_cases h4 : N < 4
      · rw [if_pos h4] at hv
        have HR := Lib.hid hv
        clear hv
        have g1 : decide ((N : Int) < 4) = true := decide_eq_true (by omega)
        have g2 : decide (N < 4) = true := decide_eq_true h4
        go_wp2_with fail
        refine (HN.out _ hN10 _).mono ?_
        rintro e w4 ⟨rfl, hb4'⟩
        have HB4 := Lib.hid (HB3.out.trans (hb4'.mono hs3))
        clear hb4'
        go_wp2
        go_ret
        rw [HR.out]
        exact ⟨rfl, HB4.out⟩
      · rw [if_neg h4] at hv
        have HR := Lib.hid hv
        clear hv
        have g1 : decide ((N : Int) < 4) = false := decide_eq_false (by omega)
        have g2 : decide (N < 4) = false := decide_eq_false h4
        go_wp2
        go_ret
        rw [HR.out]
        exact ⟨rfl, HB3.out⟩
  · rw [decide_eq_false hw] at hare
    have HARE := Lib.hid hare
    rw [show verS ts A H b = ⟨#[]⟩ from if_neg hw]
    clear hare hw hP hc hA hH
    go_enter Tryd.func18, Tryd.ntmps18
    go_wp2_with fail
    refine HARE.out.mono ?_
    rintro e w1 ⟨rfl, hb1⟩
    have HB1 := Lib.hid (show Below w.heap.size w w1 from hb1)
    go_wp2
    go_ret
    exact ⟨rfl, HB1.out⟩
end Go.Proofs.YtdnklmdmafbogaaDoor
