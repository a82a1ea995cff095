/- Fills: the walks of the reference's l11Fill and TransferMatrix. -/
import Derived.Test.YtgplpngphaaefaaDoorMulM
import Derived.Test.YtgplpngphaaefaaDoorAllBase
import Derived.Test.YtgplpngphaaefaaDoorAllReg
namespace Go.Proofs.YtgplpngphaaefaaDoor
open Go.RowKit

set_option maxHeartbeats 1600000 in
theorem l11Fill_any (W f o : Nat) (hW : W ≤ 60) (hf : f < 1152921504606846976) (ho : o < 1152921504606846976) : ∀ (n x : Nat) (w : World), x + n = W →
    Calls Tryd.prog 44 #[.int .i64 W, .int .i64 x, .int .i64 f, .int .i64 o] w fun e w' => e = .returned (.int .i64 (l11F f o n x : Nat)) ∧ w = w' := by
  intro n
  induction n using Nat.strongRecOn with
  | ind n ih =>
  intro x w hx
  match n, ih, hx with
  | 0, _, hx =>
    obtain rfl : x = W := by omega
    go_enter Tryd.func44, Tryd.ntmps44
    go_wp2_with fail
    go_ret
    exact ⟨rfl, rfl⟩
  | n + 1, ih, hx =>
    have hne : ((x : Int) == (W : Int)) = false := by simp; omega
    have h1 := ih n (by omega) (x + 1)
    rw [show ((x + 1 : Nat) : Int) = (x : Int) + 1 from rfl] at h1
    have H1 := Lib.hid (fun w => h1 w (by omega))
    clear h1
    by_cases hfb : f.testBit x = true
    · have e1 : bits .and .i64 ((f : Int) / 2 ^ x) 1 = 1 := by rw [and_shr_one _ _ (by omega), if_pos hfb]
      by_cases hob : o.testBit x = true
      · have e2 : bits .and .i64 ((o : Int) / 2 ^ x) 1 = 1 := by rw [and_shr_one _ _ (by omega), if_pos hob]
        have hv : l11F f o (n + 1) x = 0 := by cases n <;> simp [l11F, hfb, hob]
        rw [hv]
        clear ih hfb hob hv
        go_enter Tryd.func44, Tryd.ntmps44
        go_wp2_with fail
        go_ret
        exact ⟨rfl, rfl⟩
      · have e2 : bits .and .i64 ((o : Int) / 2 ^ x) 1 = 0 := by rw [and_shr_one _ _ (by omega), if_neg hob]
        have hv : l11F f o (n + 1) x = l11F f o n (x + 1) := by cases n <;> simp [l11F, hfb, hob]
        rw [hv]
        clear ih hfb hob hv
        go_enter Tryd.func44, Tryd.ntmps44
        go_wp2_with fail
        refine (H1.out _).mono ?_
        rintro e w' ⟨rfl, rfl⟩
        go_wp2_with fail
        go_ret
        exact ⟨rfl, rfl⟩
    · have e1 : bits .and .i64 ((f : Int) / 2 ^ x) 1 = 0 := by rw [and_shr_one _ _ (by omega), if_neg hfb]
      by_cases hob : o.testBit x = true
      · have e2 : bits .and .i64 ((o : Int) / 2 ^ x) 1 = 1 := by rw [and_shr_one _ _ (by omega), if_pos hob]
        have hv : l11F f o (n + 1) x = l11F f o n (x + 1) := by cases n <;> simp [l11F, hfb, hob]
        rw [hv]
        clear ih hfb hob hv
        go_enter Tryd.func44, Tryd.ntmps44
        go_wp2_with fail
        refine (H1.out _).mono ?_
        rintro e w' ⟨rfl, rfl⟩
        go_wp2_with fail
        go_ret
        exact ⟨rfl, rfl⟩
      · have e2 : bits .and .i64 ((o : Int) / 2 ^ x) 1 = 0 := by rw [and_shr_one _ _ (by omega), if_neg hob]
        match n, ih, hx with
        | 0, _, hx =>
          have hv : l11F f o (0 + 1) x = 0 := by simp [l11F, hfb, hob]
          have hd : decide ((x : Int) + 1 < (W : Int)) = false := by simp; omega
          rw [hv]
          clear hfb hob hv
          go_enter Tryd.func44, Tryd.ntmps44
          go_wp2_with fail
          go_ret
          exact ⟨rfl, rfl⟩
        | n + 1, ih, hx =>
          have h2 := ih n (by omega) (x + 2)
          rw [show ((x + 2 : Nat) : Int) = (x : Int) + 2 from rfl] at h2
          have H2 := Lib.hid (fun w => h2 w (by omega))
          have hd : decide ((x : Int) + 1 < (W : Int)) = true := by simp; omega
          clear h2
          by_cases hfc : f.testBit (x + 1) = true
          · have e3 : bits .and .i64 ((f : Int) / 2 ^ (x + 1)) 1 = 1 := by rw [and_shr_one _ _ (by omega), if_pos hfc]
            have hv : l11F f o (n + 1 + 1) x = 0 := by simp [l11F, hfb, hob, hfc]
            rw [hv]
            clear ih hfb hob hfc hv
            go_enter Tryd.func44, Tryd.ntmps44
            go_wp2_with fail
            go_ret
            exact ⟨rfl, rfl⟩
          · have e3 : bits .and .i64 ((f : Int) / 2 ^ (x + 1)) 1 = 0 := by rw [and_shr_one _ _ (by omega), if_neg hfc]
            by_cases hoc : o.testBit (x + 1) = true
            · have e4 : bits .and .i64 ((o : Int) / 2 ^ (x + 1)) 1 = 1 := by rw [and_shr_one _ _ (by omega), if_pos hoc]
              have hv : l11F f o (n + 1 + 1) x = 0 := by simp [l11F, hfb, hob, hfc, hoc]
              rw [hv]
              clear ih hfb hob hfc hoc hv
              go_enter Tryd.func44, Tryd.ntmps44
              go_wp2_with fail
              go_ret
              exact ⟨rfl, rfl⟩
            · have e4 : bits .and .i64 ((o : Int) / 2 ^ (x + 1)) 1 = 0 := by rw [and_shr_one _ _ (by omega), if_neg hoc]
              have hv : l11F f o (n + 1 + 1) x = l11F f o n (x + 2) := by simp [l11F, hfb, hob, hfc, hoc]
              rw [hv]
              clear ih hfb hob hfc hoc hv
              go_enter Tryd.func44, Tryd.ntmps44
              go_wp2_with fail
              refine (H2.out _).mono ?_
              rintro e w' ⟨rfl, rfl⟩
              go_wp2_with fail
              go_ret
              exact ⟨rfl, rfl⟩

theorem layRow_take {W a b : Nat} (h : b < 2 ^ W) : ints ((layRow W a).take (b + 1)) = ints ((layRow W a).take b) ++ [.int .i64 (l11F a b W 0 : Nat)] := by
  rw [List.take_succ_eq_append_getElem (by rw [layRow_length]; exact h), ints_append]
  simp [layRow, ints]
theorem transM_take {W a : Nat} (h : a < 2 ^ W) : (transM W).take (a + 1) = (transM W).take a ++ [layRow W a] := by
  rw [List.take_succ_eq_append_getElem (by rw [transM_length]; exact h)]
  simp [transM]
/-- A slice of rows while it is built. -/
def MatTo (w wr : World) (R : List (List Int)) (i : Nat) (v : Value) : Prop :=
  ∃ vals, wr.ownsRow w.heap.size 29 1 v i vals ∧ RowsIn wr w.heap.size vals (R.take i) ∧ Below w.heap.size w wr
theorem MatTo.next {w wr w2 w3 : World} {R : List (List Int)} {i n : Nat} {v v' : Value} {vals : List Value} {ad : Option Addr} {c : Nat} {xs : List Int} (hrows : RowsIn wr w.heap.size vals (R.take i)) (hsz : w.heap.size ≤ wr.heap.size)
    (hb2 : Below wr.heap.size wr w2) (hown : w2.ownsRow w.heap.size 29 1 v i vals) (hrow : w2.ownsRow wr.heap.size 3 1 (.slice ad n c) n (ints xs)) (hn : xs.length = n)
    (q1 : w3.ownsRow w.heap.size 29 1 v' (i + 1) (vals ++ [.slice ad n c])) (q3 : w2.grownBy w3 v.ownBlock) (hb : Below w.heap.size w w3) (hi : R.take (i + 1) = R.take i ++ [xs]) : MatTo w w3 R (i + 1) v' := by
  subst hn
  refine ⟨_, q1, ?_, hb⟩
  rw [hi]
  exact (RowsIn.snoc hrows hb2 hsz hrow).grown hown (by decide) q3

set_option maxRecDepth 100000 in
set_option maxHeartbeats 1600000 in
theorem specTrans (W : Nat) (h1 : 1 ≤ W) (h4 : W ≤ 4) (w : World) :
    Calls Tryd.prog 31 #[.int .i64 W] w fun e w' => ∃ ad' cap', e = .returned (.tuple #[.slice ad' (2 ^ W) cap', .bool true]) ∧ OwnMat w' w.heap.size (.slice ad' (2 ^ W) cap') (transM W) ∧ Below w.heap.size w w' := by
  obtain ⟨N, hN⟩ : ∃ N : Nat, N = 2 ^ W := ⟨_, rfl⟩
  have hpw := pow_wrap (B := W) (by omega)
  rw [← hN] at hpw ⊢
  have hN16 : N ≤ 16 := by rw [hN]; exact Nat.pow_le_pow_right (by decide) h4
  have HN := Lib.hid hN
  have h0 : MatTo w (w.alloc (.cells #[] 29)) (transM W) 0 (.slice (some ⟨w.heap.size, 0, none⟩) 0 0) := ⟨[], ownsRow_empty w 29 1, RowsIn.nil _ _, (Below.refl _ _).alloc (Nat.le_refl _) _⟩
  have H0 := Lib.hid h0
  clear hN h0
  go_enter Tryd.func31, Tryd.ntmps31
  go_wp2_with (go_at_call 25; refine (l1In_yes _ _ _ _ (by omega) (by omega)).mono ?_; rintro e w' ⟨rfl, rfl⟩)
  go_loopw [4, 5] (fun v i wr => ∃ a : Nat, a ≤ N ∧ i = .int .i64 a ∧ MatTo w wr (transM W) a v) (fun _ i _ => N - (intOf i).toNat)
  case atStart => exact ⟨0, by omega, rfl, H0.out⟩
  case round =>
    obtain ⟨a, ha, rfl, hm⟩ := hrel
    obtain ⟨wo, rfl⟩ : ∃ wo : World, wo = wr := ⟨_, rfl⟩
    obtain ⟨vals, hown, hrows, hbo⟩ := hm
    have HOWN := Lib.hid hown
    have HROWS := Lib.hid hrows
    have HBO := Lib.hid hbo
    have hsz := hbo.size
    by_cases hlt : a < N
    · clear hrows hbo hown
      have HE := Lib.hid (ownsRow_empty wo 3 1)
      have HBE := Lib.hid (show Below wo.heap.size wo (wo.alloc (.cells #[] 3)) from (Below.refl _ _).alloc (Nat.le_refl _) _)
      go_wp2
      go_loopw [6, 7] (fun v x wr => ∃ b : Nat, b ≤ N ∧ x = .int .i64 b ∧ wr.ownsRow wo.heap.size 3 1 v b (ints ((layRow W a).take b)) ∧ Below wo.heap.size wo wr) (fun _ x _ => N - (intOf x).toNat)
      case atStart => exact ⟨0, by omega, rfl, HE.out, HBE.out⟩
      case round =>
        obtain ⟨b, hb, rfl, hrow, hb2⟩ := hrel
        by_cases hlb : b < N
        · have HT := Lib.hid (layRow_take (W := W) (a := a) (b := b) (by rw [← HN.out]; exact hlb))
          have hfill := fun w => l11Fill_any W a b (by omega) (by omega) (by omega) W 0 w (by omega)
          rw [show ((0 : Nat) : Int) = 0 from rfl] at hfill
          obtain ⟨F, hF⟩ : ∃ F : Nat, F = l11F a b W 0 := ⟨_, rfl⟩
          rw [← hF] at hfill HT
          have HFILL := Lib.hid hfill
          have HR := Lib.hid hrow
          have HB2 := Lib.hid hb2
          have hsz2 := hb2.size
          clear hF hfill hrow hb2
          go_wp2_with fail
          refine (HFILL.out _).mono ?_
          rintro e w' ⟨rfl, rfl⟩
          go_wp2_with (at_builtin; refine wpList_app1 rfl (.tmp 26) (.tmp 31) 29 rfl wo.heap.size 3 _ 1 8 Tryd.elemInt _ b _ _ _ _ rfl rfl rfl HR.out (by rfl) (by simp [Value.oneCell']) (by unfold maxLen; omega) (by omega) (by omega) ?_; intro g' cap w3 q1 q2 q3 q4 q5 q6)
          go_roundw
          case rel =>
            refine ⟨b + 1, by omega, by go_num, ?_, HB2.out.trans q2⟩
            rw [HT.out]
            exact q1
          case measure => simp [intOf]; omega
        · obtain rfl : b = N := by omega
          obtain ⟨ad, c, rfl, _⟩ := ownsRow_cells hrow
          have hfar := ownsRow_far_below HOWN.out hb2 (Nat.le_refl _)
          rw [List.take_of_length_le (by rw [layRow_length, HN.out]; exact Nat.le_refl _)] at hrow
          have HROW := Lib.hid hrow
          have HB2 := Lib.hid hb2
          have hsz2 := hb2.size
          have HFAR := Lib.hid hfar
          clear hrow hfar hb2
          go_wp2_with (at_builtin; refine wpList_app1 rfl (.tmp 33) (.tmp 35) 37 rfl w.heap.size 29 _ 1 24 Tryd.elemInts _ a vals _ _ _ rfl rfl rfl HFAR.out (by rfl) (by simp [Value.oneCell']) (by unfold maxLen; omega) (by omega) (by omega) ?_; intro g' cap w3 q1 q2 q3 q4 q5 q6)
          go_roundw
          case rel =>
            refine ⟨a + 1, by omega, by go_num, ?_⟩
            exact MatTo.next HROWS.out hsz HB2.out HFAR.out HROW.out (by rw [layRow_length, HN.out]) q1 q3 ((HBO.out.trans (HB2.out.mono hsz)).trans q2) (transM_take (by rw [← HN.out]; exact hlt))
          case measure => simp [intOf]; omega
    · obtain rfl : a = N := by omega
      obtain ⟨ad', cap', rfl, _⟩ := ownsRow_cells hown
      clear hrows hbo hown
      go_wp2
      go_ret2
      refine ⟨ad', cap', rfl, ⟨vals, ?_, ?_⟩, HBO.out⟩
      · have e : (transM W).length = a := by rw [transM_length, HN.out]
        rw [e]
        exact HOWN.out
      · have := HROWS.out
        rw [List.take_of_length_le (by rw [transM_length, HN.out]; exact Nat.le_refl _)] at this
        exact this
theorem specTrans_no (x : Int) (h : x < 1 ∨ 4 < x) (w : World) :
    Calls Tryd.prog 31 #[.int .i64 x] w fun e w' => ∃ ad' cap', e = .returned (.tuple #[.slice ad' 0 cap', .bool false]) ∧ Below w.heap.size w w' := by
  have HX := Lib.hid h
  clear h
  go_enter Tryd.func31, Tryd.ntmps31
  go_wp2_with fail
  refine (l1In_no _ _ _ _ HX.out).mono ?_
  rintro e w' ⟨rfl, rfl⟩
  go_wp2
  go_ret2
  exact ⟨_, _, rfl, by go_grown⟩
end Go.Proofs.YtgplpngphaaefaaDoor
