/- Search: the walks of the reference's searches for fills. -/
import Derived.Test.YtdnklmdmafbogaaDoorSearch0
import Derived.Test.YtdnklmdmafbogaaDoorAllBase
namespace Go.Proofs.YtdnklmdmafbogaaDoor
open Go.RowKit

set_option maxRecDepth 100000 in
set_option maxHeartbeats 1600000 in
/-- The reference's count: at most so many. -/
theorem l18Count_any (A B : Nat) (ts : List Tile) (hn : ts.length ≤ 1048576) (hA : 1 ≤ A ∧ A ≤ 4) (hB : 1 ≤ B ∧ B ≤ 4) : ∀ (n : Nat) (f : List Nat) (most : Nat) (w : World) (ad af : Option Addr) (c cf : Nat),
    f.length + n = A * B → InR ts f → 1 ≤ most → most ≤ 1048576 → (af = none → cf = 0) → CellsAt w ad (wangs ts) → CellsAt w af (ints (nats f)) →
    Calls Tryd.prog 63 #[.slice ad ts.length c, .int .i64 A, .int .i64 B, .slice af f.length cf, .int .i64 most] w fun e w' => e = .returned (.int .i64 (min most (fillsF ts A n f).length : Nat)) ∧ Below w.heap.size w w' := by
  obtain ⟨ha1, ha2⟩ := hA
  obtain ⟨hb1, hb2⟩ := hB
  have q0 : A * B ≤ 16 := Nat.mul_le_mul ha2 hb2
  have q1 : 0 ≤ (A : Int) * (B : Int) := by exact Int.mul_nonneg (by omega) (by omega)
  have q2 : (A : Int) * (B : Int) ≤ 16 := by exact_mod_cast q0
  intro n
  induction n with
  | zero =>
    intro f most w ad af c cf hlen hin hm1 hm2 hnil hc hcf
    have hl : ((f.length : Int) == (A : Int) * (B : Int)) = true := by rw [beq_iff_eq]; exact_mod_cast hlen
    have hmin : min most (fillsF ts A 0 f).length = 1 := by simp [fillsF]; omega
    rw [hmin]
    clear hc hcf hin hnil hlen hmin
    go_enter Tryd.func63, Tryd.ntmps63
    go_wp2
    go_ret
    exact ⟨rfl, Below.refl _ _⟩
  | succ n ih =>
    intro f most w ad af c cf hlen hin hm1 hm2 hnil hc hcf
    have hl : ((f.length : Int) == (A : Int) * (B : Int)) = false := by
      rw [beq_eq_false_iff_ne]
      intro h
      have : f.length = A * B := by exact_mod_cast h
      omega
    have hfl : f.length ≤ 16 := by omega
    have IH := Lib.hid ih
    have HIN := Lib.hid hin
    have HNIL := Lib.hid hnil
    have HC := Lib.hid hc
    have HCF := Lib.hid hcf
    have HLEN := Lib.hid hlen
    have hnl := nats_length f
    have hil := ints_length (nats f)
    clear ih hin hnil hc hcf hlen
    go_enter Tryd.func63, Tryd.ntmps63
    go_wp2_with fail
    go_loopw [11, 12] (fun x i wr => ∃ k : Nat, k ≤ ts.length ∧ i = .int .i64 k ∧ x = .int .i64 (min most (fillsTo ts A n f k).length : Nat) ∧ Below w.heap.size w wr) (fun _ i _ => ts.length - (intOf i).toNat)
    case atStart => exact ⟨0, by omega, rfl, by simp [fillsTo_zero], Below.refl _ _⟩
    case round =>
      obtain ⟨k, hk, rfl, rfl, hb⟩ := hrel
      have HCR := Lib.hid (HC.out.below hb)
      have HFR := Lib.hid (HCF.out.below hb)
      obtain ⟨s, hs⟩ : ∃ s, s = min most (fillsTo ts A n f k).length := ⟨_, rfl⟩
      rw [← hs]
      have hsm : s ≤ most := by rw [hs]; exact Nat.min_le_left _ _
      have HS := Lib.hid hs
      clear hs
      by_cases hlt : k < ts.length
      · have hltd : decide ((k : Int) < (ts.length : Int)) = true := by simp; omega
        by_cases hst : s < most
        · have hstd : decide ((s : Int) < (most : Int)) = true := by simp; omega
          have hfit := l18Fits_any ad af c cf ts f A k wr hn (by omega) ⟨ha1, ha2⟩ hlt HIN.out HCR.out HFR.out
          by_cases hfb : fitsB ts A f k = true
          · rw [hfb] at hfit
            have HFB := Lib.hid hfb
            have HFIT := Lib.hid hfit
            clear hfb hfit
            go_wp2_with fail
            refine HFIT.out.mono ?_
            rintro e w2 ⟨rfl, hw2⟩
            have hb2 : Below w.heap.size w w2 := by obtain ⟨m, rfl⟩ := hw2; exact below_drewN hb m
            have HF2 := Lib.hid (HCF.out.below hb2)
            clear hw2
            have hbe : Below w2.heap.size w2 (w2.alloc (.cells #[] 3)) := (Below.refl _ _).alloc (Nat.le_refl _) _
            have HE := Lib.hid (ownsRow_empty w2 3 1)
            have HFE := Lib.hid (HF2.out.below hbe)
            have HBE := Lib.hid hbe
            clear hbe
            go_wp2_with (first | (at_builtin; refine wpList_appN rfl (.tmp 39) (.tmp 40) 37 rfl w2.heap.size 3 _ 1 8 Tryd.elemInt _ 0 [] rfl HE.out af f.length cf (ints (nats f)) rfl HNIL.out (by omega) HFE.out (ints_one _) (by unfold maxLen; omega) (by omega) (by simp) ?_; intro a3 c3 w3 p1 p2 p3; simp only [Nat.zero_add, List.nil_append] at p1; have hz3 := p2.size) | (at_builtin; refine wpList_app1 rfl (.tmp 41) (.tmp 43) 37 rfl w2.heap.size 3 _ 1 8 Tryd.elemInt _ f.length (ints (nats f)) _ _ _ rfl rfl rfl p1 (by rfl) (by simp [Value.oneCell']) (by unfold maxLen; omega) (by omega) (by simp at hz3; omega) ?_; intro g4 c4 w4 r1 r2 r3 r4 r5 r6))
            have hb4 : Below w.heap.size w w4 := hb2.trans (((HBE.out.trans p2).trans r2).mono hb2.size)
            have hih := IH.out (f ++ [k]) (most - s) w4 ad (some ⟨g4, 0, none⟩) c c4 (by rw [List.length_append, List.length_singleton, ← HLEN.out]; omega) (HIN.out.snoc hlt) (by omega) (by omega) (fun h => by cases h) (HC.out.below hb4)
              (by rw [nats_snoc, ints_append]; exact ownsRow_cellsAt r1)
            have e1 : ((most - s : Nat) : Int) = (most : Int) - (s : Int) := by omega
            rw [List.length_append, List.length_singleton, e1] at hih
            obtain ⟨x, hx⟩ : ∃ x, x = min (most - s) (fillsF ts A n (f ++ [k])).length := ⟨_, rfl⟩
            rw [← hx] at hih
            have hxm : x ≤ most - s := by rw [hx]; exact Nat.min_le_left _ _
            refine hih.mono ?_
            have HX := Lib.hid hx
            clear hih hx e1
            rintro e w5 ⟨rfl, hb5⟩
            go_wp2
            go_roundw
            case rel =>
              refine ⟨k + 1, by omega, by go_num, ?_, hb4.trans (hb5.mono hb4.size)⟩
              have e2 : min most (fillsTo ts A n f (k + 1)).length = s + x := by
                rw [fillsTo_yes HFB.out, List.length_append, HX.out]
                have := HS.out
                omega
              rw [e2]
              go_num
            case measure => simp [intOf]; omega
          · have hfb' : fitsB ts A f k = false := by simpa using hfb
            rw [hfb'] at hfit
            have HFB := Lib.hid hfb'
            have HFIT := Lib.hid hfit
            clear hfb hfb' hfit
            go_wp2_with fail
            refine HFIT.out.mono ?_
            rintro e w2 ⟨rfl, hw2⟩
            have hb2 : Below w.heap.size w w2 := by obtain ⟨m, rfl⟩ := hw2; exact below_drewN hb m
            clear hw2
            go_wp2
            go_roundw
            case rel =>
              refine ⟨k + 1, by omega, by go_num, ?_, hb2⟩
              rw [fillsTo_no HFB.out, ← HS.out]
            case measure => simp [intOf]; omega
        · have hstd : decide ((s : Int) < (most : Int)) = false := by simp; omega
          go_wp2
          go_ret
          have e2 : min most (fillsF ts A (n + 1) f).length = s := by
            rw [← fillsTo_all]
            have := HS.out
            have h3 := (fillsTo_mono (ts := ts) (b := A) (n := n) (f := f) (show k ≤ ts.length by omega)).length_le
            omega
          rw [e2]
          exact ⟨rfl, hb⟩
      · obtain rfl : k = ts.length := by omega
        go_wp2
        go_ret
        have e2 : min most (fillsF ts A (n + 1) f).length = s := by rw [← fillsTo_all, HS.out]
        rw [e2]
        exact ⟨rfl, hb⟩

theorem l18Count_start (A B : Nat) (ts : List Tile) (hn : ts.length ≤ 1048576) (hA : 1 ≤ A ∧ A ≤ 4) (hB : 1 ≤ B ∧ B ≤ 4) (w : World) (ad af : Option Addr) (c cf : Nat) (hnil : af = none → cf = 0) (hc : CellsAt w ad (wangs ts)) :
    Calls Tryd.prog 63 #[.slice ad ts.length c, .int .i64 A, .int .i64 B, .slice af 0 cf, .int .i64 2000] w fun e w' => e = .returned (.int .i64 (min 2000 (fillsF ts A (A * B) []).length : Nat)) ∧ Below w.heap.size w w' :=
  l18Count_any A B ts hn hA hB (A * B) [] 2000 w ad af c cf (by simp) (InR.nil ts) (by omega) (by omega) hnil hc (.inl rfl)
end Go.Proofs.YtdnklmdmafbogaaDoor
