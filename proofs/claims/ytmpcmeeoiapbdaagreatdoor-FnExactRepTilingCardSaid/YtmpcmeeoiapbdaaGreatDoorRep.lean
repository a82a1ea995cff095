/- Rep: the walks of RepTiling, IsRepTile and LeastRep, the reference's and the program's. -/
import Derived.Test.YtmpcmeeoiapbdaaGreatDoorScaleB
import Derived.Test.YtmpcmeeoiapbdaaGreatDoorFindR
import Derived.Test.YtmpcmeeoiapbdaaGreatDoorAllShape
import Derived.Test.YtmpcmeeoiapbdaaGreatDoorPut0
namespace Go.Proofs.YtmpcmeeoiapbdaaGreatDoor
open Go.RowKit

attribute [local go_sem ↓] Go.wp_at_zero Go.wp_at_succ

/-- A slice of one shape. -/
theorem ShpsAt.single {w : World} {g e : Nat} {ad : Option Addr} {c : Nat} {l : List Cl} (h : w.heap[g]? = some (.cells #[.slice ad l.length c] e (0, 0))) (hc : CellsAt w ad (cls l)) : ShpsAt w (some ⟨g, 0, none⟩) [l] :=
  ⟨[.slice ad l.length c], elem_at h, ⟨⟨ad, c, rfl, hc⟩, trivial⟩⟩

set_option maxRecDepth 100000 in
set_option maxHeartbeats 3200000 in
theorem specRep (ad : Option Addr) (c : Nat) (l : List Cl) (k : Int) (w : World) (hn : l.length ≤ 1048576) (hc : CellsAt w ad (cls l)) :
    Calls Tryz.prog 34 #[.slice ad l.length c, .int .i64 k] w (FoundAt w (repF l k)) := by
  have HSC := Lib.hid (specScaled ad c l k w hn hc)
  have HC := Lib.hid hc
  have hRl := scR_length l k
  have hval : repF l k = if scOk l k = true then regF (scB l k) (scR l k) [l] else [] := rfl
  rw [hval]
  have HFR := Lib.hid (fun (b : Int) (R : List Int) (h6 : R.length ≤ 6) a3 c3 g w'  h1 h2 => specFR b a3 c3 R (some ⟨g, 0, none⟩) 1 [l] w' (Nat.le_trans h6 (by decide)) (by simp) (fun p hp => by rw [List.mem_singleton.1 hp]; exact hn)  h1 h2)
  clear hc hval
  unfold ScAt at HSC
  generalize scB l k = b at HSC ⊢
  generalize scR l k = R at HSC hRl ⊢
  cases hok : scOk l k with
  | true =>
    rw [hok] at HSC
    rw [if_pos rfl]
    have HFR2 := Lib.hid (HFR.out b R hRl)
    clear hok HFR
    generalize regF b R [l] = Fs at HFR2 ⊢
    unfold FoundAt at HFR2 ⊢
    generalize firstT Fs = r0 at HFR2 ⊢
    generalize someT Fs = r1 at HFR2 ⊢
    go_enter Tryz.func34, Tryz.ntmps34
    go_wp2_with fail
    refine HSC.out.mono ?_
    rintro e w1 ⟨b0, d0, rfl, ho1, hb1⟩
    obtain ⟨wA, hwA⟩ : ∃ wA, wA = w1.alloc (.cells #[.int .i64 b, .slice b0 R.length d0] 65) := ⟨_, rfl⟩
    obtain ⟨wB, hwB⟩ : ∃ wB, wB = (w1.alloc (.cells #[.int .i64 b, .slice b0 R.length d0] 65)).alloc (.cells #[.slice ad l.length c] 33) := ⟨_, rfl⟩
    have hblk : (w1.alloc (.cells #[.int .i64 b, .slice b0 R.length d0] 65)).heap[w1.heap.size]? = some (.cells #[.int .i64 b, .slice b0 R.length d0] 65 (0, 0)) := heap_alloc_new w1 _
    have x10 : (w1.alloc (.cells #[.int .i64 b, .slice b0 R.length d0] 65)).cell? ⟨w1.heap.size, 0, none⟩ = some (.int .i64 b) := by rw [cell_of_row _ _ 0 _ _ _ hblk]; rfl
    have x11 : (w1.alloc (.cells #[.int .i64 b, .slice b0 R.length d0] 65)).cell? ⟨w1.heap.size, 1, none⟩ = some (.slice b0 R.length d0) := by rw [cell_of_row _ _ 1 _ _ _ hblk]; rfl
    have hbA : Below w1.heap.size w1 wA := by rw [hwA]; exact (Below.refl _ _).alloc (Nat.le_refl _) _
    have hbB : Below w1.heap.size w1 wB := by rw [hwB]; exact ((Below.refl _ _).alloc (Nat.le_refl _) _).alloc (by simp) _
    have hblkB : wB.heap[w1.heap.size + 1]? = some (.cells #[.slice ad l.length c] 33 (0, 0)) := by
      have h := heap_alloc_new (w1.alloc (.cells #[.int .i64 b, .slice b0 R.length d0] 65)) (.cells #[.slice ad l.length c] 33)
      rw [hwB]
      simpa using h
    have hsz1 := hb1.size
    have HB := Lib.hid (hb1.trans (hbB.mono hsz1))
    have hszB := HB.out.size
    have HCALL := Lib.hid (HFR2.out b0 d0 (w1.heap.size + 1) wB  ((ownsRow_cellsAt ho1).below hbB) (ShpsAt.single hblkB (HC.out.below HB.out)))
    have HWB := Lib.hid hwB
    clear hb1 ho1 hwA hwB hbA hbB hblk hblkB
    go_wp2_with fail
    rw [← HWB.out]
    refine HCALL.out.mono ?_
    rintro e w2 ⟨a2, c2, rfl, ho2, hb2⟩
    have HB2 := Lib.hid (HB.out.trans (hb2.mono hszB))
    have HO2 := Lib.hid (ownsRow_rebase ho2 hszB)
    clear hb2 ho2
    go_wp2
    go_ret2
    exact ⟨a2, c2, rfl, HO2.out, HB2.out⟩
  | false =>
    rw [hok] at HSC
    rw [if_neg (by simp)]
    clear hok HFR
    unfold FoundAt
    go_enter Tryz.func34, Tryz.ntmps34
    go_wp2_with fail
    refine HSC.out.mono ?_
    rintro e w1 ⟨b0, d0, rfl, ho1, hb1⟩
    have HB1 := Lib.hid (hb1.alloc hb1.size (.cells #[.int .i64 b, .slice b0 R.length d0] 65))
    have hsz1 := HB1.out.size
    clear ho1 hb1
    have he := ownsRow_rebase (ownsRow_empty (w1.alloc (.cells #[.int .i64 b, .slice b0 R.length d0] 65)) 3 1) hsz1
    rw [show (w1.alloc (.cells #[.int .i64 b, .slice b0 R.length d0] 65)).heap.size = w1.heap.size + 1 by simp] at he
    have HE := Lib.hid he
    clear he
    go_wp2
    go_ret2
    exact ⟨_, _, rfl, HE.out, HB1.out.alloc hsz1 _⟩

set_option maxRecDepth 100000 in
set_option maxHeartbeats 3200000 in
theorem specIsRep (ad : Option Addr) (c : Nat) (l : List Cl) (k : Int) (w : World) (hn : l.length ≤ 1048576) (hc : CellsAt w ad (cls l)) :
    Calls Tryz.prog 30 #[.slice ad l.length c, .int .i64 k] w fun e w' => e = .returned (.bool (someT (repF l k))) ∧ Below w.heap.size w w' := by
  have HR := Lib.hid (specRep ad c l k w hn hc)
  unfold FoundAt at HR
  clear hc
  generalize firstT (repF l k) = r0 at HR
  generalize someT (repF l k) = r1 at HR ⊢
  go_enter Tryz.func30, Tryz.ntmps30
  go_wp2_with fail
  refine HR.out.mono ?_
  rintro e w1 ⟨a1, c1, rfl, _, hb1⟩
  have HB1 := Lib.hid hb1
  clear hb1
  go_wp2
  go_ret
  exact ⟨rfl, HB1.out⟩

set_option maxRecDepth 100000 in
set_option maxHeartbeats 3200000 in
theorem implRep (ad : Option Addr) (c : Nat) (l : List Cl) (k : Int) (w : World) (hn : l.length ≤ 1048576) (hT : Tab w) (hc : CellsAt w ad (cls l)) :
    Calls Tryz.prog 35 #[.slice ad l.length c, .int .i64 k] w (FoundAt w (repF l k)) := by
  have HSC := Lib.hid (implScaled ad c l k w hn hc)
  have HC := Lib.hid hc
  have HT := Lib.hid hT
  clear hT
  have hRl := scR_length l k
  have hval : repF l k = if scOk l k = true then regF (scB l k) (scR l k) [l] else [] := rfl
  rw [hval]
  have HFR := Lib.hid (fun (b : Int) (R : List Int) (h6 : R.length ≤ 6) a3 c3 g w' h0 h1 h2 => implFR b a3 c3 R (some ⟨g, 0, none⟩) 1 [l] w' (Nat.le_trans h6 (by decide)) (by simp) (fun p hp => by rw [List.mem_singleton.1 hp]; exact hn) h0 h1 h2)
  clear hc hval
  unfold ScAt at HSC
  generalize scB l k = b at HSC ⊢
  generalize scR l k = R at HSC hRl ⊢
  cases hok : scOk l k with
  | true =>
    rw [hok] at HSC
    rw [if_pos rfl]
    have HFR2 := Lib.hid (HFR.out b R hRl)
    clear hok HFR
    generalize regF b R [l] = Fs at HFR2 ⊢
    unfold FoundAt at HFR2 ⊢
    generalize firstT Fs = r0 at HFR2 ⊢
    generalize someT Fs = r1 at HFR2 ⊢
    go_enter Tryz.func35, Tryz.ntmps35
    go_wp2_with fail
    refine HSC.out.mono ?_
    rintro e w1 ⟨b0, d0, rfl, ho1, hb1⟩
    obtain ⟨wA, hwA⟩ : ∃ wA, wA = w1.alloc (.cells #[.int .i64 b, .slice b0 R.length d0] 65) := ⟨_, rfl⟩
    obtain ⟨wB, hwB⟩ : ∃ wB, wB = (w1.alloc (.cells #[.int .i64 b, .slice b0 R.length d0] 65)).alloc (.cells #[.slice ad l.length c] 33) := ⟨_, rfl⟩
    have hblk : (w1.alloc (.cells #[.int .i64 b, .slice b0 R.length d0] 65)).heap[w1.heap.size]? = some (.cells #[.int .i64 b, .slice b0 R.length d0] 65 (0, 0)) := heap_alloc_new w1 _
    have x10 : (w1.alloc (.cells #[.int .i64 b, .slice b0 R.length d0] 65)).cell? ⟨w1.heap.size, 0, none⟩ = some (.int .i64 b) := by rw [cell_of_row _ _ 0 _ _ _ hblk]; rfl
    have x11 : (w1.alloc (.cells #[.int .i64 b, .slice b0 R.length d0] 65)).cell? ⟨w1.heap.size, 1, none⟩ = some (.slice b0 R.length d0) := by rw [cell_of_row _ _ 1 _ _ _ hblk]; rfl
    have hbA : Below w1.heap.size w1 wA := by rw [hwA]; exact (Below.refl _ _).alloc (Nat.le_refl _) _
    have hbB : Below w1.heap.size w1 wB := by rw [hwB]; exact ((Below.refl _ _).alloc (Nat.le_refl _) _).alloc (by simp) _
    have hblkB : wB.heap[w1.heap.size + 1]? = some (.cells #[.slice ad l.length c] 33 (0, 0)) := by
      have h := heap_alloc_new (w1.alloc (.cells #[.int .i64 b, .slice b0 R.length d0] 65)) (.cells #[.slice ad l.length c] 33)
      rw [hwB]
      simpa using h
    have hsz1 := hb1.size
    have HB := Lib.hid (hb1.trans (hbB.mono hsz1))
    have hszB := HB.out.size
    have HCALL := Lib.hid (HFR2.out b0 d0 (w1.heap.size + 1) wB (HT.out.below HB.out) ((ownsRow_cellsAt ho1).below hbB) (ShpsAt.single hblkB (HC.out.below HB.out)))
    have HWB := Lib.hid hwB
    clear hb1 ho1 hwA hwB hbA hbB hblk hblkB
    go_wp2_with fail
    rw [← HWB.out]
    refine HCALL.out.mono ?_
    rintro e w2 ⟨a2, c2, rfl, ho2, hb2⟩
    have HB2 := Lib.hid (HB.out.trans (hb2.mono hszB))
    have HO2 := Lib.hid (ownsRow_rebase ho2 hszB)
    clear hb2 ho2
    go_wp2
    go_ret2
    exact ⟨a2, c2, rfl, HO2.out, HB2.out⟩
  | false =>
    rw [hok] at HSC
    rw [if_neg (by simp)]
    clear hok HFR
    unfold FoundAt
    go_enter Tryz.func35, Tryz.ntmps35
    go_wp2_with fail
    refine HSC.out.mono ?_
    rintro e w1 ⟨b0, d0, rfl, ho1, hb1⟩
    have HB1 := Lib.hid (hb1.alloc hb1.size (.cells #[.int .i64 b, .slice b0 R.length d0] 65))
    have hsz1 := HB1.out.size
    clear ho1 hb1
    go_wp2
    go_ret2
    exact ⟨none, 0, rfl, World.ownsRow_nil _ _ _ _, HB1.out⟩

set_option maxRecDepth 100000 in
set_option maxHeartbeats 3200000 in
theorem implIsRep (ad : Option Addr) (c : Nat) (l : List Cl) (k : Int) (w : World) (hn : l.length ≤ 1048576) (hT : Tab w) (hc : CellsAt w ad (cls l)) :
    Calls Tryz.prog 31 #[.slice ad l.length c, .int .i64 k] w fun e w' => e = .returned (.bool (someT (repF l k))) ∧ Below w.heap.size w w' := by
  have HR := Lib.hid (implRep ad c l k w hn hT hc)
  unfold FoundAt at HR
  clear hc hT
  generalize firstT (repF l k) = r0 at HR
  generalize someT (repF l k) = r1 at HR ⊢
  go_enter Tryz.func31, Tryz.ntmps31
  go_wp2_with fail
  refine HR.out.mono ?_
  rintro e w1 ⟨a1, c1, rfl, _, hb1⟩
  have HB1 := Lib.hid hb1
  clear hb1
  go_wp2
  go_ret
  exact ⟨rfl, HB1.out⟩

/-- The least scale from 7 - n on at which the shape tiles itself. -/
def lrF (l : List Cl) : Nat → Int
  | 0 => -1
  | n + 1 => if someT (repF l ((6 - n : Nat) : Int)) = true then ((6 - n : Nat) : Int) else lrF l n
def lrR (l : List Cl) : Int := lrF l 5
theorem lrF_yes {l : List Cl} {k : Nat} (hk : 2 ≤ k ∧ k ≤ 6) (h : someT (repF l (k : Int)) = true) : lrF l (7 - k) = (k : Int) := by
  rw [show 7 - k = (6 - k) + 1 by omega, lrF, show 6 - (6 - k) = k by omega, if_pos h]
theorem lrF_no {l : List Cl} {k : Nat} (hk : 2 ≤ k ∧ k ≤ 6) (h : someT (repF l (k : Int)) = false) : lrF l (7 - k) = lrF l (7 - (k + 1)) := by
  rw [show 7 - k = (6 - k) + 1 by omega, lrF, show 6 - (6 - k) = k by omega, if_neg (by rw [h]; simp), show 7 - (k + 1) = 6 - k by omega]
theorem lrF_shape {l : List Cl} (h : ¬ Shape l) : ∀ n, lrF l n = -1
  | 0 => rfl
  | n + 1 => by
    rw [lrF, repF_shape h, if_neg (by simp [someT])]
    exact lrF_shape h n

set_option maxRecDepth 100000 in
set_option maxHeartbeats 3200000 in
theorem implLeast (ad : Option Addr) (c : Nat) (l : List Cl) (w : World) (hn : l.length ≤ 1048576) (hT : Tab w) (hc : CellsAt w ad (cls l)) :
    Calls Tryz.prog 33 #[.slice ad l.length c] w fun e w' => e = .returned (.int .i64 (lrR l)) ∧ Below w.heap.size w w' := by
  have HR := Lib.hid (fun (k : Nat) w' h1 h2 => implIsRep ad c l (k : Int) w' hn h1 h2)
  have HC := Lib.hid hc
  have HT := Lib.hid hT
  have HY := Lib.hid (fun k h1 h2 => lrF_yes (l := l) (k := k) h1 h2)
  have HN := Lib.hid (fun k h1 h2 => lrF_no (l := l) (k := k) h1 h2)
  have HZ := Lib.hid (show lrF l 0 = -1 from rfl)
  have hv : lrR l = lrF l (7 - 2) := rfl
  have HV := Lib.hid hv
  clear hc hT hv
  generalize lrR l = v at HV ⊢
  go_enter Tryz.func33, Tryz.ntmps33
  go_wp2
  go_loopw [3] (fun i wr => ∃ k : Nat, (2 ≤ k ∧ k ≤ 7) ∧ i = .int .i64 k ∧ v = lrF l (7 - k) ∧ Below w.heap.size w wr) (fun i _ => 7 - (intOf i).toNat)
  case atStart => exact ⟨2, by omega, rfl, HV.out, Below.refl _ _⟩
  case round =>
    obtain ⟨k, hk, rfl, hval, hb⟩ := hrel
    have HVK := Lib.hid hval
    have HB := Lib.hid hb
    have hsz := hb.size
    clear hval hb
    by_cases hlt : k ≤ 6
    · have i1 : (k : Int) ≤ 6 := by omega
      have HCALL := Lib.hid (HR.out k wr (HT.out.below HB.out) (HC.out.below HB.out))
      have HYK := Lib.hid (HY.out k ⟨hk.1, hlt⟩)
      have HNK := Lib.hid (HN.out k ⟨hk.1, hlt⟩)
      generalize someT (repF l (k : Int)) = s at HCALL HYK HNK
      cases s with
      | true =>
        have hv := HYK.out rfl
        have HV2 := Lib.hid (HVK.out.trans hv)
        clear hv HVK HYK HNK
        go_wp2_with fail
        refine HCALL.out.mono ?_
        rintro e w1 ⟨rfl, hb1⟩
        have HB1 := Lib.hid (HB.out.trans (hb1.mono hsz))
        clear hb1
        go_wp2
        go_ret
        rw [HV2.out]
        exact ⟨rfl, HB1.out⟩
      | false =>
        have HV2 := Lib.hid (HVK.out.trans (HNK.out rfl))
        clear HVK HYK HNK
        go_wp2_with fail
        refine HCALL.out.mono ?_
        rintro e w1 ⟨rfl, hb1⟩
        have HB1 := Lib.hid (HB.out.trans (hb1.mono hsz))
        clear hb1
        go_wp2
        go_roundw
        case rel => exact ⟨k + 1, by omega, by go_num, HV2.out, HB1.out⟩
        case measure => simp [intOf]; omega
    · obtain rfl : k = 7 := by omega
      have HV2 := Lib.hid (HVK.out.trans HZ.out)
      clear HVK
      go_wp2
      go_ret
      rw [HV2.out]
      exact ⟨rfl, HB.out⟩

set_option maxRecDepth 100000 in
set_option maxHeartbeats 3200000 in
theorem specLeast (ad : Option Addr) (c : Nat) (l : List Cl) (w : World) (hn : l.length ≤ 1048576) (hc : CellsAt w ad (cls l)) :
    Calls Tryz.prog 32 #[.slice ad l.length c] w fun e w' => e = .returned (.int .i64 (lrR l)) ∧ Below w.heap.size w w' := by
  have HR := Lib.hid (fun (k : Nat) w' h2 => specIsRep ad c l (k : Int) w' hn h2)
  have HSH := Lib.hid (fun w' h2 => specShape ad c l w' hn h2)
  have HC := Lib.hid hc
  have HY := Lib.hid (fun k h1 h2 => lrF_yes (l := l) (k := k) h1 h2)
  have HN := Lib.hid (fun k h1 h2 => lrF_no (l := l) (k := k) h1 h2)
  have HZ := Lib.hid (show lrF l 0 = -1 from rfl)
  have hv : lrR l = lrF l (7 - 2) := rfl
  have HV := Lib.hid hv
  have HNS := Lib.hid (fun h n => lrF_shape (l := l) h n)
  clear hc hv
  generalize lrR l = v at HV ⊢
  by_cases hs : Shape l
  · rw [decide_eq_true hs] at HSH
    clear HNS hs
    go_enter Tryz.func32, Tryz.ntmps32
    go_wp2
    go_loopw [3] (fun i wr => ∃ k : Nat, (2 ≤ k ∧ k ≤ 7) ∧ i = .int .i64 k ∧ v = lrF l (7 - k) ∧ Below w.heap.size w wr) (fun i _ => 7 - (intOf i).toNat)
    case atStart => exact ⟨2, by omega, rfl, HV.out, Below.refl _ _⟩
    case round =>
      obtain ⟨k, hk, rfl, hval, hb⟩ := hrel
      have HVK := Lib.hid hval
      have HB := Lib.hid hb
      have hsz := hb.size
      clear hval hb
      by_cases hlt : k ≤ 6
      · have i1 : (k : Int) ≤ 6 := by omega
        have HCALL := Lib.hid (fun w' (h : Below w.heap.size w w') => HR.out k w' (HC.out.below h))
        have HYK := Lib.hid (HY.out k ⟨hk.1, hlt⟩)
        have HNK := Lib.hid (HN.out k ⟨hk.1, hlt⟩)
        generalize someT (repF l (k : Int)) = s at HCALL HYK HNK
        go_wp2_with fail
        refine (HSH.out wr (HC.out.below HB.out)).mono ?_
        rintro e w0 ⟨rfl, hb0⟩
        have HB0 := Lib.hid (HB.out.trans (hb0.mono hsz))
        have hsz0 := HB0.out.size
        clear hb0
        cases s with
        | true =>
          have hv := HYK.out rfl
          have HV2 := Lib.hid (HVK.out.trans hv)
          clear hv HVK HYK HNK
          go_wp2_with fail
          refine (HCALL.out w0 HB0.out).mono ?_
          rintro e w1 ⟨rfl, hb1⟩
          have HB1 := Lib.hid (HB0.out.trans (hb1.mono hsz0))
          clear hb1
          go_wp2
          go_ret
          rw [HV2.out]
          exact ⟨rfl, HB1.out⟩
        | false =>
          have HV2 := Lib.hid (HVK.out.trans (HNK.out rfl))
          clear HVK HYK HNK
          go_wp2_with fail
          refine (HCALL.out w0 HB0.out).mono ?_
          rintro e w1 ⟨rfl, hb1⟩
          have HB1 := Lib.hid (HB0.out.trans (hb1.mono hsz0))
          clear hb1
          go_wp2
          go_roundw
          case rel => exact ⟨k + 1, by omega, by go_num, HV2.out, HB1.out⟩
          case measure => simp [intOf]; omega
      · obtain rfl : k = 7 := by omega
        have HV2 := Lib.hid (HVK.out.trans HZ.out)
        clear HVK
        go_wp2
        go_ret
        rw [HV2.out]
        exact ⟨rfl, HB.out⟩
  · rw [decide_eq_false hs] at HSH
    have HV2 := Lib.hid (HV.out.trans (HNS.out hs 5))
    clear hs HNS
    go_enter Tryz.func32, Tryz.ntmps32
    go_wp2
    go_loopw [3] (fun i wr => i = .int .i64 2 ∧ w = wr) (fun _ _ => 0)
    case atStart => exact ⟨rfl, rfl⟩
    case round =>
      obtain ⟨rfl, rfl⟩ := hrel
      go_wp2_with fail
      refine (HSH.out w HC.out).mono ?_
      rintro e w0 ⟨rfl, hb0⟩
      have HB0 := Lib.hid hb0
      clear hb0
      go_wp2
      go_ret
      rw [HV2.out]
      exact ⟨rfl, HB0.out⟩
end Go.Proofs.YtmpcmeeoiapbdaaGreatDoor
