/- PlaneT: the walk of the reference's TilesPlane. -/
import Derived.Test.YtmpcmeeoiapbdaaGreatDoorPlaneI
import Derived.BigQuiet
namespace Go.Proofs.YtmpcmeeoiapbdaaGreatDoor
open Go.RowKit

attribute [local go_sem ↓] Go.wp_at_zero Go.wp_at_succ

theorem i64_small {n : Nat} (h : n ≤ 25) : IntKind.i64.wrap (n : Int) = (n : Int) := IntWalk.i64_in _ (by omega)
theorem w64_small {n : Nat} (h : n ≤ 25) : wrap64 (n : Int) = (n : Int) := wrap_nat (by omega)
theorem ne_cast {n : Nat} (h : ¬ n = 0) : ((n : Int) != 0) = true := by simp; omega
set_option maxRecDepth 100000 in
set_option maxHeartbeats 3200000 in
theorem specTP (ad : Option Addr) (c : Nat) (l : List Cl) (w : World) (hn : l.length ≤ 1048576) (hc : CellsAt w ad (cls l)) :
    Calls Tryz.prog 18 #[.slice ad l.length c] w fun e w' => e = .returned (.tuple #[.int .i64 (leastL (planeL l)).1, .int .i64 (leastL (planeL l)).2, .bool (decide (0 < (planeL l).length))]) ∧ Below w.heap.size w w' := by
  have HSH := Lib.hid (fun w' h2 => specShape ad c l w' hn h2)
  have HFT := Lib.hid (fun (a b : Nat) g w' h2 => specFT (a : Int) (b : Int) (some ⟨g, 0, none⟩) 1 [l] w' (by simp) (fun p hp => by rw [List.mem_singleton.1 hp]; exact hn) h2)
  unfold FoundAt at HFT
  have HC := Lib.hid hc
  have hokd : ∀ a b : Nat, okT l a b = (decide (a * b % l.length = 0) && someT (torF (a : Int) (b : Int) [l])) := fun a b => rfl
  have HOK := Lib.hid hokd
  have HNONE := Lib.hid (fun (h : NoA (planeL l) 25) => plane_none h)
  have HFOUND := Lib.hid (fun (k j m h d : Nat) (h1 : k = j + 1) (h2 : h = m + 1) (h3 : NoA (planeL l) j) (h4 : NoW (planeL l) k m) (h5 : (h, d) ∈ planeL l) (h6 : h * d = k) => plane_found h1 h2 h3 h4 h5 h6)
  have HMEM := Lib.hid (fun (q : Nat × Nat) (h : (1 ≤ q.1 ∧ q.1 ≤ 5) ∧ (1 ≤ q.2 ∧ q.2 ≤ 5) ∧ okT l q.1 q.2 = true) => planeL_mem.2 h)
  have HAN := Lib.hid (fun (j k : Nat) (h1 : k = j + 1) (h2 : NoA (planeL l) j) (h3 : NoW (planeL l) k 5) => NoA.next h1 h2 h3)
  have HWN := Lib.hid (fun (k m h : Nat) (h1 : h = m + 1) (h2 : NoW (planeL l) k m) h3 => NoW.next (l := l) h1 h2 h3)
  have HA0 := Lib.hid (NoA.zero l)
  have HW0 := Lib.hid (fun k => NoW.zero l k)
  have hsn : ¬ Shape l → planeL l = [] := fun h => rtTo_none (fun a b => okT_shape h a b) 5
  have HSN := Lib.hid hsn
  clear hsn
  clear hc hokd
  generalize planeL l = L at HNONE HFOUND HMEM HAN HWN HA0 HW0 HSN ⊢
  by_cases hs : Shape l
  · have hl1 := hs.2.1
    rw [decide_eq_true hs] at HSH
    have hl0 : ¬ ((l.length : Int) = 0) := by omega
    clear HSN hs
    go_enter Tryz.func18, Tryz.ntmps18
    go_wp2
    go_loopw [5] (fun i wr => ∃ j k : Nat, j ≤ 25 ∧ k = j + 1 ∧ i = .int .i64 k ∧ NoA L j ∧ Below w.heap.size w wr) (fun i _ => 26 - (intOf i).toNat)
    case atStart => exact ⟨0, 1, by omega, rfl, rfl, HA0.out, Below.refl _ _⟩
    case round =>
      obtain ⟨j, k, hj, hkj, rfl, hna, hb⟩ := hrel
      obtain ⟨wo, rfl⟩ : ∃ wo : World, wo = wr := ⟨_, rfl⟩
      have HKJ := Lib.hid hkj
      have HNA := Lib.hid hna
      have HB := Lib.hid hb
      have hszo := hb.size
      have hk26 : k ≤ 26 := by omega
      have hk1 : 1 ≤ k := by omega
      have HJ := Lib.hid hj
      clear hkj hna hb hj
      by_cases hlt : k ≤ 25
      · have i1 : (k : Int) ≤ 25 := by omega
        have hkq : (k : Int).tmod (l.length : Int) = ((k % l.length : Nat) : Int) := by rw [Int.tmod_eq_emod_of_nonneg (by omega)]; norm_cast
        have hkq2 : (k : Int) % (l.length : Int) = ((k % l.length : Nat) : Int) := by norm_cast
        have hqb : k % l.length ≤ 25 := Nat.le_trans (Nat.mod_le _ _) hlt
        obtain ⟨q, hqd⟩ : ∃ q, q = k % l.length := ⟨_, rfl⟩
        rw [← hqd] at hkq hkq2 hqb
        have HQ := Lib.hid hqd
        clear hqd
        have sq := i64_small hqb
        go_wp2_with fail
        refine (HSH.out wo (HC.out.below HB.out)).mono ?_
        rintro e w1 ⟨rfl, hb1⟩
        have HB1 := Lib.hid (HB.out.trans (hb1.mono hszo))
        clear hb1
        go_wp2
        go_loopw [6] (fun i wi => ∃ m h : Nat, m ≤ 5 ∧ h = m + 1 ∧ i = .int .i64 h ∧ NoW L k m ∧ Below w.heap.size w wi) (fun i _ => 6 - (intOf i).toNat)
        case atStart => exact ⟨0, 1, Nat.zero_le _, rfl, rfl, HW0.out k, HB1.out⟩
        case round =>
          obtain ⟨m, h, hm, hhm, rfl, hnw, hb⟩ := hrel
          have HHM := Lib.hid hhm
          have HNW := Lib.hid hnw
          have HBI := Lib.hid hb
          have hszi := hb.size
          have hh6 : h ≤ 6 := by omega
          have hh1 : 1 ≤ h := by omega
          clear hhm hnw hb hm
          by_cases hlh : h ≤ 5
          · have i2 : (h : Int) ≤ 5 := by omega
            have hh0 : ¬ ((h : Int) = 0) := by omega
            have HW2F := Lib.hid (fun h3 => HWN.out k m h HHM.out HNW.out h3)
            have r1 : (k : Int).tmod (h : Int) = ((k % h : Nat) : Int) := by rw [Int.tmod_eq_emod_of_nonneg (by omega)]; norm_cast
            have r2 : (k : Int) % (h : Int) = ((k % h : Nat) : Int) := by norm_cast
            have r3 : k % h ≤ 25 := Nat.le_trans (Nat.mod_le _ _) hlt
            have d1 : (k : Int).tdiv (h : Int) = ((k / h : Nat) : Int) := by rw [Int.tdiv_eq_ediv_of_nonneg (by omega)]; norm_cast
            have d2 : (k : Int) / (h : Int) = ((k / h : Nat) : Int) := by norm_cast
            have d3 : k / h ≤ 25 := Nat.le_trans (Nat.div_le_self _ _) hlt
            have DM := Lib.hid (Nat.div_add_mod k h)
            obtain ⟨r, hr⟩ : ∃ r, r = k % h := ⟨_, rfl⟩
            obtain ⟨d, hd⟩ : ∃ d, d = k / h := ⟨_, rfl⟩
            rw [← hr] at r1 r2 r3 DM
            rw [← hd] at d1 d2 d3 DM
            have HR := Lib.hid hr
            have HD := Lib.hid hd
            clear hr hd
            have r4 := i64_small r3
            have d4 := i64_small d3
            have d5 := w64_small d3
            by_cases hr0 : r = 0
            · have e0 : ((r : Int) != 0) = false := by rw [hr0]; rfl
              have e0n : (r != 0) = false := by rw [hr0]; rfl
              have HR0 := Lib.hid hr0
              have HDK := Lib.hid (show h * d = k by have := DM.out; rw [hr0] at this; exact this)
              clear hr0
              by_cases hd5 : d ≤ 5
              · have e1 : decide ((5 : Int) < (d : Int)) = false := decide_eq_false (fun z => Nat.not_lt.2 hd5 (Int.ofNat_lt.1 z))
                have e1n : decide (5 < d) = false := decide_eq_false (Nat.not_lt.2 hd5)
                have hd1 : 1 ≤ d := by
                  rcases Nat.eq_zero_or_pos d with z | z
                  · have := HDK.out
                    rw [z, Nat.mul_zero] at this
                    exact absurd this.symm (Nat.ne_of_gt hk1)
                  · exact z
                have HUQ := Lib.hid (fun b (hb : h * b = k) => (Nat.eq_of_mul_eq_mul_left hh1 (hb.trans HDK.out.symm) : b = d))
                by_cases hq0 : q = 0
                · have e2 : ((q : Int) != 0) = false := by rw [hq0]; rfl
                  have e2n : (q != 0) = false := by rw [hq0]; rfl
                  have hokd : okT l h d = someT (torF (h : Int) (d : Int) [l]) := by rw [HOK.out, HDK.out, decide_eq_true (by rw [← HQ.out]; exact hq0), Bool.true_and]
                  have HOKD := Lib.hid hokd
                  clear hq0 hokd
                  obtain ⟨wB, hwB⟩ : ∃ wB, wB = wr.alloc (.cells #[.slice ad l.length c] 33) := ⟨_, rfl⟩
                  have hbB : Below wr.heap.size wr wB := by rw [hwB]; exact (Below.refl _ _).alloc (Nat.le_refl _) _
                  have hblkB : wB.heap[wr.heap.size]? = some (.cells #[.slice ad l.length c] 33 (0, 0)) := by rw [hwB]; exact heap_alloc_new wr _
                  have HBB := Lib.hid (HBI.out.trans (hbB.mono hszi))
                  have hszB := HBB.out.size
                  have HCL := Lib.hid (HFT.out h d wr.heap.size wB (shpsAt_one hblkB (HC.out.below HBB.out)))
                  have HWB := Lib.hid hwB
                  clear hwB hbB hblkB
                  generalize someT (torF (h : Int) (d : Int) [l]) = s at HOKD HCL
                  cases s with
                  | true =>
                    have hpm : (h, d) ∈ L := HMEM.out (h, d) ⟨⟨hh1, hlh⟩, ⟨hd1, hd5⟩, HOKD.out⟩
                    obtain ⟨f1, f2⟩ := HFOUND.out k j m h d HKJ.out HHM.out HNA.out HNW.out hpm HDK.out
                    have F1 := Lib.hid f1
                    have F2 := Lib.hid (decide_eq_true f2)
                    clear f1 f2 hpm
                    go_wp2_with fail
                    rw [← HWB.out]
                    refine HCL.out.mono ?_
                    rintro e w2 ⟨a2, c2, rfl, _, hb2⟩
                    have HB2 := Lib.hid (HBB.out.trans (hb2.mono hszB))
                    clear hb2
                    go_wp2
                    go_big_quiet (fail)
                    go_wp2
                    go_ret3
                    rw [F1.out, F2.out]
                    exact ⟨rfl, below_drewN HB2.out _⟩
                  | false =>
                    have HW2 := Lib.hid (HW2F.out (fun b hb _ _ hok => by rw [HUQ.out b hb, HOKD.out] at hok; cases hok))
                    go_wp2_with fail
                    rw [← HWB.out]
                    refine HCL.out.mono ?_
                    rintro e w2 ⟨a2, c2, rfl, _, hb2⟩
                    have HB2 := Lib.hid (HBB.out.trans (hb2.mono hszB))
                    clear hb2
                    go_wp2
                    go_roundw
                    case rel => exact ⟨h, h + 1, hlh, rfl, by go_num, HW2.out, HB2.out⟩
                    case measure => simp [intOf]; omega
                · have e2 := ne_cast hq0
                  have e2n : (q != 0) = true := bne_iff_ne.2 hq0
                  have HW2 := Lib.hid (HW2F.out (fun b hb _ _ hok => by rw [HOK.out, hb, decide_eq_false (by rw [← HQ.out]; exact hq0), Bool.false_and] at hok; cases hok))
                  clear hq0
                  go_wp2
                  go_roundw
                  case rel => exact ⟨h, h + 1, hlh, rfl, by go_num, HW2.out, HBI.out⟩
                  case measure => simp [intOf]; omega
              · have e1 : decide ((5 : Int) < (d : Int)) = true := decide_eq_true (Int.ofNat_lt.2 (Nat.lt_of_not_le hd5))
                have e1n : decide (5 < d) = true := decide_eq_true (Nat.lt_of_not_le hd5)
                have HUQ := Lib.hid (fun b (hb : h * b = k) => (Nat.eq_of_mul_eq_mul_left hh1 (hb.trans HDK.out.symm) : b = d))
                have HW2 := Lib.hid (HW2F.out (fun b hb _ hb5 _ => hd5 (by rw [← HUQ.out b hb]; exact hb5)))
                go_wp2
                go_roundw
                case rel => exact ⟨h, h + 1, hlh, rfl, by go_num, HW2.out, HBI.out⟩
                case measure => simp [intOf]; omega
            · have e0 := ne_cast hr0
              have e0n : (r != 0) = true := bne_iff_ne.2 hr0
              have HW2 := Lib.hid (HW2F.out (fun b hb _ _ _ => hr0 (by rw [HR.out, ← hb]; exact Nat.mul_mod_right _ _)))
              clear hr0
              go_wp2
              go_roundw
              case rel => exact ⟨h, h + 1, hlh, rfl, by go_num, HW2.out, HBI.out⟩
              case measure => simp [intOf]; omega
          · obtain rfl : m = 5 := by have := HHM.out; omega
            have HA2 := Lib.hid (HAN.out j k HKJ.out HNA.out HNW.out)
            go_wp2
            go_roundw
            case rel => exact ⟨k, k + 1, hlt, rfl, by go_num, HA2.out, HBI.out⟩
            case measure => simp [intOf]; omega
      · obtain rfl : j = 25 := by have := HKJ.out; have := HJ.out; omega
        have HL0 := Lib.hid (HNONE.out HNA.out)
        go_wp2
        go_ret3
        rw [HL0.out]
        exact ⟨rfl, HB.out⟩
  · rw [decide_eq_false hs] at HSH
    rw [HSN.out hs]
    clear hs HSN
    go_enter Tryz.func18, Tryz.ntmps18
    go_wp2
    go_loopw [5] (fun i wr => i = .int .i64 1 ∧ w = wr) (fun _ _ => 0)
    case atStart => exact ⟨rfl, rfl⟩
    case round =>
      obtain ⟨rfl, rfl⟩ := hrel
      go_wp2_with fail
      refine (HSH.out w HC.out).mono ?_
      rintro e w1 ⟨rfl, hb1⟩
      have HB1 := Lib.hid hb1
      clear hb1
      go_wp2
      go_ret3
      exact ⟨rfl, HB1.out⟩
end Go.Proofs.YtmpcmeeoiapbdaaGreatDoor
