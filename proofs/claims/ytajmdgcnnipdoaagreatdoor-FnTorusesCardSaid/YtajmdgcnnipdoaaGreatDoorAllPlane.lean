/- AllPlane: parts laid together: PlaneI, PlaneT. -/
import Derived.Test.YtajmdgcnnipdoaaGreatDoorAllSm
import Derived.Test.YtajmdgcnnipdoaaGreatDoorAllLeast
import Derived.Test.YtajmdgcnnipdoaaGreatDoorFindT
import Derived.BigQuiet
import Derived.Deep.DrawnRows

/- PlaneI: the walk of the program's TilesPlane. -/
namespace Go.Proofs.YtajmdgcnnipdoaaGreatDoor
open Go.RowKit

attribute [local go_sem ↓] Go.wp_at_zero Go.wp_at_succ

def okT (l : List Cl) (a b : Nat) : Bool := decide (a * b % l.length = 0) && someT (torF (a : Int) (b : Int) [l])
/-- The toruses that a shape tiles. -/
def planeL (l : List Cl) : List (Nat × Nat) := rtTo (okT l) (fun _ => 0) 5
theorem torF_shape {l : List Cl} (h : ¬ Shape l) (x y : Int) : torF x y [l] = [] := torF_no (fun q => h (pcs_one.1 q.2))
theorem okT_shape {l : List Cl} (h : ¬ Shape l) (a b : Nat) : okT l a b = false := by
  unfold okT
  rw [torF_shape h]
  simp [someT]
theorem planeL_mem {l : List Cl} {q : Nat × Nat} : q ∈ planeL l ↔ (1 ≤ q.1 ∧ q.1 ≤ 5) ∧ (1 ≤ q.2 ∧ q.2 ≤ 5) ∧ okT l q.1 q.2 = true := by
  unfold planeL
  rw [rtTo_mem]
  constructor
  · rintro ⟨h1, h2, _, h4, h5, h6⟩; exact ⟨⟨h1, h2⟩, ⟨h4, h5⟩, h6⟩
  · rintro ⟨⟨h1, h2⟩, ⟨h4, h5⟩, h6⟩; exact ⟨h1, h2, Nat.zero_le _, h4, h5, h6⟩
theorem planeL_length (l : List Cl) : (planeL l).length ≤ 25 := rtTo_length _ _ 5
theorem planeL_bd (l : List Cl) : ∀ p ∈ planeL l, p.1 ≤ 5 ∧ p.2 ≤ 5 := fun p hp => by
  have h := planeL_mem.1 hp
  exact ⟨h.1.2, h.2.1.2⟩
/-- Facts of the reference's search: nothing of a less area, nothing of this area and a less width. -/
def NoA (L : List (Nat × Nat)) (j : Nat) : Prop := ∀ q ∈ L, j < q.1 * q.2
def NoW (L : List (Nat × Nat)) (k m : Nat) : Prop := ∀ q ∈ L, q.1 * q.2 = k → m < q.1
theorem NoA.zero (l : List Cl) : NoA (planeL l) 0 := fun q hq => by
  have h := planeL_mem.1 hq
  exact Nat.mul_pos h.1.1 h.2.1.1
theorem NoW.zero (l : List Cl) (k : Nat) : NoW (planeL l) k 0 := fun _ hq _ => (planeL_mem.1 hq).1.1
theorem NoA.next {l : List Cl} {j k : Nat} (hk : k = j + 1) (h : NoA (planeL l) j) (hw : NoW (planeL l) k 5) : NoA (planeL l) k := fun q hq => by
  have h1 := h q hq
  have h2 := (planeL_mem.1 hq).1.2
  rcases Nat.lt_or_eq_of_le (show k ≤ q.1 * q.2 by omega) with e | e
  · exact e
  · have := hw q hq e.symm
    omega
theorem NoW.next {l : List Cl} {k m h : Nat} (hh : h = m + 1) (hw : NoW (planeL l) k m) (hno : ∀ b, h * b = k → 1 ≤ b → b ≤ 5 → okT l h b = true → False) : NoW (planeL l) k h := fun q hq he => by
  have h1 := hw q hq he
  rcases Nat.lt_or_eq_of_le (show h ≤ q.1 by omega) with e | e
  · exact e
  · exfalso
    have hm := planeL_mem.1 hq
    rw [← e] at hm he
    exact hno q.2 he hm.2.1.1 hm.2.1.2 hm.2.2
theorem plane_found {l : List Cl} {k j m h d : Nat} (hk : k = j + 1) (hh : h = m + 1) (hj : NoA (planeL l) j) (hm : NoW (planeL l) k m) (hp : (h, d) ∈ planeL l) (he : h * d = k) : leastL (planeL l) = (h, d) ∧ 0 < (planeL l).length := by
  refine ⟨leastL_eq hp (fun q hq => ?_) (by show 0 < h; omega), List.length_pos_of_mem hp⟩
  have h1 := hj q hq
  have h2 := hm q hq
  unfold betterP
  show (decide (q.1 * q.2 < h * d) || (decide (q.1 * q.2 = h * d) && decide (q.1 < h))) = false
  rw [he]
  generalize q.1 * q.2 = X at h1 h2
  simp only [Bool.or_eq_false_iff, Bool.and_eq_false_iff, decide_eq_false_iff_not]
  refine ⟨by omega, ?_⟩
  by_cases e : X = k
  · right; have := h2 e; omega
  · left; exact e
theorem plane_none {l : List Cl} (h : NoA (planeL l) 25) : planeL l = [] := by
  cases hL : planeL l with
  | nil => rfl
  | cons q qs =>
    have hq : q ∈ planeL l := by rw [hL]; simp
    have h1 := h q hq
    have h2 := planeL_bd l q hq
    have h3 : q.1 * q.2 ≤ 5 * 5 := Nat.mul_le_mul h2.1 h2.2
    omega

set_option maxRecDepth 100000 in
set_option maxHeartbeats 3200000 in
theorem implTP (ad : Option Addr) (c : Nat) (l : List Cl) (w : World) (hn : l.length ≤ 1048576) (hT : Tab w) (hc : CellsAt w ad (cls l)) :
    Calls Tryz.prog 53 #[.slice ad l.length c] w fun e w' => e = .returned (.tuple #[.int .i64 (leastL (planeL l)).1, .int .i64 (leastL (planeL l)).2, .bool (decide (0 < (planeL l).length))]) ∧ Below w.heap.size w w' := by
  have HSH := Lib.hid (fun w' h2 => implShape ad c l w' hn h2)
  have HFT := Lib.hid (fun (a b : Nat) g w' h1 h2 => implFT (a : Int) (b : Int) (some ⟨g, 0, none⟩) 1 [l] w' (by simp) (fun p hp => by rw [List.mem_singleton.1 hp]; exact hn) h1 h2)
  unfold FoundAt at HFT
  have HC := Lib.hid hc
  have HT := Lib.hid hT
  have hokd : ∀ a b : Nat, okT l a b = (decide (a * b % l.length = 0) && someT (torF (a : Int) (b : Int) [l])) := fun a b => rfl
  have HOK := Lib.hid hokd
  have HNS := Lib.hid (fun (h : ¬ Shape l) a b => okT_shape h a b)
  have hpl := planeL_length l
  have HLS := Lib.hid (fun a2 c2 w' h => implLst a2 c2 (planeL l) w' (by omega) (planeL_bd l) h)
  have hrd : planeL l = rtTo (okT l) (fun _ => 0) 5 := rfl
  rw [hrd] at HLS hpl ⊢
  clear hc hT hokd hrd
  generalize okT l = ok at HOK HNS HLS hpl ⊢
  obtain ⟨f0, hf0⟩ : ∃ f0 : Nat → Nat, f0 = fun _ => 0 := ⟨_, rfl⟩
  have hf0z : ∀ a, f0 a = 0 := fun a => by rw [hf0]
  rw [← hf0] at HLS hpl ⊢
  have HF0 := Lib.hid hf0z
  clear hf0 hf0z
  go_enter Tryz.func53, Tryz.ntmps53
  go_wp2
  go_loopw [5, 6] (fun v i wr => ∃ j k : Nat, j ≤ 5 ∧ k = j + 1 ∧ i = .int .i64 k ∧ PrAt wr w.heap.size (rtTo ok f0 j) v ∧ Below w.heap.size w wr) (fun _ i _ => 6 - (intOf i).toNat)
  case atStart => exact ⟨0, 1, by omega, rfl, rfl, PrAt.nil _ _, Below.refl _ _⟩
  case round =>
    obtain ⟨j, k, hj, hkj, rfl, hpr, hb⟩ := hrel
    obtain ⟨wo, rfl⟩ : ∃ wo : World, wo = wr := ⟨_, rfl⟩
    have HKJ := Lib.hid hkj
    have HPO := Lib.hid hpr
    have HB := Lib.hid hb
    have hszo := hb.size
    have hk6 : k ≤ 6 := by omega
    have hk1 : 1 ≤ k := by omega
    have HJ := Lib.hid hj
    clear hkj hpr hb hj
    by_cases hlt : k ≤ 5
    · have i1 : (k : Int) ≤ 5 := by omega
      have HY := Lib.hid (fun (m h : Nat) (hh : h = m + 1) (h1 : ok k h = true) => (by
        have := gP_yes (ok := ok) (f := f0) (j := j) (m := m) (by rw [HF0.out]; exact Nat.zero_le _) (by rw [← HKJ.out, ← hh]; exact h1)
        rw [← HKJ.out, ← hh] at this
        exact this : gP ok f0 j h = gP ok f0 j m ++ [(k, h)]))
      have HNO := Lib.hid (fun (m h : Nat) (hh : h = m + 1) (h1 : ok k h = false) => (by
        have := gP_no (ok := ok) (f := f0) (j := j) (m := m) (by rw [← HKJ.out, ← hh]; exact h1)
        rw [← hh] at this
        exact this : gP ok f0 j h = gP ok f0 j m))
      have HGL := Lib.hid (fun m (hm : m ≤ 5) => gP_length ok f0 (j := j) (m := m) HJ.out hm)
      have HG0 := Lib.hid (gP_start (ok := ok) (f := f0) (j := j) (m := 0) (.inl rfl))
      have HG5 := Lib.hid (gP_end ok f0 j)
      generalize gP ok f0 j = G at HY HNO HGL HG0 HG5
      go_wp2
      go_loopw [5, 7] (fun v i wi => ∃ m h : Nat, 0 ≤ m ∧ m ≤ 5 ∧ h = m + 1 ∧ i = .int .i64 h ∧ PrAt wi w.heap.size (G m) v ∧ Below w.heap.size w wi) (fun _ i _ => 6 - (intOf i).toNat)
      case atStart => exact ⟨0, 1, Nat.le_refl _, Nat.zero_le _, rfl, rfl, by rw [HG0.out]; exact HPO.out, HB.out⟩
      case round =>
        obtain ⟨m, h, hjm, hm, hhm, rfl, hpr, hb⟩ := hrel
        have HHM := Lib.hid hhm
        have HPI := Lib.hid hpr
        have HBI := Lib.hid hb
        have hszi := hb.size
        have hgl := HGL.out m hm
        have hh6 : h ≤ 6 := by omega
        have hh1 : 1 ≤ h := by omega
        have HM := Lib.hid hm
        clear hhm hpr hb hjm
        by_cases hlh : h ≤ 5
        · have i2 : (h : Int) ≤ 5 := by omega
          have HYK := Lib.hid (HY.out m h HHM.out)
          have HNK := Lib.hid (HNO.out m h HHM.out)
          have hm5 : m + 1 ≤ 5 := by have := HHM.out; omega
          obtain ⟨n, hnG⟩ : ∃ n, n = (G m).length := ⟨_, rfl⟩
          have hn30 : n ≤ 30 := by rw [hnG]; exact hgl
          have HN := Lib.hid hnG.symm
          clear hgl hnG
          obtain ⟨av, cv, rfl, hmat⟩ := HPI.out
          have HMT := Lib.hid hmat
          clear hmat
          rw [HN.out] at HMT ⊢
          have HSHC := Lib.hid (HSH.out wr (HC.out.below HBI.out))
          by_cases hs : Shape l
          · have hl1 := hs.2.1
            rw [decide_eq_true hs] at HSHC
            have HOKK := Lib.hid (HOK.out k h)
            have HFTK := Lib.hid (HFT.out k h)
            have hN : (k : Int) * (h : Int) = ((k * h : Nat) : Int) := by norm_cast
            have hNb : k * h ≤ 36 := Nat.mul_le_mul hk6 hh6
            generalize k * h = N at hN hNb HOKK
            have sN : IntKind.i64.wrap (N : Int) = (N : Int) := IntWalk.i64_in _ (by omega)
            have hl0 : ¬ ((l.length : Int) = 0) := by omega
            have hrm : (N : Int).tmod (l.length : Int) = ((N % l.length : Nat) : Int) := by rw [Int.tmod_eq_emod_of_nonneg (by omega)]; norm_cast
            have hrm2 : (N : Int) % (l.length : Int) = ((N % l.length : Nat) : Int) := by norm_cast
            have hqb : N % l.length ≤ 36 := Nat.le_trans (Nat.mod_le _ _) hNb
            generalize N % l.length = q at hrm hrm2 hqb HOKK
            have sq : IntKind.i64.wrap (q : Int) = (q : Int) := IntWalk.i64_in _ (by omega)
            clear hs
            by_cases hq : q = 0
            · subst hq
              have hq0 : (((0 : Nat) : Int) != 0) = false := rfl
              have hok2 := HOKK.out
              rw [decide_eq_true rfl, Bool.true_and] at hok2
              have HOK2 := Lib.hid hok2
              clear hok2 HOKK
              generalize someT (torF (k : Int) (h : Int) [l]) = s at HOK2 HFTK
              go_wp2_with fail
              refine HSHC.out.mono ?_
              rintro e w1 ⟨rfl, hb1⟩
              obtain ⟨wB, hwB⟩ : ∃ wB, wB = w1.alloc (.cells #[.slice ad l.length c] 40) := ⟨_, rfl⟩
              have hbB : Below w1.heap.size w1 wB := by rw [hwB]; exact (Below.refl _ _).alloc (Nat.le_refl _) _
              have hblkB : wB.heap[w1.heap.size]? = some (.cells #[.slice ad l.length c] 40 (0, 0)) := by rw [hwB]; exact heap_alloc_new w1 _
              have HB1 := Lib.hid ((HBI.out.trans (hb1.mono hszi)).trans (hbB.mono (Nat.le_trans hszi hb1.size)))
              have hsz1 := HB1.out.size
              have HMT1 := Lib.hid ((HMT.out.below hb1).below hbB)
              have HCL := Lib.hid (HFTK.out w1.heap.size wB (HT.out.below HB1.out) (shpsAt_one hblkB (HC.out.below HB1.out)))
              have HWB := Lib.hid hwB
              clear hb1 hwB hbB hblkB
              cases s with
              | true =>
                have HST0 := Lib.hid (HYK.out HOK2.out)
                have HST := Lib.hid (show G (m + 1) = G m ++ [(k, h)] by rw [← HHM.out]; exact HST0.out)
                clear HYK HNK HST0
                go_wp2_with fail
                rw [← HWB.out]
                refine HCL.out.mono ?_
                rintro e w2 ⟨a2, c2, rfl, _, hb2⟩
                have HBW := Lib.hid (HB1.out.trans (hb2.mono hsz1))
                have hszW := HBW.out.size
                have HMTW := Lib.hid (HMT1.out.below hb2)
                clear hb2
                obtain ⟨vals, hown, hrows⟩ := HMTW.out
                have HRWS := Lib.hid hrows
                rw [rowsP_length, HN.out] at hown
                have HOWN3 := Lib.hid (show (w2.alloc (.cells #[.int .i64 (k : Int), .int .i64 (h : Int)] 3)).ownsRow w.heap.size 24 1 (.slice av n cv) n vals from hown.alloc _)
                have hsW : (w2.alloc (.cells #[.int .i64 (k : Int), .int .i64 (h : Int)] 3)).heap.size = w2.heap.size + 1 := by simp
                clear hown hrows
                go_wp2_with (at_builtin; refine wpList_app1 rfl (.tmp 39) (.tmp 43) 44 rfl w.heap.size 24 (.slice none 0 0) 1 24 Tryz.elemInts (.slice av n cv) n vals #[.slice (some ⟨w2.heap.size, 0, none⟩) 2 2] (w2.heap.size + 1) (0, 0) rfl rfl hsW HOWN3.out (by rfl) (by simp [Value.oneCell']) (by unfold maxLen; omega) (by omega) (by omega) ?_; intro g4 c4 w4 r1 r2 r3 r4 r5 r6)
                have hb4 : Below w.heap.size w w4 := (HBW.out.alloc hszW (.cells #[.int .i64 (k : Int), .int .i64 (h : Int)] 3)).trans r2
                have HP := Lib.hid (pair_push (a := k) (b := h) HN.out.symm HRWS.out hszW HOWN3.out r1 r3)
                have HB4 := Lib.hid hb4
                clear r1 r2 r3 r4 r5 r6 hb4 hsW
                go_wp2
                go_roundw
                case rel =>
                  refine ⟨m + 1, h + 1, Nat.zero_le _, by omega, by rw [HHM.out], by go_num, ⟨some ⟨g4, 0, none⟩, c4, ?_, ?_⟩, HB4.out⟩
                  · rw [HST.out, List.length_append, HN.out]; rfl
                  · rw [HST.out, List.length_append, HN.out]; exact HP.out
                case measure => simp [intOf]; omega
              | false =>
                have HST0 := Lib.hid (HNK.out HOK2.out)
                have HST := Lib.hid (show G (m + 1) = G m by rw [← HHM.out]; exact HST0.out)
                clear HYK HNK HST0
                go_wp2_with fail
                rw [← HWB.out]
                refine HCL.out.mono ?_
                rintro e w2 ⟨a2, c2, rfl, _, hb2⟩
                have HB2 := Lib.hid (HB1.out.trans (hb2.mono hsz1))
                have HPR := Lib.hid (show PrAt w2 w.heap.size (G m) (.slice av n cv) from ⟨av, cv, by rw [HN.out], by rw [HN.out]; exact HMT1.out.below hb2⟩)
                clear hb2
                go_wp2
                go_roundw
                case rel => exact ⟨m + 1, h + 1, Nat.zero_le _, by omega, by rw [HHM.out], by go_num, by rw [HST.out]; exact HPR.out, HB2.out⟩
                case measure => simp [intOf]; omega
            · have hq0 : ((q : Int) != 0) = true := by simp; omega
              have hq1 : (q != 0) = true := by simp; omega
              have hok2 := HOKK.out
              rw [decide_eq_false hq, Bool.false_and] at hok2
              have HST0 := Lib.hid (HNK.out hok2)
              have HST := Lib.hid (show G (m + 1) = G m by rw [← HHM.out]; exact HST0.out)
              clear HYK HNK hok2 HST0 HOKK hq
              go_wp2_with fail
              refine HSHC.out.mono ?_
              rintro e w1 ⟨rfl, hb1⟩
              have HB2 := Lib.hid (HBI.out.trans (hb1.mono hszi))
              have HPR := Lib.hid (show PrAt w1 w.heap.size (G m) (.slice av n cv) from ⟨av, cv, by rw [HN.out], by rw [HN.out]; exact HMT.out.below hb1⟩)
              clear hb1
              go_wp2
              go_roundw
              case rel => exact ⟨m + 1, h + 1, Nat.zero_le _, by omega, by rw [HHM.out], by go_num, by rw [HST.out]; exact HPR.out, HB2.out⟩
              case measure => simp [intOf]; omega
          · rw [decide_eq_false hs] at HSHC
            have HST0 := Lib.hid (HNK.out (HNS.out hs k h))
            have HST := Lib.hid (show G (m + 1) = G m by rw [← HHM.out]; exact HST0.out)
            clear HYK HNK HST0 hs
            go_wp2_with fail
            refine HSHC.out.mono ?_
            rintro e w1 ⟨rfl, hb1⟩
            have HB2 := Lib.hid (HBI.out.trans (hb1.mono hszi))
            have HPR := Lib.hid (show PrAt w1 w.heap.size (G m) (.slice av n cv) from ⟨av, cv, by rw [HN.out], by rw [HN.out]; exact HMT.out.below hb1⟩)
            clear hb1
            go_wp2
            go_roundw
            case rel => exact ⟨m + 1, h + 1, Nat.zero_le _, by omega, by rw [HHM.out], by go_num, by rw [HST.out]; exact HPR.out, HB2.out⟩
            case measure => simp [intOf]; omega
        · obtain rfl : m = 5 := by have := HHM.out; omega
          have hp5 := HPI.out
          rw [HG5.out, ← HKJ.out] at hp5
          have HP5 := Lib.hid hp5
          clear hp5
          go_wp2
          go_roundw
          case rel => exact ⟨k, k + 1, hlt, rfl, by go_num, HP5.out, HBI.out⟩
          case measure => simp [intOf]; omega
    · obtain rfl : j = 5 := by have := HKJ.out; have := HJ.out; omega
      obtain ⟨av, cv, rfl, hmat⟩ := HPO.out
      have HLC := Lib.hid (HLS.out av cv wo (hmat.matAt (rowsP_length _).symm))
      clear hmat
      go_wp2_with fail
      refine HLC.out.mono ?_
      rintro e w1 ⟨rfl, hb1⟩
      have HB1 := Lib.hid (HB.out.trans (hb1.mono hszo))
      clear hb1
      go_wp2
      go_ret3
      exact ⟨rfl, HB1.out⟩
end Go.Proofs.YtajmdgcnnipdoaaGreatDoor

/- PlaneT: the walk of the reference's TilesPlane. -/
namespace Go.Proofs.YtajmdgcnnipdoaaGreatDoor
open Go.RowKit

attribute [local go_sem ↓] Go.wp_at_zero Go.wp_at_succ

theorem i64_small {n : Nat} (h : n ≤ 25) : IntKind.i64.wrap (n : Int) = (n : Int) := IntWalk.i64_in _ (by omega)
theorem w64_small {n : Nat} (h : n ≤ 25) : wrap64 (n : Int) = (n : Int) := wrap_nat (by omega)
theorem ne_cast {n : Nat} (h : ¬ n = 0) : ((n : Int) != 0) = true := by simp; omega
set_option maxRecDepth 100000 in
set_option maxHeartbeats 3200000 in
theorem specTP (ad : Option Addr) (c : Nat) (l : List Cl) (w : World) (hn : l.length ≤ 1048576) (hc : CellsAt w ad (cls l)) :
    Calls Tryz.prog 54 #[.slice ad l.length c] w fun e w' => e = .returned (.tuple #[.int .i64 (leastL (planeL l)).1, .int .i64 (leastL (planeL l)).2, .bool (decide (0 < (planeL l).length))]) ∧ Below w.heap.size w w' := by
  have HSH := Lib.hid (fun w' h2 => specShape ad c l w' hn h2)
  have HFT := Lib.hid (fun (a b : Nat) g w' h2 => specFT (a : Int) (b : Int) (some ⟨g, 0, none⟩) 1 [l] w' (by simp) (fun p hp => by rw [List.mem_singleton.1 hp]; exact hn) h2)
  unfold FoundAt at HFT
  have HC := Lib.hid hc
  have hokd : ∀ a b : Nat, okT l a b = (decide (a * b % l.length = 0) && someT (torF (a : Int) (b : Int) [l])) := fun a b => rfl
  have HOK := Lib.hid hokd
  have HNONE := Lib.hid (fun (h : NoA (planeL l) 25) => plane_none h)
  have HFOUND := Lib.hid (fun (k j m h d : Nat) (h1 : k = j + 1) (h2 : h = m + 1) (h3 : NoA (planeL l) j) (h4 : NoW (planeL l) k m) (h5 : (h, d) ∈ planeL l) (h6 : h * d = k) => plane_found h1 h2 h3 h4 h5 h6)
  have HMEM := Lib.hid (fun (q : Nat × Nat) (h : (1 ≤ q.1 ∧ q.1 ≤ 5) ∧ (1 ≤ q.2 ∧ q.2 ≤ 5) ∧ okT l q.1 q.2 = true) => planeL_mem.2 h)
  have HAN := Lib.hid (fun (j k : Nat) (h1 : k = j + 1) (h2 : NoA (planeL l) j) (h3 : NoW (planeL l) k 5) => NoA.next h1 h2 h3)
  have HWN := Lib.hid (fun (k m h : Nat) (h1 : h = m + 1) (h2 : NoW (planeL l) k m) h3 => NoW.next (l := l) h1 h2 h3)
  have HA0 := Lib.hid (NoA.zero l)
  have HW0 := Lib.hid (fun k => NoW.zero l k)
  have hsn : ¬ Shape l → planeL l = [] := fun h => rtTo_none (fun a b => okT_shape h a b) 5
  have HSN := Lib.hid hsn
  clear hsn
  clear hc hokd
  generalize planeL l = L at HNONE HFOUND HMEM HAN HWN HA0 HW0 HSN ⊢
  by_cases hs : Shape l
  · have hl1 := hs.2.1
    rw [decide_eq_true hs] at HSH
    have hl0 : ¬ ((l.length : Int) = 0) := by omega
    clear HSN hs
    go_enter Tryz.func54, Tryz.ntmps54
    go_wp2
    go_loopw [5] (fun i wr => ∃ j k : Nat, j ≤ 25 ∧ k = j + 1 ∧ i = .int .i64 k ∧ NoA L j ∧ Below w.heap.size w wr) (fun i _ => 26 - (intOf i).toNat)
    case atStart => exact ⟨0, 1, by omega, rfl, rfl, HA0.out, Below.refl _ _⟩
    case round =>
      obtain ⟨j, k, hj, hkj, rfl, hna, hb⟩ := hrel
      obtain ⟨wo, rfl⟩ : ∃ wo : World, wo = wr := ⟨_, rfl⟩
      have HKJ := Lib.hid hkj
      have HNA := Lib.hid hna
      have HB := Lib.hid hb
      have hszo := hb.size
      have hk26 : k ≤ 26 := by omega
      have hk1 : 1 ≤ k := by omega
      have HJ := Lib.hid hj
      clear hkj hna hb hj
      by_cases hlt : k ≤ 25
      · have i1 : (k : Int) ≤ 25 := by omega
        have hkq : (k : Int).tmod (l.length : Int) = ((k % l.length : Nat) : Int) := by rw [Int.tmod_eq_emod_of_nonneg (by omega)]; norm_cast
        have hkq2 : (k : Int) % (l.length : Int) = ((k % l.length : Nat) : Int) := by norm_cast
        have hqb : k % l.length ≤ 25 := Nat.le_trans (Nat.mod_le _ _) hlt
        obtain ⟨q, hqd⟩ : ∃ q, q = k % l.length := ⟨_, rfl⟩
        rw [← hqd] at hkq hkq2 hqb
        have HQ := Lib.hid hqd
        clear hqd
        have sq := i64_small hqb
        go_wp2_with fail
        refine (HSH.out wo (HC.out.below HB.out)).mono ?_
        rintro e w1 ⟨rfl, hb1⟩
        have HB1 := Lib.hid (HB.out.trans (hb1.mono hszo))
        clear hb1
        go_wp2
        go_loopw [6] (fun i wi => ∃ m h : Nat, m ≤ 5 ∧ h = m + 1 ∧ i = .int .i64 h ∧ NoW L k m ∧ Below w.heap.size w wi) (fun i _ => 6 - (intOf i).toNat)
        case atStart => exact ⟨0, 1, Nat.zero_le _, rfl, rfl, HW0.out k, HB1.out⟩
        case round =>
          obtain ⟨m, h, hm, hhm, rfl, hnw, hb⟩ := hrel
          have HHM := Lib.hid hhm
          have HNW := Lib.hid hnw
          have HBI := Lib.hid hb
          have hszi := hb.size
          have hh6 : h ≤ 6 := by omega
          have hh1 : 1 ≤ h := by omega
          clear hhm hnw hb hm
          by_cases hlh : h ≤ 5
          · have i2 : (h : Int) ≤ 5 := by omega
            have hh0 : ¬ ((h : Int) = 0) := by omega
            have HW2F := Lib.hid (fun h3 => HWN.out k m h HHM.out HNW.out h3)
            have r1 : (k : Int).tmod (h : Int) = ((k % h : Nat) : Int) := by rw [Int.tmod_eq_emod_of_nonneg (by omega)]; norm_cast
            have r2 : (k : Int) % (h : Int) = ((k % h : Nat) : Int) := by norm_cast
            have r3 : k % h ≤ 25 := Nat.le_trans (Nat.mod_le _ _) hlt
            have d1 : (k : Int).tdiv (h : Int) = ((k / h : Nat) : Int) := by rw [Int.tdiv_eq_ediv_of_nonneg (by omega)]; norm_cast
            have d2 : (k : Int) / (h : Int) = ((k / h : Nat) : Int) := by norm_cast
            have d3 : k / h ≤ 25 := Nat.le_trans (Nat.div_le_self _ _) hlt
            have DM := Lib.hid (Nat.div_add_mod k h)
            obtain ⟨r, hr⟩ : ∃ r, r = k % h := ⟨_, rfl⟩
            obtain ⟨d, hd⟩ : ∃ d, d = k / h := ⟨_, rfl⟩
            rw [← hr] at r1 r2 r3 DM
            rw [← hd] at d1 d2 d3 DM
            have HR := Lib.hid hr
            have HD := Lib.hid hd
            clear hr hd
            have r4 := i64_small r3
            have d4 := i64_small d3
            have d5 := w64_small d3
            by_cases hr0 : r = 0
            · have e0 : ((r : Int) != 0) = false := by rw [hr0]; rfl
              have e0n : (r != 0) = false := by rw [hr0]; rfl
              have HR0 := Lib.hid hr0
              have HDK := Lib.hid (show h * d = k by have := DM.out; rw [hr0] at this; exact this)
              clear hr0
              by_cases hd5 : d ≤ 5
              · have e1 : decide ((5 : Int) < (d : Int)) = false := decide_eq_false (fun z => Nat.not_lt.2 hd5 (Int.ofNat_lt.1 z))
                have e1n : decide (5 < d) = false := decide_eq_false (Nat.not_lt.2 hd5)
                have hd1 : 1 ≤ d := by
                  rcases Nat.eq_zero_or_pos d with z | z
                  · have := HDK.out
                    rw [z, Nat.mul_zero] at this
                    exact absurd this.symm (Nat.ne_of_gt hk1)
                  · exact z
                have HUQ := Lib.hid (fun b (hb : h * b = k) => (Nat.eq_of_mul_eq_mul_left hh1 (hb.trans HDK.out.symm) : b = d))
                by_cases hq0 : q = 0
                · have e2 : ((q : Int) != 0) = false := by rw [hq0]; rfl
                  have e2n : (q != 0) = false := by rw [hq0]; rfl
                  have hokd : okT l h d = someT (torF (h : Int) (d : Int) [l]) := by rw [HOK.out, HDK.out, decide_eq_true (by rw [← HQ.out]; exact hq0), Bool.true_and]
                  have HOKD := Lib.hid hokd
                  clear hq0 hokd
                  obtain ⟨wB, hwB⟩ : ∃ wB, wB = wr.alloc (.cells #[.slice ad l.length c] 40) := ⟨_, rfl⟩
                  have hbB : Below wr.heap.size wr wB := by rw [hwB]; exact (Below.refl _ _).alloc (Nat.le_refl _) _
                  have hblkB : wB.heap[wr.heap.size]? = some (.cells #[.slice ad l.length c] 40 (0, 0)) := by rw [hwB]; exact heap_alloc_new wr _
                  have HBB := Lib.hid (HBI.out.trans (hbB.mono hszi))
                  have hszB := HBB.out.size
                  have HCL := Lib.hid (HFT.out h d wr.heap.size wB (shpsAt_one hblkB (HC.out.below HBB.out)))
                  have HWB := Lib.hid hwB
                  clear hwB hbB hblkB
                  generalize someT (torF (h : Int) (d : Int) [l]) = s at HOKD HCL
                  cases s with
                  | true =>
                    have hpm : (h, d) ∈ L := HMEM.out (h, d) ⟨⟨hh1, hlh⟩, ⟨hd1, hd5⟩, HOKD.out⟩
                    obtain ⟨f1, f2⟩ := HFOUND.out k j m h d HKJ.out HHM.out HNA.out HNW.out hpm HDK.out
                    have F1 := Lib.hid f1
                    have F2 := Lib.hid (decide_eq_true f2)
                    clear f1 f2 hpm
                    go_wp2_with fail
                    rw [← HWB.out]
                    refine HCL.out.mono ?_
                    rintro e w2 ⟨a2, c2, rfl, _, hb2⟩
                    have HB2 := Lib.hid (HBB.out.trans (hb2.mono hszB))
                    clear hb2
                    go_wp2
                    go_big_quiet (fail)
                    go_wp2
                    go_ret3
                    rw [F1.out, F2.out]
                    exact ⟨rfl, below_drewN HB2.out _⟩
                  | false =>
                    have HW2 := Lib.hid (HW2F.out (fun b hb _ _ hok => by rw [HUQ.out b hb, HOKD.out] at hok; cases hok))
                    go_wp2_with fail
                    rw [← HWB.out]
                    refine HCL.out.mono ?_
                    rintro e w2 ⟨a2, c2, rfl, _, hb2⟩
                    have HB2 := Lib.hid (HBB.out.trans (hb2.mono hszB))
                    clear hb2
                    go_wp2
                    go_roundw
                    case rel => exact ⟨h, h + 1, hlh, rfl, by go_num, HW2.out, HB2.out⟩
                    case measure => simp [intOf]; omega
                · have e2 := ne_cast hq0
                  have e2n : (q != 0) = true := bne_iff_ne.2 hq0
                  have HW2 := Lib.hid (HW2F.out (fun b hb _ _ hok => by rw [HOK.out, hb, decide_eq_false (by rw [← HQ.out]; exact hq0), Bool.false_and] at hok; cases hok))
                  clear hq0
                  go_wp2
                  go_roundw
                  case rel => exact ⟨h, h + 1, hlh, rfl, by go_num, HW2.out, HBI.out⟩
                  case measure => simp [intOf]; omega
              · have e1 : decide ((5 : Int) < (d : Int)) = true := decide_eq_true (Int.ofNat_lt.2 (Nat.lt_of_not_le hd5))
                have e1n : decide (5 < d) = true := decide_eq_true (Nat.lt_of_not_le hd5)
                have HUQ := Lib.hid (fun b (hb : h * b = k) => (Nat.eq_of_mul_eq_mul_left hh1 (hb.trans HDK.out.symm) : b = d))
                have HW2 := Lib.hid (HW2F.out (fun b hb _ hb5 _ => hd5 (by rw [← HUQ.out b hb]; exact hb5)))
                go_wp2
                go_roundw
                case rel => exact ⟨h, h + 1, hlh, rfl, by go_num, HW2.out, HBI.out⟩
                case measure => simp [intOf]; omega
            · have e0 := ne_cast hr0
              have e0n : (r != 0) = true := bne_iff_ne.2 hr0
              have HW2 := Lib.hid (HW2F.out (fun b hb _ _ _ => hr0 (by rw [HR.out, ← hb]; exact Nat.mul_mod_right _ _)))
              clear hr0
              go_wp2
              go_roundw
              case rel => exact ⟨h, h + 1, hlh, rfl, by go_num, HW2.out, HBI.out⟩
              case measure => simp [intOf]; omega
          · obtain rfl : m = 5 := by have := HHM.out; omega
            have HA2 := Lib.hid (HAN.out j k HKJ.out HNA.out HNW.out)
            go_wp2
            go_roundw
            case rel => exact ⟨k, k + 1, hlt, rfl, by go_num, HA2.out, HBI.out⟩
            case measure => simp [intOf]; omega
      · obtain rfl : j = 25 := by have := HKJ.out; have := HJ.out; omega
        have HL0 := Lib.hid (HNONE.out HNA.out)
        go_wp2
        go_ret3
        rw [HL0.out]
        exact ⟨rfl, HB.out⟩
  · rw [decide_eq_false hs] at HSH
    rw [HSN.out hs]
    clear hs HSN
    go_enter Tryz.func54, Tryz.ntmps54
    go_wp2
    go_loopw [5] (fun i wr => i = .int .i64 1 ∧ w = wr) (fun _ _ => 0)
    case atStart => exact ⟨rfl, rfl⟩
    case round =>
      obtain ⟨rfl, rfl⟩ := hrel
      go_wp2_with fail
      refine (HSH.out w HC.out).mono ?_
      rintro e w1 ⟨rfl, hb1⟩
      have HB1 := Lib.hid hb1
      clear hb1
      go_wp2
      go_ret3
      exact ⟨rfl, HB1.out⟩
end Go.Proofs.YtajmdgcnnipdoaaGreatDoor
