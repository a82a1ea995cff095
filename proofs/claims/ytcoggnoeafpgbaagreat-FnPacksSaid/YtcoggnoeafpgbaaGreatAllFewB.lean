/- AllFewB: parts laid together: SubsW, FewW, FewS. -/
import Derived.Test.YtcoggnoeafpgbaaGreatAllFewA
import Derived.Test.YtcoggnoeafpgbaaGreatPut0
import Derived.StillTailTactics
import Derived.IntWalk
import Derived.Test.YtcoggnoeafpgbaaGreatAllArea
import Derived.Test.YtcoggnoeafpgbaaGreatBlocks

/- SubsW: the walk of subsets: the parts of a mask, in rising order. -/
namespace Go.Proofs.YtcoggnoeafpgbaaGreat
open Go.RowKit

theorem one_made {w W : World} {e : Nat} {x : Value} (h : W.heap = w.heap.push (.cells #[x] e (0, 0))) : W.ownsRow w.heap.size e 1 (.slice (some ⟨w.heap.size, 0, none⟩) 1 1) 1 [x] := by
  refine ⟨by simp, .inr ⟨w.heap.size, 1, #[x], rfl, Nat.le_refl _, ?_, Nat.le_refl _, by decide, by simp, by simp⟩⟩
  rw [h]; simp
def zs (l : List Nat) : List Int := l.map fun i : Nat => (i : Int)
theorem zs_length (l : List Nat) : (zs l).length = l.length := by unfold zs; rw [List.length_map]
theorem zs_append (a b : List Nat) : zs (a ++ b) = zs a ++ zs b := by unfold zs; rw [List.map_append]
theorem zs_at (l : List Nat) (k : Nat) (h : k < l.length) : (ints (zs l))[k]? = some (.int .i64 ((l[k] : Nat) : Int)) := by
  rw [ints_at (zs l) k (by rw [zs_length]; exact h)]
  simp [zs]
theorem subL_small {m : Nat} (hp : pc m ≤ 16) {k : Nat} (hk : k ≤ 36) : 1 ≤ (subL m k).length ∧ (subL m k).length ≤ 65536 := by
  rw [subL_length]
  have h1 : (List.range k).countP (fun i => m.testBit i) ≤ pc m := by
    unfold pc
    rw [show 36 = k + (36 - k) by omega, List.range_add, List.countP_append]
    exact Nat.le_add_right _ _
  exact ⟨Nat.two_pow_pos _, Nat.le_trans (Nat.pow_le_pow_right (by decide) (Nat.le_trans h1 hp)) (by decide)⟩

set_option maxRecDepth 100000 in
set_option maxHeartbeats 1600000 in
theorem implSubs (m n : Nat) (w : World) (hm : m < 2 ^ n) (hn : n ≤ 36) (hp : pc m ≤ 16) :
    Calls Tryz.prog 49 #[.int .i64 m] w fun e w' => ∃ ad' cap', e = .returned (.slice ad' (subL m n).length cap') ∧ w'.ownsRow w.heap.size 3 1 (.slice ad' (subL m n).length cap') (subL m n).length (ints (zs (subL m n))) ∧ Below w.heap.size w w' := by
  have hm' : m < 68719476736 := Nat.lt_of_lt_of_le hm (Nat.pow_le_pow_right (by decide) hn)
  have HM := Lib.hid hm
  have HLEN := Lib.hid (fun k hk => subL_small hp (k := k) hk)
  have HSTOP := Lib.hid (fun k hk (h : m < 2 ^ k) => subL_stop h n hk)
  clear hm
  obtain ⟨wA, hwA⟩ : ∃ wA, wA = w.alloc (.cells #[.int .i64 0] 3) := ⟨_, rfl⟩
  have hbA : Below w.heap.size w wA := by rw [hwA]; exact (Below.refl _ _).alloc (Nat.le_refl _) _
  have hoA : wA.ownsRow w.heap.size 3 1 (.slice (some ⟨w.heap.size, 0, none⟩) 1 1) 1 [.int .i64 0] := by rw [hwA]; exact one_made rfl
  have HBA := Lib.hid hbA
  have HWA := Lib.hid hwA
  have HOA := Lib.hid hoA
  clear hbA hwA hoA
  go_enter Tryz.func49, Tryz.ntmps49
  go_wp2
  rw [← HWA.out]
  go_loopw [3, 4] (fun v i wr => ∃ k : Nat, k ≤ n ∧ i = .int .i64 k ∧ wr.ownsRow w.heap.size 3 1 v (subL m k).length (ints (zs (subL m k))) ∧ Below w.heap.size w wr) (fun _ i _ => n - (intOf i).toNat)
  case atStart => exact ⟨0, Nat.zero_le _, rfl, HOA.out, HBA.out⟩
  case round =>
    obtain ⟨k, hk, rfl, hown, hb⟩ := hrel
    obtain ⟨wo, rfl⟩ : ∃ wo : World, wo = wr := ⟨_, rfl⟩
    have HW := Lib.hid hown
    have HB := Lib.hid hb
    have hszr := hb.size
    obtain ⟨hl1, hl2⟩ := HLEN.out k (by omega)
    obtain ⟨ao, co, rfl, _⟩ := ownsRow_cells hown
    have hcap := (ownsRow_le_cap hown).1
    clear hown hb
    have hk64 : (k : Int) < 64 := by omega
    by_cases hz : m / 2 ^ k = 0
    · have hz1 : ((m : Int) / 2 ^ k != 0) = false := by
        have e : ((m : Int) / 2 ^ k) = ((m / 2 ^ k : Nat) : Int) := by norm_cast
        rw [e, hz]; rfl
      have hlt : m < 2 ^ k := by
        rcases Nat.lt_or_ge m (2 ^ k) with q | q
        · exact q
        · have := Nat.div_pos q (Nat.two_pow_pos k)
          omega
      have HE := Lib.hid (HSTOP.out k hk hlt)
      clear hz hlt
      go_wp2
      go_ret
      rw [HE.out]
      exact ⟨ao, co, rfl, HW.out, HB.out⟩
    · have hlt : k < n := by
        rcases Nat.lt_or_ge k n with h | h
        · exact h
        · exact absurd (Nat.div_eq_of_lt (Nat.lt_of_lt_of_le HM.out (Nat.pow_le_pow_right (by decide) h))) hz
      have hz1 : ((m : Int) / 2 ^ k != 0) = true := by
        have e : ((m : Int) / 2 ^ k) = ((m / 2 ^ k : Nat) : Int) := by norm_cast
        rw [e]; simp; omega
      clear hz
      cases hbit : m.testBit k with
      | true =>
        have hb1 : bits .and .i64 ((m : Int) / 2 ^ k) 1 = 1 := by rw [and_shr_one m k (by omega), if_pos hbit]
        have hsu : subL m (k + 1) = subL m k ++ (subL m k).map (· ||| 2 ^ k) := by rw [subL, hbit, if_pos rfl]
        have HSU := Lib.hid hsu
        have hlt3 := fun v hv => subL_lt m k v hv
        have HLT := Lib.hid hlt3
        have hl3 := (HLEN.out (k + 1) (by omega)).2
        rw [hsu, List.length_append, List.length_map] at hl3
        clear hsu hbit hlt3
        generalize subL m k = L at HW HSU HLT hl1 hl2 hl3 hcap ⊢
        obtain ⟨g0, c0, hv, hg0b, hg0⟩ := HW.out.form (show 0 < L.length by omega)
        cases hv
        have HC0 := Lib.hid (fun i u (h : (ints (zs L))[i]? = some u) => (by
          have hi : i < L.length := by
            rcases Nat.lt_or_ge i L.length with q | q
            · exact q
            · rw [List.getElem?_eq_none (by rw [ints_length, zs_length]; exact q)] at h; cases h
          exact (HW.out.cellAt i (by omega)).trans h : wo.cell? ⟨g0, i, none⟩ = some u))
        go_wp2
        go_loopw [3, 26] (fun v i wr => ∃ j : Nat, j ≤ L.length ∧ i = .int .i64 j ∧ wr.ownsRow w.heap.size 3 1 v (L.length + j) (ints (zs (L ++ (L.take j).map (· ||| 2 ^ k)))) ∧ (∀ i u, (ints (zs L))[i]? = some u → wr.cell? ⟨g0, i, none⟩ = some u) ∧ g0 < wr.heap.size ∧ Below w.heap.size w wr) (fun _ i _ => L.length - (intOf i).toNat)
        case atStart => exact ⟨0, Nat.zero_le _, rfl, by
          have e : L ++ (L.take 0).map (· ||| 2 ^ k) = L := by simp
          rw [e]; exact HW.out, HC0.out, hg0, HB.out⟩
        case round =>
          obtain ⟨j, hj, rfl, hown, hcell, hgl, hb⟩ := hrel
          obtain ⟨wi, rfl⟩ : ∃ wi : World, wi = wr := ⟨_, rfl⟩
          have HWI := Lib.hid hown
          have HCI := Lib.hid hcell
          have HBI := Lib.hid hb
          have hszi := hb.size
          obtain ⟨av, cv, rfl, _⟩ := ownsRow_cells hown
          clear hown hcell hb
          by_cases hjl : j < L.length
          · have i1 : (j : Int) < (L.length : Int) := by omega
            have x0 := HCI.out j _ (zs_at L j hjl)
            have hu := HLT.out _ (List.getElem_mem hjl)
            have htk : L ++ (L.take (j + 1)).map (· ||| 2 ^ k) = (L ++ (L.take j).map (· ||| 2 ^ k)) ++ [L[j] ||| 2 ^ k] := by
              rw [List.take_succ_eq_append_getElem hjl, List.map_append, List.append_assoc]
              rfl
            have HTK := Lib.hid htk
            clear htk
            generalize L[j] = u at x0 hu HTK
            have hu2 : u < 68719476736 := Nat.lt_of_lt_of_le hu (Nat.pow_le_pow_right (by decide) (by omega : k ≤ 36))
            have hor := or_pow u k (by omega) (by omega)
            have hkeep : ∀ (g' cap : Nat) (w2 : World), wi.grownBy w2 (Value.slice av (L.length + j) cv).ownBlock →
                (∀ g1 i u, (Value.slice av (L.length + j) cv).ownBlock = some g1 → (ints (zs (L ++ (L.take j).map (· ||| 2 ^ k))))[i]? = some u → w2.cell? ⟨g1, i, none⟩ = some u) →
                ∀ i u, (ints (zs L))[i]? = some u → w2.cell? ⟨g0, i, none⟩ = some u := by
              intro g' cap w2 q1 q2 i u hiu
              by_cases hb : (Value.slice av (L.length + j) cv).ownBlock = some g0
              · refine q2 g0 i u hb ?_
                rw [zs_append, ints_append, List.getElem?_append_left]
                · exact hiu
                · rcases Nat.lt_or_ge i (ints (zs L)).length with q | q
                  · exact q
                  · rw [List.getElem?_eq_none q] at hiu; cases hiu
              · rw [World.cell?_of_block (q1.block g0 hgl (fun e => hb e.symm))]
                exact HCI.out i u hiu
            have HKEEP := Lib.hid hkeep
            clear hu hu2 hkeep
            go_wp2_with (at_builtin; refine wpList_app1k rfl (.tmp 30) (.tmp 35) 22 rfl w.heap.size 3 (.int .i64 0) 8 Tryz.elemInt (.slice av (L.length + j) cv) (L.length + j) (ints (zs (L ++ (L.take j).map (· ||| 2 ^ k)))) _ _ _ rfl rfl rfl HWI.out (by rfl) (by unfold maxLen; omega) (by omega) (by omega) ?_; intro g' cap w2 q1 q2 q3 q4 q5)
            go_wp2
            go_roundw
            case rel =>
              refine ⟨j + 1, hjl, by go_num, ?_, HKEEP.out g' cap w2 q3 q5, by have := q2.size; omega, HBI.out.trans q2⟩
              rw [HTK.out, zs_append, ints_append, ← Nat.add_assoc]
              exact q1
            case measure => simp [intOf]; omega
          · obtain rfl : j = L.length := by omega
            go_wp2
            go_roundw
            case rel =>
              refine ⟨k + 1, hlt, by go_num, ?_, HBI.out⟩
              have q := HWI.out
              rw [List.take_length] at q
              rw [HSU.out, List.length_append, List.length_map]
              exact q
            case measure => simp [intOf]; omega
      | false =>
        have hb1 : bits .and .i64 ((m : Int) / 2 ^ k) 1 = 0 := by rw [and_shr_one m k (by omega), hbit]; rfl
        have HSU := Lib.hid (show subL m (k + 1) = subL m k by rw [subL, hbit, if_neg (by decide)])
        clear hbit
        go_wp2
        go_roundw
        case rel => exact ⟨k + 1, hlt, by go_num, by rw [HSU.out]; exact HW.out, HB.out⟩
        case measure => simp [intOf]; omega
end Go.Proofs.YtcoggnoeafpgbaaGreat

/- FewW: the walks of FewestBlockers, the reference's and the program's. -/
namespace Go.Proofs.YtcoggnoeafpgbaaGreat
open Go.RowKit

def fewR (b : Int) (xs : List Int) (ps : List (List Cl)) : Int := if SmallP b xs ps then (fewB (allL b.toNat xs ps) (regMask b xs) : Nat) else 0
theorem foldl_take_succ {α β : Type} (f : β → α → β) (b : β) {l : List α} {k : Nat} (h : k < l.length) : (l.take (k + 1)).foldl f b = f ((l.take k).foldl f b) l[k] := by
  rw [List.take_succ_eq_append_getElem h, List.foldl_append]
  rfl
theorem cellsTo_facts {B : Nat} {xs : List Int} : ∀ k, ∀ c ∈ cellsTo B xs k, ∃ X Y : Nat, c = ⟨(X : Int), (Y : Int)⟩
  | 0, c, h => by simp [cellsTo] at h
  | k + 1, c, h => by
    rw [cellsTo] at h
    rcases List.mem_append.1 h with h | h
    · exact cellsTo_facts k c h
    · unfold rowC at h
      obtain ⟨i, _, rfl⟩ := List.mem_map.1 h
      exact ⟨i, k, rfl⟩
/-- What the walks want of a small region. -/
theorem small_facts {B : Nat} {xs : List Int} (hr : Reg (B : Int) xs) (ha : areaR B xs ≤ 12) :
    pc (regMask B xs) ≤ 12 ∧ (smBits 36 (regMask B xs)).length ≤ 12 ∧ (cellsTo B xs xs.length).length = (smBits 36 (regMask B xs)).length ∧ (cellsTo B xs xs.length).map (pbit B) = smBits 36 (regMask B xs) := by
  have hnat : ∀ x ∈ regN xs, x < 2 ^ B := by have := reg_nat hr; rwa [Int.toNat_natCast] at this
  have hb6 : B ≤ 6 := by have := hr.1.2; omega
  have h1 := cellsTo_length hnat (show B ≤ 36 by omega) xs.length (Nat.le_refl _)
  have h2 := cellsR_place hr
  have hM := regMask_lt hr
  have hn : xs.length * B ≤ 6 * 6 := Nat.mul_le_mul hr.2.1.2 hb6
  have hlt : regMask (B : Int) xs < 2 ^ (xs.length * B) := by
    unfold regMask
    rw [Int.toNat_natCast]
    exact maskTo_lt hnat xs.length (by rw [regN_length]; exact Nat.le_refl _)
  have e : smBits 36 (regMask B xs) = smBits (xs.length * B) (regMask B xs) := smBits_of_zero _ _ 36 (by omega) (Nat.div_eq_of_lt hlt)
  unfold cellsR at h2
  rw [if_pos hr, Int.toNat_natCast, ← e] at h2
  have h3 : (cellsTo B xs xs.length).length = (smBits 36 (regMask B xs)).length := by rw [← h2, List.length_map]
  have h4 : (areaTo xs xs.length : Int) ≤ 12 := by
    unfold areaR at ha
    rwa [if_pos hr] at ha
  have h5 := smBits_all (n := 36) hM (Nat.le_refl _)
  exact ⟨by omega, by omega, h3, h2⟩

set_option maxRecDepth 100000 in
set_option maxHeartbeats 3200000 in
theorem implFB_yes (B : Nat) (ad : Option Addr) (c : Nat) (xs : List Int) (sa : Option Addr) (cs : Nat) (ps : List (List Cl)) (w : World) (hn : xs.length ≤ 1048576) (hnp : ps.length ≤ 1048576) (hl : ∀ p ∈ ps, p.length ≤ 1048576) (hc : CellsAt w ad (ints xs)) (hcp : ShpsAt w sa ps) (hs : SmallP (B : Int) xs ps) :
    Calls Tryz.prog 23 #[.agg #[.int .i64 B, .slice ad xs.length c], .slice sa ps.length cs] w fun e w' => e = .returned (.tuple #[.int .i64 (fewB (allL B xs ps) (regMask B xs) : Nat), .bool true]) ∧ Below w.heap.size w w' := by
  have hsm := fun w' h1 h2 => implSm (B : Int) ad c xs sa cs ps w' hn hnp hl h1 h2
  rw [decide_eq_true hs] at hsm
  obtain ⟨⟨hr, hp⟩, ha⟩ := hs
  obtain ⟨hpc, _, _, _⟩ := small_facts hr ha
  have hM := regMask_lt hr
  have hag := few_agree (A := allL B xs ps) hM (blocksL_full hr hp)
  have HAL := Lib.hid (fun w' h1 h2 => implAll B ad c xs sa cs ps w' hr hp h1 h2)
  have HMK := Lib.hid (fun w' h1 => implMask B ad c xs w' hr h1)
  have hlen := allL_length hr hp
  have HSM := Lib.hid (allL_small hr ps)
  have HC := Lib.hid hc
  have HCP := Lib.hid hcp
  have HISM := Lib.hid hsm
  clear hc hcp hl hsm hr hp ha
  generalize fewB (allL B xs ps) (regMask B xs) = r0 at hag ⊢
  generalize allL B xs ps = A at HAL hlen HSM hag
  generalize regMask (B : Int) xs = M at HMK hM hpc hag
  have HSUB := Lib.hid (fun w' => implSubs M 36 w' hM (Nat.le_refl _) (by omega))
  have HLT := Lib.hid (fun v (h : v ∈ partsL M) => subL_lt M 36 v h)
  have hF : partsL M = subL M 36 := rfl
  have hfl := (subL_small (m := M) (by omega) (Nat.le_refl 36)).2
  rw [← hF] at HSUB hfl
  generalize partsL M = F at hag HSUB HLT hfl
  have HAG := Lib.hid hag
  clear hF hag hpc
  obtain ⟨wA, hwA⟩ : ∃ wA, wA = w.alloc (.cells #[.int .i64 B, .slice ad xs.length c] 29) := ⟨_, rfl⟩
  have hbA : Below w.heap.size w wA := by rw [hwA]; exact (Below.refl _ _).alloc (Nat.le_refl _) _
  have hzA : wA.heap.size = w.heap.size + 1 := by rw [hwA]; simp
  have hblkA : wA.heap[w.heap.size]? = some (.cells #[.int .i64 B, .slice ad xs.length c] 29 (0, 0)) := by rw [hwA]; exact heap_alloc_new w _
  have HBA := Lib.hid hbA
  have HBLKA := Lib.hid hblkA
  have HWA := Lib.hid hwA
  have hszA := hbA.size
  clear hbA hblkA hwA
  go_enter Tryz.func23, Tryz.ntmps23
  go_wp2_with fail
  rw [← HWA.out]
  refine (HISM.out wA (HC.out.below HBA.out) (HCP.out.below HBA.out)).mono ?_
  rintro e w1 ⟨rfl, hb1⟩
  have HB1 := Lib.hid (HBA.out.trans (hb1.mono hszA))
  have HX1 := Lib.hid hb1
  have hsz1 := HB1.out.size
  have hs1 := hb1.size
  have hblk1 := (hb1.block w.heap.size (by omega)).trans HBLKA.out
  have x10 : w1.cell? ⟨w.heap.size, 0, none⟩ = some (.int .i64 B) := by rw [cell_of_row w1 _ 0 _ _ _ hblk1]; rfl
  have x11 : w1.cell? ⟨w.heap.size, 1, none⟩ = some (.slice ad xs.length c) := by rw [cell_of_row w1 _ 1 _ _ _ hblk1]; rfl
  clear hblk1 hb1
  go_wp2_with fail
  refine (HAL.out w1 (HC.out.below HB1.out) (HCP.out.below HB1.out)).mono ?_
  rintro e w2 ⟨a2, c2, rfl, ho2, hb2⟩
  have HB2 := Lib.hid (HB1.out.trans (hb2.mono hsz1))
  have HX2 := Lib.hid (HX1.out.trans (hb2.mono hs1))
  have hsz2 := HB2.out.size
  have hs2 := HX2.out.size
  have hblk2 := (HX2.out.block w.heap.size (by omega)).trans HBLKA.out
  have x20 : w2.cell? ⟨w.heap.size, 0, none⟩ = some (.int .i64 B) := by rw [cell_of_row w2 _ 0 _ _ _ hblk2]; rfl
  have x21 : w2.cell? ⟨w.heap.size, 1, none⟩ = some (.slice ad xs.length c) := by rw [cell_of_row w2 _ 1 _ _ _ hblk2]; rfl
  have HA2 := Lib.hid (ownsRow_cellsAt ho2)
  clear hblk2 hb2 ho2 x10 x11
  go_wp2_with fail
  refine (HMK.out w2 (HC.out.below HB2.out)).mono ?_
  rintro e w3 ⟨rfl, hb3⟩
  have HB3 := Lib.hid (HB2.out.trans (hb3.mono hsz2))
  have hsz3 := HB3.out.size
  have HA3 := Lib.hid (HA2.out.below hb3)
  clear hb3 x20 x21
  go_wp2_with fail
  refine (HSUB.out w3).mono ?_
  rintro e w4 ⟨a4, c4, rfl, ho4, hb4⟩
  have HB4 := Lib.hid (HB3.out.trans (hb4.mono hsz3))
  have hsz4 := HB4.out.size
  have HA4 := Lib.hid (HA3.out.below hb4)
  have HF4 := Lib.hid (ownsRow_cellsAt ho4)
  clear hb4 ho4
  go_wp2
  go_loopw [7, 8, 22] (fun bv fv i wr => ∃ (k : Nat) (st : Option Nat), k ≤ F.length ∧ i = .int .i64 k ∧ st = (F.take k).foldl (stepP A) none ∧ (∀ v, st = some v → v < 68719476736) ∧ bv = .int .i64 (st.getD 0 : Nat) ∧ fv = .bool st.isSome ∧ Below w4.heap.size w4 wr) (fun _ _ i _ => F.length - (intOf i).toNat)
  case atStart => exact ⟨0, none, Nat.zero_le _, rfl, rfl, (fun v h => by cases h), rfl, rfl, Below.refl _ _⟩
  case round =>
    obtain ⟨k, st, hk, rfl, hst, hsb, rfl, rfl, hb⟩ := hrel
    have HST := Lib.hid hst
    have HSB := Lib.hid hsb
    have HB := Lib.hid hb
    have hszr := hb.size
    clear hst hsb hb
    by_cases hlt : k < F.length
    · obtain ⟨g, off, hga, hg, hcc⟩ := HF4.out.open (by rw [ints_length, zs_length]; omega)
      have x0 := (HB.out.cell (p := ⟨g, off + k, none⟩) hg).trans (hcc k _ (zs_at F k hlt))
      have hu := HLT.out _ (List.getElem_mem hlt)
      have hstep := foldl_take_succ (stepP A) none hlt
      rw [← HST.out] at hstep
      have HSTEP := Lib.hid hstep
      have i1 : (k : Int) < (F.length : Int) := by omega
      clear hcc hstep
      generalize F[k] = u at x0 hu HSTEP
      have hu36 : u < 68719476736 := hu
      have hwu : IntKind.u64.wrap (u : Int) = (u : Int) := IntWalk.u64_in _ (by omega)
      have HBL := Lib.hid (implBlocks a2 c2 A u wr (by omega) HSM.out (by omega) (HA4.out.below HB.out))
      have HONE := Lib.hid (onesPc u hu36 wr)
      subst hga
      clear hu
      cases st with
      | none =>
        have hsp : stepP A none u = if blocksL A u = true then some u else none := rfl
        rw [hsp] at HSTEP
        clear hsp
        cases hbl : blocksL A u with
        | true =>
          rw [hbl] at HBL
          rw [hbl, if_pos rfl] at HSTEP
          clear hbl
          go_wp2_with fail
          refine HBL.out.mono ?_
          rintro e w6 ⟨rfl, hb6⟩
          have HB6 := Lib.hid (HB.out.trans (hb6.mono hszr))
          clear hb6
          go_wp2
          go_roundw
          case rel => exact ⟨k + 1, some u, hlt, by go_num, HSTEP.out.symm, (fun v h => by cases h; exact hu36), rfl, rfl, HB6.out⟩
          case measure => simp [intOf]; omega
        | false =>
          rw [hbl] at HBL
          rw [hbl, if_neg (by decide)] at HSTEP
          clear hbl
          go_wp2_with fail
          refine HBL.out.mono ?_
          rintro e w6 ⟨rfl, hb6⟩
          have HB6 := Lib.hid (HB.out.trans (hb6.mono hszr))
          clear hb6
          go_wp2
          go_roundw
          case rel => exact ⟨k + 1, none, hlt, by go_num, HSTEP.out.symm, (fun v h => by cases h), rfl, rfl, HB6.out⟩
          case measure => simp [intOf]; omega
      | some b0 =>
        have hb36 := HSB.out b0 rfl
        have hsp : stepP A (some b0) u = if pc u < pc b0 ∧ blocksL A u = true then some u else some b0 := rfl
        rw [hsp] at HSTEP
        clear hsp
        have hwb : IntKind.u64.wrap (b0 : Int) = (b0 : Int) := IntWalk.u64_in _ (by omega)
        have HONB := Lib.hid (onesPc b0 hb36 wr)
        generalize hpu : pc u = pu at HONE HSTEP
        generalize hpb : pc b0 = pb at HONB HSTEP
        clear hpu hpb
        by_cases hq : pu < pb
        · have g1 : decide ((pu : Int) < (pb : Int)) = true := decide_eq_true (by omega)
          have g2 : decide (pu < pb) = true := decide_eq_true hq
          cases hbl : blocksL A u with
          | true =>
            rw [hbl] at HBL
            rw [hbl, if_pos ⟨hq, rfl⟩] at HSTEP
            clear hbl hq
            go_wp2_with fail
            refine HONE.out.mono ?_
            rintro e w5 ⟨rfl, rfl⟩
            go_wp2_with fail
            refine HONB.out.mono ?_
            rintro e w5 ⟨rfl, rfl⟩
            go_wp2_with fail
            refine HBL.out.mono ?_
            rintro e w6 ⟨rfl, hb6⟩
            have HB6 := Lib.hid (HB.out.trans (hb6.mono hszr))
            clear hb6
            go_wp2
            go_roundw
            case rel => exact ⟨k + 1, some u, hlt, by go_num, HSTEP.out.symm, (fun v h => by cases h; exact hu36), rfl, rfl, HB6.out⟩
            case measure => simp [intOf]; omega
          | false =>
            rw [hbl] at HBL
            rw [hbl, if_neg (fun q : _ ∧ _ => by cases q.2)] at HSTEP
            clear hbl hq
            go_wp2_with fail
            refine HONE.out.mono ?_
            rintro e w5 ⟨rfl, rfl⟩
            go_wp2_with fail
            refine HONB.out.mono ?_
            rintro e w5 ⟨rfl, rfl⟩
            go_wp2_with fail
            refine HBL.out.mono ?_
            rintro e w6 ⟨rfl, hb6⟩
            have HB6 := Lib.hid (HB.out.trans (hb6.mono hszr))
            clear hb6
            go_wp2
            go_roundw
            case rel => exact ⟨k + 1, some b0, hlt, by go_num, HSTEP.out.symm, (fun v h => by cases h; exact hb36), rfl, rfl, HB6.out⟩
            case measure => simp [intOf]; omega
        · have g1 : decide ((pu : Int) < (pb : Int)) = false := decide_eq_false (by omega)
          have g2 : decide (pu < pb) = false := decide_eq_false hq
          rw [if_neg (fun q : _ ∧ _ => hq q.1)] at HSTEP
          clear hq
          go_wp2_with fail
          refine HONE.out.mono ?_
          rintro e w5 ⟨rfl, rfl⟩
          go_wp2_with fail
          refine HONB.out.mono ?_
          rintro e w5 ⟨rfl, rfl⟩
          go_wp2
          go_roundw
          case rel => exact ⟨k + 1, some b0, hlt, by go_num, HSTEP.out.symm, (fun v h => by cases h; exact hb36), rfl, rfl, HB.out⟩
          case measure => simp [intOf]; omega
    · obtain rfl : k = F.length := by omega
      have hst := HST.out
      rw [List.take_length, HAG.out] at hst
      subst hst
      go_wp2
      go_ret2
      exact ⟨rfl, HB4.out.trans (HB.out.mono hsz4)⟩

set_option maxRecDepth 100000 in
set_option maxHeartbeats 1600000 in
theorem implFB (b : Int) (ad : Option Addr) (c : Nat) (xs : List Int) (sa : Option Addr) (cs : Nat) (ps : List (List Cl)) (w : World) (hn : xs.length ≤ 1048576) (hnp : ps.length ≤ 1048576) (hl : ∀ p ∈ ps, p.length ≤ 1048576) (hc : CellsAt w ad (ints xs)) (hcp : ShpsAt w sa ps) :
    Calls Tryz.prog 23 #[.agg #[.int .i64 b, .slice ad xs.length c], .slice sa ps.length cs] w fun e w' => e = .returned (.tuple #[.int .i64 (fewR b xs ps), .bool (decide (SmallP b xs ps))]) ∧ Below w.heap.size w w' := by
  by_cases hs : SmallP b xs ps
  · obtain ⟨B, rfl⟩ := Int.eq_ofNat_of_zero_le (by have := hs.1.1.1.1; omega : 0 ≤ b)
    rw [decide_eq_true hs, show fewR B xs ps = (fewB (allL B xs ps) (regMask B xs) : Nat) from if_pos hs]
    exact implFB_yes B ad c xs sa cs ps w hn hnp hl hc hcp hs
  · rw [decide_eq_false hs, show fewR b xs ps = 0 from if_neg hs]
    have hsm := fun w' h1 h2 => implSm b ad c xs sa cs ps w' hn hnp hl h1 h2
    rw [decide_eq_false hs] at hsm
    have HC := Lib.hid hc
    have HCP := Lib.hid hcp
    have HISM := Lib.hid hsm
    clear hc hcp hl hsm hs
    obtain ⟨wA, hwA⟩ : ∃ wA, wA = w.alloc (.cells #[.int .i64 b, .slice ad xs.length c] 29) := ⟨_, rfl⟩
    have hbA : Below w.heap.size w wA := by rw [hwA]; exact (Below.refl _ _).alloc (Nat.le_refl _) _
    have HBA := Lib.hid hbA
    have HWA := Lib.hid hwA
    have hszA := hbA.size
    clear hbA hwA
    go_enter Tryz.func23, Tryz.ntmps23
    go_wp2_with fail
    rw [← HWA.out]
    refine (HISM.out wA (HC.out.below HBA.out) (HCP.out.below HBA.out)).mono ?_
    rintro e w1 ⟨rfl, hb1⟩
    have HB1 := Lib.hid (HBA.out.trans (hb1.mono hszA))
    clear hb1
    go_wp2
    go_ret2
    exact ⟨rfl, HB1.out⟩
end Go.Proofs.YtcoggnoeafpgbaaGreat

/- FewS: the walk of the reference's FewestBlockers. -/
namespace Go.Proofs.YtcoggnoeafpgbaaGreat
open Go.RowKit

set_option maxRecDepth 100000 in
set_option maxHeartbeats 3200000 in
theorem specFB_yes (B : Nat) (ad : Option Addr) (c : Nat) (xs : List Int) (sa : Option Addr) (cs : Nat) (ps : List (List Cl)) (w : World) (hn : xs.length ≤ 1048576) (hnp : ps.length ≤ 1048576) (hl : ∀ p ∈ ps, p.length ≤ 1048576) (hc : CellsAt w ad (ints xs)) (hcp : ShpsAt w sa ps) (hs : SmallP (B : Int) xs ps) :
    Calls Tryz.prog 24 #[.agg #[.int .i64 B, .slice ad xs.length c], .slice sa ps.length cs] w fun e w' => e = .returned (.tuple #[.int .i64 (fewB (allL B xs ps) (regMask B xs) : Nat), .bool true]) ∧ Below w.heap.size w w' := by
  have hsm := fun w' h1 h2 => specFine (B : Int) ad c xs sa cs ps w' hn hnp hl h1 h2
  rw [decide_eq_true hs] at hsm
  obtain ⟨⟨hr, hp⟩, ha⟩ := hs
  obtain ⟨hpc, hbl, hcl, hpl⟩ := small_facts hr ha
  have hM := regMask_lt hr
  have hb6 : B ≤ 6 := by have := hr.1.2; omega
  have HAL := Lib.hid (fun w' h1 h2 => specAll B ad c xs sa cs ps w' hr hp h1 h2)
  have HMK := Lib.hid (fun w' h1 => specMask B ad c xs w' hr h1)
  have HCE := Lib.hid (fun w' h1 => specCellsOf B ad c xs w' hr h1)
  have HCF := Lib.hid (fun c h => cellsTo_facts (B := B) (xs := xs) xs.length c h)
  have hlen := allL_length hr hp
  have HSM := Lib.hid (allL_small hr ps)
  have HC := Lib.hid hc
  have HCP := Lib.hid hcp
  have HISM := Lib.hid hsm
  clear hc hcp hl hsm hr hp ha
  have hval : fewB (allL B xs ps) (regMask B xs) = ((partsL (regMask B xs)).foldl (stepQ (allL B xs ps)) (regMask B xs, pc (regMask B xs))).1 := rfl
  rw [hval]
  clear hval
  generalize allL B xs ps = A at HAL hlen HSM ⊢
  have hpcM : pc (regMask B xs) = (smBits 36 (regMask B xs)).length := (smBits_all hM (Nat.le_refl _)).symm
  generalize cellsTo B xs xs.length = L at HCE HCF hcl hpl
  have hasc := smBits_asc 36 (regMask B xs)
  have hblt := fun p (h : p ∈ smBits 36 (regMask B xs)) => smBits_lt h
  have hdep := fun k hk => subL_dep (regMask B xs) 36 k hk
  have hFl : (partsL (regMask B xs)).length = 2 ^ (smBits 36 (regMask B xs)).length := (subL_dep (regMask B xs) 36 0 (by rw [subL_length]; exact Nat.two_pow_pos _)).2
  have hF : partsL (regMask B xs) = subL (regMask B xs) 36 := rfl
  rw [← hF] at hdep
  generalize regMask (B : Int) xs = M at HMK hM hpcM hasc hblt hdep hFl hbl hcl hpl hpc ⊢
  generalize partsL M = F at hdep hFl ⊢
  generalize smBits 36 M = P at hasc hblt hdep hFl hbl hcl hpl hpcM
  have hdl := fun code j (hj : j ≤ P.length) => depTo_lt hasc code j hj 36 (fun i hi => by
    rw [List.getD_eq_getElem?_getD, List.getElem?_eq_getElem (by omega)]
    exact hblt _ (List.getElem_mem _))
  have hdp := fun code => depTo_pc hasc hblt code P.length (Nat.le_refl _)
  have hpl2 : ∀ i (hi : i < L.length), ∃ hp : i < P.length, pbit B L[i] = P[i] := by
    intro i hi
    have h1 : (L.map (pbit B))[i]? = some (pbit B L[i]) := by rw [List.getElem?_map, List.getElem?_eq_getElem hi]; rfl
    have hip : i < P.length := by omega
    rw [hpl, List.getElem?_eq_getElem hip] at h1
    exact ⟨hip, (Option.some.inj h1).symm⟩
  have HDEP := Lib.hid (fun k hk => (hdep k hk).1)
  have HDL := Lib.hid hdl
  have HDP := Lib.hid hdp
  have HPL := Lib.hid hpl2
  have HBLT := Lib.hid hblt
  have HPC := Lib.hid hpcM
  have hN : F.length ≤ 4096 := by rw [hFl]; exact Nat.le_trans (Nat.pow_le_pow_right (by decide) hbl) (by decide)
  have hpw : ((2 : Int) ^ L.length) = (F.length : Int) := by rw [hcl, hFl]; norm_cast
  have hpw1 : wrap64 ((2 : Int) ^ L.length) = (F.length : Int) := by rw [hpw]; exact IntWalk.wrap64_in _ (by omega)
  have hpw2 : IntKind.i64.wrap ((2 : Int) ^ L.length) = (F.length : Int) := by rw [IntWalk.i64_left]; exact hpw1
  have hL12 : L.length ≤ 12 := by omega
  have hLi : (L.length : Int) < 64 := by omega
  have hPL : P.length = L.length := hcl.symm
  have hM36 : M < 68719476736 := hM
  clear hdep hdl hdp hpl2 hasc hblt hpl hF hFl hpcM hpc hM hbl hcl hpw
  obtain ⟨wA, hwA⟩ : ∃ wA, wA = w.alloc (.cells #[.int .i64 B, .slice ad xs.length c] 29) := ⟨_, rfl⟩
  have hbA : Below w.heap.size w wA := by rw [hwA]; exact (Below.refl _ _).alloc (Nat.le_refl _) _
  have hzA : wA.heap.size = w.heap.size + 1 := by rw [hwA]; simp
  have hblkA : wA.heap[w.heap.size]? = some (.cells #[.int .i64 B, .slice ad xs.length c] 29 (0, 0)) := by rw [hwA]; exact heap_alloc_new w _
  have HBA := Lib.hid hbA
  have HBLKA := Lib.hid hblkA
  have HWA := Lib.hid hwA
  have hszA := hbA.size
  clear hbA hblkA hwA
  go_enter Tryz.func24, Tryz.ntmps24
  go_wp2_with fail
  rw [← HWA.out]
  refine (HISM.out wA (HC.out.below HBA.out) (HCP.out.below HBA.out)).mono ?_
  rintro e w1 ⟨rfl, hb1⟩
  have HB1 := Lib.hid (HBA.out.trans (hb1.mono hszA))
  have HX1 := Lib.hid hb1
  have hsz1 := HB1.out.size
  have hs1 := hb1.size
  have hblk1 := (hb1.block w.heap.size (by omega)).trans HBLKA.out
  have x10 : w1.cell? ⟨w.heap.size, 0, none⟩ = some (.int .i64 B) := by rw [cell_of_row w1 _ 0 _ _ _ hblk1]; rfl
  have x11 : w1.cell? ⟨w.heap.size, 1, none⟩ = some (.slice ad xs.length c) := by rw [cell_of_row w1 _ 1 _ _ _ hblk1]; rfl
  clear hblk1 hb1
  go_wp2_with fail
  refine (HAL.out w1 (HC.out.below HB1.out) (HCP.out.below HB1.out)).mono ?_
  rintro e w2 ⟨a2, c2, rfl, ho2, hb2⟩
  have HB2 := Lib.hid (HB1.out.trans (hb2.mono hsz1))
  have HX2 := Lib.hid (HX1.out.trans (hb2.mono hs1))
  have hsz2 := HB2.out.size
  have hs2 := HX2.out.size
  have hblk2 := (HX2.out.block w.heap.size (by omega)).trans HBLKA.out
  have x20 : w2.cell? ⟨w.heap.size, 0, none⟩ = some (.int .i64 B) := by rw [cell_of_row w2 _ 0 _ _ _ hblk2]; rfl
  have x21 : w2.cell? ⟨w.heap.size, 1, none⟩ = some (.slice ad xs.length c) := by rw [cell_of_row w2 _ 1 _ _ _ hblk2]; rfl
  have HA2 := Lib.hid (ownsRow_cellsAt ho2)
  clear hblk2 hb2 ho2 x10 x11
  go_wp2_with fail
  refine (HCE.out w2 (HC.out.below HB2.out)).mono ?_
  rintro e w3 ⟨a3, c3, rfl, ho3, hb3⟩
  have HB3 := Lib.hid (HB2.out.trans (hb3.mono hsz2))
  have HX3 := Lib.hid (HX2.out.trans (hb3.mono hs2))
  have hsz3 := HB3.out.size
  have hs3 := HX3.out.size
  have hblk3 := (HX3.out.block w.heap.size (by omega)).trans HBLKA.out
  have x30 : w3.cell? ⟨w.heap.size, 0, none⟩ = some (.int .i64 B) := by rw [cell_of_row w3 _ 0 _ _ _ hblk3]; rfl
  have x31 : w3.cell? ⟨w.heap.size, 1, none⟩ = some (.slice ad xs.length c) := by rw [cell_of_row w3 _ 1 _ _ _ hblk3]; rfl
  have HA3 := Lib.hid (HA2.out.below hb3)
  have HL3 := Lib.hid (ownsRow_cellsAt ho3)
  clear hblk3 hb3 ho3 x20 x21
  go_wp2_with fail
  refine (HMK.out w3 (HC.out.below HB3.out)).mono ?_
  rintro e w4 ⟨rfl, hb4⟩
  have HB4 := Lib.hid (HB3.out.trans (hb4.mono hsz3))
  have HX4 := Lib.hid (HX3.out.trans (hb4.mono hs3))
  have hsz4 := HB4.out.size
  have hs4 := HX4.out.size
  have HBLK4 := Lib.hid ((HX4.out.block w.heap.size (by omega)).trans HBLKA.out)
  have HA4 := Lib.hid (HA3.out.below hb4)
  have HL4 := Lib.hid (HL3.out.below hb4)
  have hw4 : w.heap.size < w4.heap.size := by omega
  clear hb4 x30 x31
  go_wp2
  go_loopw [8, 9, 10] (fun bv sv i wr => ∃ (k : Nat) (st : Nat × Nat), k ≤ F.length ∧ i = .int .i64 k ∧ st = (F.take k).foldl (stepQ A) (M, pc M) ∧ (st.1 < 68719476736 ∧ st.2 ≤ 36) ∧ bv = .int .i64 (st.1 : Nat) ∧ sv = .int .i64 (st.2 : Nat) ∧ Below w4.heap.size w4 wr) (fun _ _ i _ => F.length - (intOf i).toNat)
  case atStart => exact ⟨0, (M, pc M), Nat.zero_le _, rfl, rfl, ⟨hM36, by rw [HPC.out]; omega⟩, rfl, by rw [HPC.out, hPL], Below.refl _ _⟩
  case round =>
    obtain ⟨k, ⟨s1, s2⟩, hk, rfl, hst, ⟨hs1', hs2'⟩, rfl, rfl, hb⟩ := hrel
    have HST := Lib.hid hst
    have HB := Lib.hid hb
    have hszr := hb.size
    clear hst hb
    by_cases hlt : k < F.length
    · have i1 : (k : Int) < (F.length : Int) := by omega
      obtain ⟨wo, rfl⟩ : ∃ wo : World, wo = wr := ⟨_, rfl⟩
      have hstep := foldl_take_succ (stepQ A) (M, pc M) hlt
      rw [← HST.out] at hstep
      have hget : F[k] = depTo P k P.length := by
        have q := HDEP.out k hlt
        rwa [List.getD_eq_getElem?_getD, List.getElem?_eq_getElem hlt] at q
      rw [hget] at hstep
      have HSTEP := Lib.hid hstep
      clear hstep hget
      go_wp2
      go_loopw [11, 12, 13] (fun mv nv i wi => ∃ j : Nat, j ≤ L.length ∧ i = .int .i64 j ∧ mv = .int .i64 (depTo P k j : Nat) ∧ nv = .int .i64 (cntC k j : Nat) ∧ ∃ m, wi = wo.drewN m) (fun _ _ i _ => L.length - (intOf i).toNat)
      case atStart => exact ⟨0, Nat.zero_le _, rfl, rfl, rfl, 0, rfl⟩
      case round =>
        obtain ⟨j, hj, rfl, rfl, rfl, m, hwi⟩ := hrel
        have HWI := Lib.hid hwi
        have hbi : Below wo.heap.size wo wr := by rw [hwi]; exact below_drewN (Below.refl _ _) m
        have HBI := Lib.hid hbi
        have hszi := hbi.size
        have hd : depTo P k j < 68719476736 := HDL.out k j (by omega)
        have hcn := cntC_le k j
        clear hwi hbi
        by_cases hjl : j < L.length
        · have i2 : (j : Int) < (L.length : Int) := by omega
          have hj64 : (j : Int) < 64 := by omega
          have hsh := and_shr_one k j (by omega)
          have hds : depTo P k (j + 1) = depTo P k j + if k.testBit j then 2 ^ P.getD j 0 else 0 := rfl
          have hcs : cntC k (j + 1) = cntC k j + if k.testBit j then 1 else 0 := rfl
          cases hbit : k.testBit j with
          | true =>
            rw [hbit, if_pos rfl] at hsh hds hcs
            obtain ⟨hip, hpb⟩ := HPL.out j hjl
            have hp36 := HBLT.out _ (List.getElem_mem hip)
            obtain ⟨X, Y, hXY⟩ := HCF.out _ (List.getElem_mem hjl)
            rw [List.getD_eq_getElem?_getD, List.getElem?_eq_getElem hip] at hds
            have hpe : P[j] = Y * B + X := by
              rw [← hpb, hXY]
              show ((Y : Int)).toNat * B + ((X : Int)).toNat = Y * B + X
              rw [Int.toNat_natCast, Int.toNat_natCast]
            obtain ⟨g, off, hga, hg, hcc⟩ := cl_open HL4.out (by omega)
            obtain ⟨y0, y1⟩ := hcc j hjl
            have hbw := HB.out.trans (HBI.out.mono hszr)
            have u0 := (hbw.cell (p := ⟨g, off + j * 2, none⟩) hg).trans y0
            have u1 := (hbw.cell (p := ⟨g, off + j * 2 + 1, none⟩) hg).trans y1
            rw [hXY] at u0 u1
            have hblkr := (hbw.block w.heap.size hw4).trans HBLK4.out
            have x0 : wr.cell? ⟨w.heap.size, 0, none⟩ = some (.int .i64 B) := by rw [cell_of_row wr _ 0 _ _ _ hblkr]; rfl
            obtain ⟨q, hq⟩ : ∃ q, q = Y * B := ⟨_, rfl⟩
            obtain ⟨p, hp⟩ : ∃ p, p = P[j] := ⟨_, rfl⟩
            have hds2 : depTo P k (j + 1) = depTo P k j + 2 ^ p := by rw [hds, hp]; rfl
            have HDS := Lib.hid hds2
            have HCS := Lib.hid hcs
            rw [← hp] at hp36
            have hpq : p = q + X := by rw [hp, hq]; exact hpe
            have t0 : (Y : Int) * (B : Int) = (q : Int) := by rw [hq]; norm_cast
            have hq36 : q < 36 := Nat.lt_of_le_of_lt (by rw [hpq]; exact Nat.le_add_right _ _) hp36
            have t1 : wrap64 (q : Int) = (q : Int) := wrap_nat (Nat.lt_trans hq36 (by decide))
            have t2 : IntKind.i64.wrap (q : Int) = (q : Int) := by rw [IntWalk.i64_left]; exact t1
            have t3 : (q : Int) + (X : Int) = (p : Int) := by rw [hpq]; norm_cast
            have t4 : wrap64 (p : Int) = (p : Int) := wrap_nat (Nat.lt_trans hp36 (by decide))
            have t5 : IntKind.i64.wrap (p : Int) = (p : Int) := by rw [IntWalk.i64_left]; exact t4
            have t6 : (p : Int) < 64 := Int.ofNat_lt.2 (Nat.lt_trans hp36 (by decide))
            have t6n : p < 64 := Nat.lt_trans hp36 (by decide)
            have t6m : min p 64 = p := Nat.min_eq_left (Nat.le_of_lt t6n)
            have hd60 : depTo P k j ≤ 1152921504606846976 := Nat.le_trans (Nat.le_of_lt hd) (by decide)
            have t7 := wrap_add_pow (depTo P k j) p (Nat.le_trans (Nat.le_of_lt hp36) (by decide)) hd60
            have T7 := Lib.hid t7
            subst hga
            clear hcc y0 y1 hblkr hbw hXY hpb hpe hds hds2 hcs hip hbit hq hp t7 hpq hq36 hp36
            generalize depTo P k j = D at hd hd60 HDS T7 ⊢
            generalize cntC k j = N1 at hcn HCS ⊢
            go_wp2
            go_big_quiet (fail)
            go_wp2
            go_roundw
            case rel =>
              refine ⟨j + 1, hjl, by go_num, ?_, by rw [HCS.out]; go_num, _, by rw [HWI.out]; exact World.drewN_drewN ..⟩
              rw [HDS.out]
              first | (rw [← T7.out]; done) | (rw [← T7.out]; rfl) | (congr 1; exact T7.out) | (congr 1; rw [← T7.out]; rfl)
            case measure => simp [intOf]; omega
          | false =>
            rw [hbit, if_neg (by decide)] at hsh hds hcs
            have HDS := Lib.hid hds
            have HCS := Lib.hid hcs
            clear hbit hds hcs
            go_wp2
            go_roundw
            case rel => exact ⟨j + 1, hjl, by go_num, by rw [HDS.out, Nat.add_zero], by rw [HCS.out, Nat.add_zero], m, HWI.out⟩
            case measure => simp [intOf]; omega
        · have hjl2 : j = P.length := by omega
          subst hjl2
          have hdp := HDP.out k
          have hsq : stepQ A (s1, s2) (depTo P k P.length) = if pc (depTo P k P.length) < s2 ∧ blocksL A (depTo P k P.length) = true then (depTo P k P.length, pc (depTo P k P.length)) else (s1, s2) := rfl
          rw [hsq, hdp] at HSTEP
          have i2 : ¬ (P.length : Int) < (L.length : Int) := by omega
          clear hsq hdp
          generalize depTo P k P.length = D at hd HSTEP ⊢
          generalize cntC k P.length = N1 at hcn HSTEP ⊢
          have hbw := HB.out.trans (HBI.out.mono hszr)
          have HBW := Lib.hid hbw
          have hszw := hbw.size
          have HBL := Lib.hid (specBlocks a2 c2 A D wr (by omega) HSM.out (by omega) (HA4.out.below hbw))
          clear hbw
          by_cases hq : N1 < s2
          · have g1 : decide ((N1 : Int) < (s2 : Int)) = true := decide_eq_true (by omega)
            have g2 : decide (N1 < s2) = true := decide_eq_true hq
            cases hbl : blocksL A D with
            | true =>
              rw [hbl] at HBL
              rw [hbl, if_pos ⟨hq, rfl⟩] at HSTEP
              clear hbl hq
              go_wp2_with fail
              refine HBL.out.mono ?_
              rintro e w6 ⟨rfl, hb6⟩
              have HB6 := Lib.hid (HBW.out.trans (hb6.mono hszw))
              clear hb6
              go_wp2
              go_roundw
              case rel => exact ⟨k + 1, (D, N1), hlt, by go_num, HSTEP.out.symm, ⟨hd, by show N1 ≤ 36; omega⟩, rfl, rfl, HB6.out⟩
              case measure => simp [intOf]; omega
            | false =>
              rw [hbl] at HBL
              rw [hbl, if_neg (fun q : _ ∧ _ => by cases q.2)] at HSTEP
              clear hbl hq
              go_wp2_with fail
              refine HBL.out.mono ?_
              rintro e w6 ⟨rfl, hb6⟩
              have HB6 := Lib.hid (HBW.out.trans (hb6.mono hszw))
              clear hb6
              go_wp2
              go_roundw
              case rel => exact ⟨k + 1, (s1, s2), hlt, by go_num, HSTEP.out.symm, ⟨hs1', hs2'⟩, rfl, rfl, HB6.out⟩
              case measure => simp [intOf]; omega
          · have g1 : decide ((N1 : Int) < (s2 : Int)) = false := decide_eq_false (by omega)
            have g2 : decide (N1 < s2) = false := decide_eq_false hq
            rw [if_neg (fun q : _ ∧ _ => hq q.1)] at HSTEP
            clear hq
            go_wp2
            go_roundw
            case rel => exact ⟨k + 1, (s1, s2), hlt, by go_num, HSTEP.out.symm, ⟨hs1', hs2'⟩, rfl, rfl, HBW.out⟩
            case measure => simp [intOf]; omega
    · obtain rfl : k = F.length := by omega
      have hst := HST.out
      rw [List.take_length] at hst
      have HV := Lib.hid hst
      clear hst
      go_wp2
      go_ret2
      rw [← HV.out]
      exact ⟨rfl, HB4.out.trans (HB.out.mono hsz4)⟩

set_option maxRecDepth 100000 in
set_option maxHeartbeats 1600000 in
theorem specFB (b : Int) (ad : Option Addr) (c : Nat) (xs : List Int) (sa : Option Addr) (cs : Nat) (ps : List (List Cl)) (w : World) (hn : xs.length ≤ 1048576) (hnp : ps.length ≤ 1048576) (hl : ∀ p ∈ ps, p.length ≤ 1048576) (hc : CellsAt w ad (ints xs)) (hcp : ShpsAt w sa ps) :
    Calls Tryz.prog 24 #[.agg #[.int .i64 b, .slice ad xs.length c], .slice sa ps.length cs] w fun e w' => e = .returned (.tuple #[.int .i64 (fewR b xs ps), .bool (decide (SmallP b xs ps))]) ∧ Below w.heap.size w w' := by
  by_cases hs : SmallP b xs ps
  · obtain ⟨B, rfl⟩ := Int.eq_ofNat_of_zero_le (by have := hs.1.1.1.1; omega : 0 ≤ b)
    rw [decide_eq_true hs, show fewR B xs ps = (fewB (allL B xs ps) (regMask B xs) : Nat) from if_pos hs]
    exact specFB_yes B ad c xs sa cs ps w hn hnp hl hc hcp hs
  · rw [decide_eq_false hs, show fewR b xs ps = 0 from if_neg hs]
    have hsm := fun w' h1 h2 => specFine b ad c xs sa cs ps w' hn hnp hl h1 h2
    rw [decide_eq_false hs] at hsm
    have HC := Lib.hid hc
    have HCP := Lib.hid hcp
    have HISM := Lib.hid hsm
    clear hc hcp hl hsm hs
    obtain ⟨wA, hwA⟩ : ∃ wA, wA = w.alloc (.cells #[.int .i64 b, .slice ad xs.length c] 29) := ⟨_, rfl⟩
    have hbA : Below w.heap.size w wA := by rw [hwA]; exact (Below.refl _ _).alloc (Nat.le_refl _) _
    have HBA := Lib.hid hbA
    have HWA := Lib.hid hwA
    have hszA := hbA.size
    clear hbA hwA
    go_enter Tryz.func24, Tryz.ntmps24
    go_wp2_with fail
    rw [← HWA.out]
    refine (HISM.out wA (HC.out.below HBA.out) (HCP.out.below HBA.out)).mono ?_
    rintro e w1 ⟨rfl, hb1⟩
    have HB1 := Lib.hid (HBA.out.trans (hb1.mono hszA))
    clear hb1
    go_wp2
    go_ret2
    exact ⟨rfl, HB1.out⟩
end Go.Proofs.YtcoggnoeafpgbaaGreat
