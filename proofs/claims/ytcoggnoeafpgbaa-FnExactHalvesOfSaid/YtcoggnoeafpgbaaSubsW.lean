/- SubsW: the walk of subsets: the parts of a mask, in rising order. -/
import Derived.Test.YtcoggnoeafpgbaaAppKept
import Derived.Test.YtcoggnoeafpgbaaPut0
import Derived.Test.YtcoggnoeafpgbaaDep0
import Derived.StillTailTactics
import Derived.IntWalk
namespace Go.Proofs.Ytcoggnoeafpgbaa
open Go.RowKit

theorem one_made {w W : World} {e : Nat} {x : Value} (h : W.heap = w.heap.push (.cells #[x] e (0, 0))) : W.ownsRow w.heap.size e 1 (.slice (some ⟨w.heap.size, 0, none⟩) 1 1) 1 [x] := by
  refine ⟨by simp, .inr ⟨w.heap.size, 1, #[x], rfl, Nat.le_refl _, ?_, Nat.le_refl _, by decide, by simp, by simp⟩⟩
  rw [h]; simp
def zs (l : List Nat) : List Int := l.map fun i : Nat => (i : Int)
theorem zs_length (l : List Nat) : (zs l).length = l.length := by unfold zs; rw [List.length_map]
theorem zs_append (a b : List Nat) : zs (a ++ b) = zs a ++ zs b := by unfold zs; rw [List.map_append]
theorem zs_at (l : List Nat) (k : Nat) (h : k < l.length) : (ints (zs l))[k]? = some (.int .i64 ((l[k] : Nat) : Int)) := by
  rw [ints_at (zs l) k (by rw [zs_length]; exact h)]
  simp [zs]
theorem subL_small {m : Nat} (hp : pc m ≤ 16) {k : Nat} (hk : k ≤ 36) : 1 ≤ (subL m k).length ∧ (subL m k).length ≤ 65536 := by
  rw [subL_length]
  have h1 : (List.range k).countP (fun i => m.testBit i) ≤ pc m := by
    unfold pc
    rw [show 36 = k + (36 - k) by omega, List.range_add, List.countP_append]
    exact Nat.le_add_right _ _
  exact ⟨Nat.two_pow_pos _, Nat.le_trans (Nat.pow_le_pow_right (by decide) (Nat.le_trans h1 hp)) (by decide)⟩

set_option maxRecDepth 100000 in
set_option maxHeartbeats 1600000 in
theorem implSubs (m n : Nat) (w : World) (hm : m < 2 ^ n) (hn : n ≤ 36) (hp : pc m ≤ 16) :
    Calls Try.prog 23 #[.int .i64 m] w fun e w' => ∃ ad' cap', e = .returned (.slice ad' (subL m n).length cap') ∧ w'.ownsRow w.heap.size 3 1 (.slice ad' (subL m n).length cap') (subL m n).length (ints (zs (subL m n))) ∧ Below w.heap.size w w' := by
  have hm' : m < 68719476736 := Nat.lt_of_lt_of_le hm (Nat.pow_le_pow_right (by decide) hn)
  have HM := Lib.hid hm
  have HLEN := Lib.hid (fun k hk => subL_small hp (k := k) hk)
  have HSTOP := Lib.hid (fun k hk (h : m < 2 ^ k) => subL_stop h n hk)
  clear hm
  obtain ⟨wA, hwA⟩ : ∃ wA, wA = w.alloc (.cells #[.int .i64 0] 3) := ⟨_, rfl⟩
  have hbA : Below w.heap.size w wA := by rw [hwA]; exact (Below.refl _ _).alloc (Nat.le_refl _) _
  have hoA : wA.ownsRow w.heap.size 3 1 (.slice (some ⟨w.heap.size, 0, none⟩) 1 1) 1 [.int .i64 0] := by rw [hwA]; exact one_made rfl
  have HBA := Lib.hid hbA
  have HWA := Lib.hid hwA
  have HOA := Lib.hid hoA
  clear hbA hwA hoA
  go_enter Try.func23, Try.ntmps23
  go_wp2
  rw [← HWA.out]
  go_loopw [3, 4] (fun v i wr => ∃ k : Nat, k ≤ n ∧ i = .int .i64 k ∧ wr.ownsRow w.heap.size 3 1 v (subL m k).length (ints (zs (subL m k))) ∧ Below w.heap.size w wr) (fun _ i _ => n - (intOf i).toNat)
  case atStart => exact ⟨0, Nat.zero_le _, rfl, HOA.out, HBA.out⟩
  case round =>
    obtain ⟨k, hk, rfl, hown, hb⟩ := hrel
    obtain ⟨wo, rfl⟩ : ∃ wo : World, wo = wr := ⟨_, rfl⟩
    have HW := Lib.hid hown
    have HB := Lib.hid hb
    have hszr := hb.size
    obtain ⟨hl1, hl2⟩ := HLEN.out k (by omega)
    obtain ⟨ao, co, rfl, _⟩ := ownsRow_cells hown
    have hcap := (ownsRow_le_cap hown).1
    clear hown hb
    have hk64 : (k : Int) < 64 := by omega
    by_cases hz : m / 2 ^ k = 0
    · have hz1 : ((m : Int) / 2 ^ k != 0) = false := by
        have e : ((m : Int) / 2 ^ k) = ((m / 2 ^ k : Nat) : Int) := by norm_cast
        rw [e, hz]; rfl
      have hlt : m < 2 ^ k := by
        rcases Nat.lt_or_ge m (2 ^ k) with q | q
        · exact q
        · have := Nat.div_pos q (Nat.two_pow_pos k)
          omega
      have HE := Lib.hid (HSTOP.out k hk hlt)
      clear hz hlt
      go_wp2
      go_ret
      rw [HE.out]
      exact ⟨ao, co, rfl, HW.out, HB.out⟩
    · have hlt : k < n := by
        rcases Nat.lt_or_ge k n with h | h
        · exact h
        · exact absurd (Nat.div_eq_of_lt (Nat.lt_of_lt_of_le HM.out (Nat.pow_le_pow_right (by decide) h))) hz
      have hz1 : ((m : Int) / 2 ^ k != 0) = true := by
        have e : ((m : Int) / 2 ^ k) = ((m / 2 ^ k : Nat) : Int) := by norm_cast
        rw [e]; simp; omega
      clear hz
      cases hbit : m.testBit k with
      | true =>
        have hb1 : bits .and .i64 ((m : Int) / 2 ^ k) 1 = 1 := by rw [and_shr_one m k (by omega), if_pos hbit]
        have hsu : subL m (k + 1) = subL m k ++ (subL m k).map (· ||| 2 ^ k) := by rw [subL, hbit, if_pos rfl]
        have HSU := Lib.hid hsu
        have hlt3 := fun v hv => subL_lt m k v hv
        have HLT := Lib.hid hlt3
        have hl3 := (HLEN.out (k + 1) (by omega)).2
        rw [hsu, List.length_append, List.length_map] at hl3
        clear hsu hbit hlt3
        generalize subL m k = L at HW HSU HLT hl1 hl2 hl3 hcap ⊢
        obtain ⟨g0, c0, hv, hg0b, hg0⟩ := HW.out.form (show 0 < L.length by omega)
        cases hv
        have HC0 := Lib.hid (fun i u (h : (ints (zs L))[i]? = some u) => (by
          have hi : i < L.length := by
            rcases Nat.lt_or_ge i L.length with q | q
            · exact q
            · rw [List.getElem?_eq_none (by rw [ints_length, zs_length]; exact q)] at h; cases h
          exact (HW.out.cellAt i (by omega)).trans h : wo.cell? ⟨g0, i, none⟩ = some u))
        go_wp2
        go_loopw [3, 26] (fun v i wr => ∃ j : Nat, j ≤ L.length ∧ i = .int .i64 j ∧ wr.ownsRow w.heap.size 3 1 v (L.length + j) (ints (zs (L ++ (L.take j).map (· ||| 2 ^ k)))) ∧ (∀ i u, (ints (zs L))[i]? = some u → wr.cell? ⟨g0, i, none⟩ = some u) ∧ g0 < wr.heap.size ∧ Below w.heap.size w wr) (fun _ i _ => L.length - (intOf i).toNat)
        case atStart => exact ⟨0, Nat.zero_le _, rfl, by
          have e : L ++ (L.take 0).map (· ||| 2 ^ k) = L := by simp
          rw [e]; exact HW.out, HC0.out, hg0, HB.out⟩
        case round =>
          obtain ⟨j, hj, rfl, hown, hcell, hgl, hb⟩ := hrel
          obtain ⟨wi, rfl⟩ : ∃ wi : World, wi = wr := ⟨_, rfl⟩
          have HWI := Lib.hid hown
          have HCI := Lib.hid hcell
          have HBI := Lib.hid hb
          have hszi := hb.size
          obtain ⟨av, cv, rfl, _⟩ := ownsRow_cells hown
          clear hown hcell hb
          by_cases hjl : j < L.length
          · have i1 : (j : Int) < (L.length : Int) := by omega
            have x0 := HCI.out j _ (zs_at L j hjl)
            have hu := HLT.out _ (List.getElem_mem hjl)
            have htk : L ++ (L.take (j + 1)).map (· ||| 2 ^ k) = (L ++ (L.take j).map (· ||| 2 ^ k)) ++ [L[j] ||| 2 ^ k] := by
              rw [List.take_succ_eq_append_getElem hjl, List.map_append, List.append_assoc]
              rfl
            have HTK := Lib.hid htk
            clear htk
            generalize L[j] = u at x0 hu HTK
            have hu2 : u < 68719476736 := Nat.lt_of_lt_of_le hu (Nat.pow_le_pow_right (by decide) (by omega : k ≤ 36))
            have hor := or_pow u k (by omega) (by omega)
            have hkeep : ∀ (g' cap : Nat) (w2 : World), wi.grownBy w2 (Value.slice av (L.length + j) cv).ownBlock →
                (∀ g1 i u, (Value.slice av (L.length + j) cv).ownBlock = some g1 → (ints (zs (L ++ (L.take j).map (· ||| 2 ^ k))))[i]? = some u → w2.cell? ⟨g1, i, none⟩ = some u) →
                ∀ i u, (ints (zs L))[i]? = some u → w2.cell? ⟨g0, i, none⟩ = some u := by
              intro g' cap w2 q1 q2 i u hiu
              by_cases hb : (Value.slice av (L.length + j) cv).ownBlock = some g0
              · refine q2 g0 i u hb ?_
                rw [zs_append, ints_append, List.getElem?_append_left]
                · exact hiu
                · rcases Nat.lt_or_ge i (ints (zs L)).length with q | q
                  · exact q
                  · rw [List.getElem?_eq_none q] at hiu; cases hiu
              · rw [World.cell?_of_block (q1.block g0 hgl (fun e => hb e.symm))]
                exact HCI.out i u hiu
            have HKEEP := Lib.hid hkeep
            clear hu hu2 hkeep
            go_wp2_with (at_builtin; refine wpList_app1k rfl (.tmp 30) (.tmp 35) 22 rfl w.heap.size 3 (.int .i64 0) 8 Try.elemInt (.slice av (L.length + j) cv) (L.length + j) (ints (zs (L ++ (L.take j).map (· ||| 2 ^ k)))) _ _ _ rfl rfl rfl HWI.out (by rfl) (by unfold maxLen; omega) (by omega) (by omega) ?_; intro g' cap w2 q1 q2 q3 q4 q5)
            go_wp2
            go_roundw
            case rel =>
              refine ⟨j + 1, hjl, by go_num, ?_, HKEEP.out g' cap w2 q3 q5, by have := q2.size; omega, HBI.out.trans q2⟩
              rw [HTK.out, zs_append, ints_append, ← Nat.add_assoc]
              exact q1
            case measure => simp [intOf]; omega
          · obtain rfl : j = L.length := by omega
            go_wp2
            go_roundw
            case rel =>
              refine ⟨k + 1, hlt, by go_num, ?_, HBI.out⟩
              have q := HWI.out
              rw [List.take_length] at q
              rw [HSU.out, List.length_append, List.length_map]
              exact q
            case measure => simp [intOf]; omega
      | false =>
        have hb1 : bits .and .i64 ((m : Int) / 2 ^ k) 1 = 0 := by rw [and_shr_one m k (by omega), hbit]; rfl
        have HSU := Lib.hid (show subL m (k + 1) = subL m k by rw [subL, hbit, if_neg (by decide)])
        clear hbit
        go_wp2
        go_roundw
        case rel => exact ⟨k + 1, hlt, by go_num, by rw [HSU.out]; exact HW.out, HB.out⟩
        case measure => simp [intOf]; omega
end Go.Proofs.Ytcoggnoeafpgbaa
