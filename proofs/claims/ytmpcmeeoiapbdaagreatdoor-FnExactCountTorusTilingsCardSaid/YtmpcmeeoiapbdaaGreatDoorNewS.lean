/- NewS: the walk of newSearch. -/
import Derived.Test.YtmpcmeeoiapbdaaGreatDoorAt0
import Derived.Deep.RegionHeld3
import Derived.BigRegion
import Derived.StillTailTactics
import Derived.IntWalk
namespace Go.Proofs.YtmpcmeeoiapbdaaGreatDoor
open Go.RowKit

attribute [local go_sem ↓] Go.wp_at_zero Go.wp_at_succ

theorem zero_search : Tryz.zeroCells97 = Array.replicate 64 (.slice none 0 0) ++ #[.nilFunc, .nilFunc] := by kernel_rfl
theorem at_start (w : World) (vis : Value) : AtOK (w.alloc (.cells (Tryz.zeroCells97.setIfInBounds 64 vis) 97)) w.heap.size vis (fun _ => []) := by
  have hr : ∀ k, k < 64 → rowAt (Tryz.zeroCells97.setIfInBounds 64 vis) k = .slice none 0 0 := by
    intro k hk
    unfold rowAt
    rw [Array.getElem?_setIfInBounds_ne (by omega), zero_search, Array.getElem?_append_left (by simp; omega), Array.getElem?_replicate, if_pos hk]
    rfl
  refine ⟨_, heap_alloc_new w _, by simp [zero_search], ?_, ?_, ?_, ?_⟩
  · rw [Array.getElem?_setIfInBounds, if_pos rfl, if_pos (by simp [zero_search])]
  · rw [Array.getElem?_setIfInBounds_ne (by omega), zero_search, Array.getElem?_append_right (by simp)]
    simp
  · intro k hk
    rw [hr k hk]
    exact World.ownsRow_nil _ _ _ _
  · intro i j hi hj hij g hg
    rw [hr i hi] at hg
    cases hg
theorem shr_ne (u k : Nat) : (((u : Int) / 2 ^ k) != 0) = decide (2 ^ k ≤ u) := by
  have h1 : ((u : Int) / 2 ^ k) = ((u / 2 ^ k : Nat) : Int) := by norm_cast
  have hp : 0 < 2 ^ k := Nat.two_pow_pos k
  rw [h1, Bool.eq_iff_iff, bne_iff_ne, decide_eq_true_eq]
  have h2 := Nat.div_pos_iff (a := u) (b := 2 ^ k)
  constructor
  · intro h
    have : 0 < u / 2 ^ k := by
      rcases Nat.eq_zero_or_pos (u / 2 ^ k) with q | q
      · rw [q] at h; exact absurd rfl h
      · exact q
    exact (h2.1 this).2
  · intro h e
    have := h2.2 ⟨hp, h⟩
    have e2 : u / 2 ^ k = 0 := by exact_mod_cast e
    omega

set_option maxRecDepth 100000 in
set_option maxHeartbeats 3200000 in
theorem newSearch_any (ad : Option Addr) (c : Nat) (A : List Int) (K : FuncId) (caps : Array Value) (w : World) (hn : A.length ≤ 1048576) (hs : ∀ v ∈ A, Mk v) (hc : CellsAt w ad (ints A)) :
    Calls Tryz.prog 72 #[.slice ad A.length c, .func (.func K) #[] caps] w fun e w' => e = .returned (.pointer (some ⟨w.heap.size, 0, none⟩)) ∧ AtOK w' w.heap.size (.func (.func K) #[] caps) (atL A) ∧ Below w.heap.size w w' := by
  have HC := Lib.hid hc
  have HS := Lib.hid hs
  have hat := at_start w (.func (.func K) #[] caps)
  have HLEN := Lib.hid (fun i j => Nat.le_trans (atL_length (A.take i) j) (by rw [List.length_take]; omega : (A.take i).length ≤ 1048576))
  have hb0 : Below w.heap.size w (w.alloc (.cells (Tryz.zeroCells97.setIfInBounds 64 (.func (.func K) #[] caps)) 97)) := (Below.refl _ _).alloc (Nat.le_refl _) _
  have HAT := Lib.hid hat
  have HB0 := Lib.hid hb0
  clear hc hs hat hb0
  go_enter Tryz.func72, Tryz.ntmps72
  go_wp2_with fail
  generalize w.alloc (.cells (Tryz.zeroCells97.setIfInBounds 64 (.func (.func K) #[] caps)) 97) = w0 at HAT HB0 ⊢
  go_loopw [14] (fun iv wr => ∃ i : Nat, i ≤ A.length ∧ iv = .int .i64 i ∧ AtOK wr w.heap.size (.func (.func K) #[] caps) (atL (A.take i)) ∧ Below w.heap.size w wr) (fun iv _ => A.length - (intOf iv).toNat)
  case atStart => exact ⟨0, Nat.zero_le _, rfl, HAT.out.congr (fun k _ => by simp [atL]), HB0.out⟩
  case round =>
    obtain ⟨i, hi, rfl, hat, hb⟩ := hrel
    have HA := Lib.hid hat
    have HB := Lib.hid hb
    clear hat hb
    by_cases hlt : i < A.length
    · have i1 : (i : Int) < (A.length : Int) := by omega
      obtain ⟨g, off, rfl, hg, hcc⟩ := HC.out.open (by rw [ints_length]; omega)
      have x0 := (HB.out.cell (p := ⟨g, off + i, none⟩) hg).trans (hcc i _ (ints_at A i hlt))
      have hsm := HS.out _ (List.getElem_mem hlt)
      have htk := List.take_succ_eq_append_getElem hlt
      have HTK := Lib.hid (fun j => (by rw [htk, atL_snoc] : atL (A.take (i + 1)) j = atL (A.take i) j ++ (if A[i].toNat.testBit j = true then [A[i]] else [])))
      clear hcc htk
      generalize A[i] = v at x0 hsm HTK
      obtain ⟨u, rfl⟩ : ∃ u : Nat, v = (u : Int) := ⟨v.toNat, by have := hsm.1; omega⟩
      have hu : u < 68719476736 := by have := hsm.2; omega
      have HU := Lib.hid hu
      have HTK2 := Lib.hid HTK.out
      have HL0 := Lib.hid (HLEN.out i)
      generalize hM : atL (A.take (i + 1)) = M at HTK
      have HM := Lib.hid hM
      generalize atL (A.take i) = L at HA HTK HL0
      clear hsm HTK2 hM
      go_wp2
      go_loopw [8] (fun kv wr => ∃ k : Nat, k ≤ 36 ∧ kv = .int .i64 k ∧ AtOK wr w.heap.size (.func (.func K) #[] caps) (fun j => if j < k then M j else L j) ∧ Below w.heap.size w wr) (fun kv _ => 36 - (intOf kv).toNat)
      case atStart => exact ⟨0, Nat.zero_le _, rfl, HA.out.congr (fun j _ => by simp), HB.out⟩
      case round =>
        obtain ⟨k, hk, rfl, hat, hb⟩ := hrel
        have HA2 := Lib.hid hat
        have HB2 := Lib.hid hb
        have hsz2 := hb.size
        clear hat hb
        have hsn := shr_ne u k
        by_cases hq : 2 ^ k ≤ u
        · rw [decide_eq_true hq] at hsn
          have hk35 : k < 36 := by
            refine (Nat.pow_lt_pow_iff_right (a := 2) (by decide)).1 (Nat.lt_of_le_of_lt hq ?_)
            exact HU.out
          have hsh := and_shr_one u k (Nat.lt_trans HU.out (by decide))
          clear hq
          cases htb : u.testBit k with
          | true =>
            rw [htb, if_pos rfl] at hsh
            obtain ⟨ar, cr, hcell, hown⟩ := HA2.out.row (k := k) (by omega)
            rw [if_neg (Nat.lt_irrefl k)] at hcell hown
            have hfz := HA2.out.free k
            have hMk : M k = L k ++ [(u : Int)] := by rw [HTK.out k, Int.toNat_natCast, htb, if_pos rfl]
            have hlk := HL0.out k
            have hlt2 := HA2.out.lt
            have HMK := Lib.hid hMk
            have HOWN := Lib.hid hown
            have HCELL := Lib.hid hcell
            clear hMk hown
            generalize L k = R at HMK HOWN hcell HCELL hlk
            have c1 : R.length + 1 ≤ maxLen := by unfold maxLen; omega
            have hk64 : (k : Int) < 64 := by omega
            have HFZ := Lib.hid hfz
            have hbal : Below wr.heap.size wr (wr.alloc (.cells #[.int .i64 u] 3)).drew := ((Below.refl wr.heap.size wr).alloc (Nat.le_refl _) _).drew
            have KA1 := Lib.hid ((hbal.cell (p := ⟨w.heap.size, k, none⟩) hlt2).trans HCELL.out)
            have KA2 := Lib.hid ((hbal.frozen (p := ⟨w.heap.size, k, none⟩) hlt2).trans HFZ.out)
            have KA3 := Lib.hid (show (wr.alloc (.cells #[.int .i64 u] 3)).cell? ⟨w.heap.size, k, none⟩ = some (.slice ar R.length cr) from KA1.out)
            have KA4 := Lib.hid (show (wr.alloc (.cells #[.int .i64 u] 3)).frozen? ⟨w.heap.size, k, none⟩ = false from KA2.out)
            clear hbal
            have hpush : ∀ (g' cap : Nat) (w2 : World), w2.ownsRow (w.heap.size + 1) 3 1 (.slice (some ⟨g', 0, none⟩) (R.length + 1) cap) (R.length + 1) (ints R ++ (#[Value.int .i64 (u : Int)]).toList) → Below (w.heap.size + 1) wr w2 → wr.grownBy w2 (Value.slice ar R.length cr).ownBlock →
                ((Value.slice ar R.length cr).ownBlock = some g' ∨ wr.heap.size ≤ g') → AtOK (w2.setCell ⟨w.heap.size, k, none⟩ (.slice (some ⟨g', 0, none⟩) (R.length + 1) cap)) w.heap.size (.func (.func K) #[] caps) (fun j => if j < k + 1 then M j else L j) ∧
                  Below w.heap.size w (w2.setCell ⟨w.heap.size, k, none⟩ (.slice (some ⟨g', 0, none⟩) (R.length + 1) cap)) := by
              intro g' cap w2 q1 q2 q3 q6
              refine ⟨(AtOK.push (xs := R ++ [(u : Int)]) HA2.out (by omega : k < 64) HCELL.out (by simp) (by rw [ints_append]; exact q1) q3 q6).congr (fun j _ => ?_), (HB2.out.trans (q2.mono (Nat.le_succ _))).setCell (Nat.le_refl _) _⟩
              show (if j = k then R ++ [(u : Int)] else if j < k then M j else L j) = _
              by_cases e : j = k
              · subst e
                rw [if_pos rfl, if_pos (Nat.lt_succ_self _), HMK.out]
              · by_cases e2 : j < k
                · rw [if_neg e, if_pos e2, if_pos (by omega)]
                · rw [if_neg e, if_neg e2, if_neg (by omega)]
            have HPUSH := Lib.hid hpush
            clear hpush
            go_wp2
            have ka1 := KA1.out
            have ka2 := KA2.out
            have ka3 := KA3.out
            have ka4 := KA4.out
            go_region_law
              ((refine step_app1 (by rfl) (.tmp 36) (.tmp 38) 37 (by rfl) (w.heap.size + 1) 3 _ 1 8 Tryz.elemInt _ R.length _ _ _ _ (by rfl) (by rfl) rfl HOWN.out (by rfl) (by simp [Value.oneCell']) (by exact c1) (by omega) (by omega) ?_; intro g' cap w2 q1 q2 q3 q4 q5 q6; have kc2 := (q2.cell (p := ⟨w.heap.size, k, none⟩) (by first | omega | (simp; done) | (simp; omega))).trans HCELL.out; have kf2 := (q2.frozen (p := ⟨w.heap.size, k, none⟩) (by first | omega | (simp; done) | (simp; omega))).trans HFZ.out))
            all_goals go_wp2
            all_goals go_roundw
            all_goals (first
              | (show _ < _; simp [intOf]; omega)
              | exact ⟨k + 1, Nat.succ_le_of_lt hk35, by go_num, (HPUSH.out _ _ _ q1 q2 q3 q6).1, (HPUSH.out _ _ _ q1 q2 q3 q6).2⟩)
          | false =>
            rw [htb, if_neg (by simp)] at hsh
            have HMK := Lib.hid (show M k = L k by rw [HTK.out k, Int.toNat_natCast, htb, if_neg (by simp), List.append_nil])
            go_wp2
            go_roundw
            case rel =>
              refine ⟨k + 1, by omega, by go_num, HA2.out.congr (fun j _ => ?_), HB2.out⟩
              by_cases e : j = k
              · subst e
                rw [if_neg (Nat.lt_irrefl j), if_pos (Nat.lt_succ_self j), HMK.out]
              · by_cases e2 : j < k
                · rw [if_pos e2, if_pos (by omega)]
                · rw [if_neg e2, if_neg (by omega)]
            case measure => simp [intOf]; omega
        · rw [decide_eq_false hq] at hsn
          have HMJ := Lib.hid (fun j (hj : ¬ j < k) => (by
            rw [HTK.out j, Int.toNat_natCast, Nat.testBit_lt_two_pow (Nat.lt_of_lt_of_le (Nat.lt_of_not_le hq) (Nat.pow_le_pow_right (by decide) (by omega))), if_neg (by simp), List.append_nil] : M j = L j))
          clear hq
          go_wp2
          go_roundw
          case rel =>
            refine ⟨i + 1, by omega, by go_num, HA2.out.congr (fun j _ => ?_), HB2.out⟩
            rw [HM.out]
            by_cases e2 : j < k
            · rw [if_pos e2]
            · rw [if_neg e2, HMJ.out j e2]
          case measure => simp [intOf]; omega
    · obtain rfl : i = A.length := by omega
      rw [List.take_length] at HA
      go_wp2
      go_ret
      exact ⟨rfl, HA.out, HB.out⟩
end Go.Proofs.YtmpcmeeoiapbdaaGreatDoor
