/- Pack: the walks of IsPacking, the reference's and the program's, and of what they ask. -/
import Derived.Test.YtipikojinfpidaaGreatPack0
import Derived.Test.YtipikojinfpidaaGreatBlock
import Derived.Lib.QuietBelow
import Derived.BigQuiet
import Derived.IntWalk
namespace Go.Proofs.YtipikojinfpidaaGreat
open Go.RowKit

attribute [local go_sem ↓] Go.wp_at_zero Go.wp_at_succ

set_option maxRecDepth 100000 in
set_option maxHeartbeats 1600000 in
theorem spec7Has (ad : Option Addr) (c : Nat) (l : List Int) (x : Int) (w : World) (hn : l.length ≤ 1048576) (hc : CellsAt w ad (ints l)) :
    Calls Tryz.prog 30 #[.slice ad l.length c, .int .i64 x] w fun e w' => e = .returned (.bool (decide (x ∈ l))) ∧ Below w.heap.size w w' := by
  have HC := Lib.hid hc
  clear hc
  go_enter Tryz.func30, Tryz.ntmps30
  go_wp2
  go_loopw [5] (fun i wr => ∃ k : Nat, k ≤ l.length ∧ i = .int .i64 k ∧ (∀ v ∈ l.take k, v ≠ x) ∧ Below w.heap.size w wr) (fun i _ => l.length - (intOf i).toNat)
  case atStart => exact ⟨0, by omega, rfl, by simp, Below.refl _ _⟩
  case round =>
    obtain ⟨k, hk, rfl, hall, hb⟩ := hrel
    have HA := Lib.hid hall
    have HB := Lib.hid hb
    clear hall
    by_cases hlt : k < l.length
    · obtain ⟨g, off, rfl, hg, hcc⟩ := HC.out.open (by rw [ints_length]; omega)
      have x0 := (hb.cell (p := ⟨g, off + k, none⟩) hg).trans (hcc k _ (ints_at l k hlt))
      have HTK := Lib.hid (List.take_succ_eq_append_getElem hlt)
      have HMEM := Lib.hid (List.getElem_mem hlt)
      have i1 : (k : Int) < (l.length : Int) := by omega
      clear hcc hb
      generalize l[k] = v at x0 HMEM HTK
      by_cases hz : v = x
      · subst hz
        have HV := Lib.hid (show decide (v ∈ l) = true from decide_eq_true HMEM.out)
        go_wp2
        go_ret
        rw [HV.out]
        exact ⟨rfl, HB.out⟩
      · have hz1 : (v == x) = false := by simp; omega
        have HZ := Lib.hid hz
        clear hz
        go_wp2
        go_roundw
        case rel =>
          refine ⟨k + 1, by omega, by go_num, ?_, HB.out⟩
          rw [HTK.out]
          intro v hv
          rcases List.mem_append.1 hv with hv | hv
          · exact HA.out v hv
          · rw [List.mem_singleton.1 hv]
            exact HZ.out
        case measure => simp [intOf]; omega
    · obtain rfl : k = l.length := by omega
      rw [List.take_length] at HA
      have HV := Lib.hid (show decide (x ∈ l) = false from decide_eq_false fun h => HA.out x h rfl)
      go_wp2
      go_ret
      rw [HV.out]
      exact ⟨rfl, HB.out⟩

set_option maxRecDepth 100000 in
set_option maxHeartbeats 1600000 in
theorem implHasInt (ad : Option Addr) (c : Nat) (l : List Int) (x : Int) (w : World) (hn : l.length ≤ 1048576) (hc : CellsAt w ad (ints l)) :
    Calls Tryz.prog 43 #[.slice ad l.length c, .int .i64 x] w fun e w' => e = .returned (.bool (decide (x ∈ l))) ∧ Below w.heap.size w w' := by
  have HC := Lib.hid hc
  clear hc
  go_enter Tryz.func43, Tryz.ntmps43
  go_wp2
  go_loopw [9] (fun i wr => ∃ k : Nat, k ≤ l.length ∧ i = .int .i64 k ∧ (∀ v ∈ l.take k, v ≠ x) ∧ Below w.heap.size w wr) (fun i _ => l.length - (intOf i).toNat)
  case atStart => exact ⟨0, by omega, rfl, by simp, Below.refl _ _⟩
  case round =>
    obtain ⟨k, hk, rfl, hall, hb⟩ := hrel
    have HA := Lib.hid hall
    have HB := Lib.hid hb
    clear hall
    by_cases hlt : k < l.length
    · obtain ⟨g, off, rfl, hg, hcc⟩ := HC.out.open (by rw [ints_length]; omega)
      have x0 := (hb.cell (p := ⟨g, off + k, none⟩) hg).trans (hcc k _ (ints_at l k hlt))
      have HTK := Lib.hid (List.take_succ_eq_append_getElem hlt)
      have HMEM := Lib.hid (List.getElem_mem hlt)
      have i1 : (k : Int) < (l.length : Int) := by omega
      clear hcc hb
      generalize l[k] = v at x0 HMEM HTK
      by_cases hz : v = x
      · subst hz
        have HV := Lib.hid (show decide (v ∈ l) = true from decide_eq_true HMEM.out)
        go_wp2
        go_ret
        rw [HV.out]
        exact ⟨rfl, HB.out⟩
      · have hz1 : (v == x) = false := by simp; omega
        have HZ := Lib.hid hz
        clear hz
        go_wp2
        go_roundw
        case rel =>
          refine ⟨k + 1, by omega, by go_num, ?_, HB.out⟩
          rw [HTK.out]
          intro v hv
          rcases List.mem_append.1 hv with hv | hv
          · exact HA.out v hv
          · rw [List.mem_singleton.1 hv]
            exact HZ.out
        case measure => simp [intOf]; omega
    · obtain rfl : k = l.length := by omega
      rw [List.take_length] at HA
      have HV := Lib.hid (show decide (x ∈ l) = false from decide_eq_false fun h => HA.out x h rfl)
      go_wp2
      go_ret
      rw [HV.out]
      exact ⟨rfl, HB.out⟩

set_option maxRecDepth 100000 in
set_option maxHeartbeats 3200000 in
theorem implApart (aa : Option Addr) (ca : Nat) (A : List Int) (al : Option Addr) (cl : Nat) (l : List Int) (w : World) (hlA : A.length ≤ 1048576) (hs : ∀ v ∈ A, Small v) (hn : l.length ≤ 1048576) (ha : CellsAt w aa (ints A)) (hc : CellsAt w al (ints l)) :
    Calls Tryz.prog 31 #[.slice aa A.length ca, .slice al l.length cl] w fun e w' => e = .returned (.bool (apartL A l)) ∧ Below w.heap.size w w' := by
  have HAW := Lib.hid ha
  have HLW := Lib.hid hc
  have HSM := Lib.hid hs
  have hdef : apartL A l = apTo A l l.length := rfl
  rw [hdef]
  clear hc ha hs hdef
  go_enter Tryz.func31, Tryz.ntmps31
  go_wp2
  go_loopw [5, 10] (fun uv i wr => ∃ k U : Nat, k ≤ l.length ∧ i = .int .i64 k ∧ uv = .int .i64 U ∧ U = usedTo l k ∧ U < 68719476736 ∧ apTo A l k = true ∧ Below w.heap.size w wr) (fun _ i _ => l.length - (intOf i).toNat)
  case atStart => exact ⟨0, 0, Nat.zero_le _, rfl, rfl, rfl, by decide, rfl, Below.refl _ _⟩
  case round =>
    obtain ⟨k, U, hk, rfl, rfl, hU, hUl, hap, hb⟩ := hrel
    have HAP := Lib.hid hap
    have HB := Lib.hid hb
    have HUU := Lib.hid hU
    have hszr := hb.size
    clear hap hb hU
    by_cases hlt : k < l.length
    · obtain ⟨g, off, rfl, hg, hcc⟩ := HLW.out.open (by rw [ints_length]; omega)
      have x0 := (HB.out.cell (p := ⟨g, off + k, none⟩) hg).trans (hcc k _ (ints_at l k hlt))
      have i1 : (k : Int) < (l.length : Int) := by omega
      have hst0 := apStep_at A l k hlt
      have hnx0 := usedTo_at l k hlt
      rw [← HUU.out] at hst0 hnx0
      have HHC0 := Lib.hid (fun w' h => implHasInt aa ca A l[k] w' hlA h)
      have HST := Lib.hid hst0
      have HNX := Lib.hid hnx0
      clear hst0 hnx0
      have hjs : ∀ j, k = j + 1 → ∃ h : j < l.length, l.getD (k - 1) 0 = l[j] := fun j hj => ⟨by omega, by subst hj; simp [List.getD_eq_getElem?_getD, List.getElem?_eq_getElem (show j < l.length by omega)]⟩
      have HJS := Lib.hid hjs
      clear hjs
      generalize l[k] = v at x0 HHC0 HST HNX
      by_cases hin : v ∈ A
      · have hsm := HSM.out _ hin
        have HHC := HHC0
        rw [decide_eq_true hin] at HHC HST
        clear HHC0
        obtain ⟨u, rfl⟩ : ∃ u : Nat, v = (u : Int) := ⟨v.toNat, by have := hsm.1; omega⟩
        have hu : u < 68719476736 := by have := hsm.2; omega
        rw [Int.toNat_natCast] at HST HNX
        have hand := i64_and_nat U u (by omega) (by omega)
        have hor := i64_or_nat U u (by omega) (by omega)
        have hm0 : U ||| u < 68719476736 := Nat.or_lt_two_pow (n := 36) hUl hu
        obtain ⟨q, hq⟩ : ∃ q, q = U &&& u := ⟨_, rfl⟩
        obtain ⟨m2, hm2⟩ : ∃ m2, m2 = U ||| u := ⟨_, rfl⟩
        rw [← hm2] at hor hm0 HNX
        rw [← hq] at hand HST
        have HLT := Lib.hid hm0
        clear hq hm2 hin hsm hu hm0
        by_cases hz : q = 0
        · subst hz
          have hz1 : (((0 : Nat) : Int) != 0) = false := rfl
          rcases Nat.eq_zero_or_pos k with h0 | h0
          · have g0 : decide ((0 : Int) < (k : Int)) = false := decide_eq_false (by omega)
            have g0n : decide (0 < k) = false := decide_eq_false (by omega)
            clear HJS
            have hap2 : apTo A l (k + 1) = true := by rw [apTo, HAP.out, HST.out]; simp [h0]
            have HAP2 := Lib.hid hap2
            clear hap2
            clear h0
            go_wp2_with fail
            refine (HHC.out wr (HAW.out.below HB.out)).mono ?_
            rintro e w5 ⟨rfl, hb5⟩
            have HB5 := Lib.hid (HB.out.trans (hb5.mono hszr))
            clear hb5
            go_wp2
            go_roundw
            case rel => exact ⟨k + 1, m2, by omega, by go_num, rfl, HNX.out, HLT.out, HAP2.out, HB5.out⟩
            case measure => simp [intOf]; omega
          · obtain ⟨j, hj⟩ : ∃ j, k = j + 1 := ⟨k - 1, by omega⟩
            obtain ⟨hjl, hpj⟩ := HJS.out j hj
            have g0 : decide ((0 : Int) < (k : Int)) = true := decide_eq_true (by omega)
            have g0n : decide (0 < k) = true := decide_eq_true (by omega)
            have tk : wrap64 ((k : Int) - 1) = (j : Int) := by rw [hj]; push_cast; rw [Int.add_sub_cancel]; exact wrap_nat (by omega)
            have tk2 : IntKind.i64.wrap ((k : Int) - 1) = (j : Int) := by rw [IntWalk.i64_left]; exact tk
            have i2 : (j : Int) < (l.length : Int) := by omega
            rw [hpj] at HST
            have x1 := (HB.out.cell (p := ⟨g, off + j, none⟩) hg).trans (hcc j _ (ints_at l j hjl))
            clear hpj HJS
            generalize l[j] = p at x1 HST
            have HJ := Lib.hid hj
            have hk0 : ¬ k = 0 := by omega
            clear hj
            by_cases hpv : p < (u : Int)
            · have gv : decide ((u : Int) ≤ p) = false := decide_eq_false (by omega)
              have hap2 : apTo A l (k + 1) = true := by rw [apTo, HAP.out, HST.out]; simp [hpv]
              have HAP2 := Lib.hid hap2
              clear hap2
              clear hpv hk0
              go_wp2_with fail
              refine (HHC.out wr (HAW.out.below HB.out)).mono ?_
              rintro e w5 ⟨rfl, hb5⟩
              have HB5 := Lib.hid (HB.out.trans (hb5.mono hszr))
              have x1 := (hb5.cell (p := ⟨g, off + j, none⟩) (by simp; omega)).trans x1
              clear hb5
              go_wp2
              go_roundw
              case rel => exact ⟨k + 1, m2, by omega, by go_num, rfl, HNX.out, HLT.out, HAP2.out, HB5.out⟩
              case measure => simp [intOf]; omega
            · have gv : decide ((u : Int) ≤ p) = true := decide_eq_true (by omega)
              have hst := HST.out
              rw [decide_eq_false hpv, decide_eq_false hk0] at hst
              have HV := Lib.hid (apTo_false (l := l) (A := A) (by rw [apTo, HAP.out, hst]; rfl : apTo A l (k + 1) = false) (by omega : k + 1 ≤ l.length))
              clear hst
              clear hpv hk0
              go_wp2_with fail
              refine (HHC.out wr (HAW.out.below HB.out)).mono ?_
              rintro e w5 ⟨rfl, hb5⟩
              have HB5 := Lib.hid (HB.out.trans (hb5.mono hszr))
              have x1 := (hb5.cell (p := ⟨g, off + j, none⟩) (by simp; omega)).trans x1
              clear hb5
              go_wp2
              go_ret
              rw [HV.out]
              exact ⟨rfl, HB5.out⟩
        · have hz1 : ((q : Int) != 0) = true := by simp; omega
          have hst := HST.out
          rw [decide_eq_false hz] at hst
          have HV := Lib.hid (apTo_false (l := l) (A := A) (by rw [apTo, HAP.out, hst]; rfl : apTo A l (k + 1) = false) (by omega : k + 1 ≤ l.length))
          clear hst
          clear hz HJS
          go_wp2_with fail
          refine (HHC.out wr (HAW.out.below HB.out)).mono ?_
          rintro e w5 ⟨rfl, hb5⟩
          have HB5 := Lib.hid (HB.out.trans (hb5.mono hszr))
          clear hb5
          go_wp2
          go_ret
          rw [HV.out]
          exact ⟨rfl, HB5.out⟩
      · have HHC := HHC0
        rw [decide_eq_false hin] at HHC HST
        clear HHC0 HJS hin
        have HV := Lib.hid (apTo_false (l := l) (A := A) (by rw [apTo, HAP.out, HST.out]; rfl : apTo A l (k + 1) = false) (by omega : k + 1 ≤ l.length))
        go_wp2_with fail
        refine (HHC.out wr (HAW.out.below HB.out)).mono ?_
        rintro e w5 ⟨rfl, hb5⟩
        have HB5 := Lib.hid (HB.out.trans (hb5.mono hszr))
        clear hb5
        go_wp2
        go_ret
        rw [HV.out]
        exact ⟨rfl, HB5.out⟩
    · obtain rfl : k = l.length := by omega
      have HV := HAP
      have HB5 := HB
      go_wp2
      go_ret
      rw [HV.out]
      exact ⟨rfl, HB5.out⟩

set_option maxRecDepth 100000 in
set_option maxHeartbeats 3200000 in
theorem implPack (b : Int) (ad : Option Addr) (c : Nat) (xs : List Int) (sa : Option Addr) (cs : Nat) (ps : List (List Cl)) (al : Option Addr) (cl : Nat) (l : List Int) (w : World) (hn : xs.length ≤ 1048576) (hnp : ps.length ≤ 1048576) (hl : ∀ p ∈ ps, p.length ≤ 1048576) (hnl : l.length ≤ 1048576) (hc : CellsAt w ad (ints xs)) (hcp : ShpsAt w sa ps) (hcl : CellsAt w al (ints l)) :
    Calls Tryz.prog 15 #[.agg #[.int .i64 b, .slice ad xs.length c], .slice sa ps.length cs, .slice al l.length cl] w fun e w' => e = .returned (.bool (packR b xs ps l)) ∧ Below w.heap.size w w' := by
  have hdef : packR b xs ps l = (decide (Reg b xs) && (decide (Pcs ps) && apartL (allL b.toNat xs ps) l)) := rfl
  have HPR := Lib.hid (fun w' h1 h2 => implProb b ad c xs sa cs ps w' hn hnp hl h1 h2)
  have HC := Lib.hid hc
  have HCP := Lib.hid hcp
  have HCL := Lib.hid hcl
  clear hc hcp hcl
  obtain ⟨wA, hwA⟩ : ∃ wA, wA = w.alloc (.cells #[.int .i64 b, .slice ad xs.length c] 29) := ⟨_, rfl⟩
  have hbA : Below w.heap.size w wA := by rw [hwA]; exact (Below.refl _ _).alloc (Nat.le_refl _) _
  have hzA : wA.heap.size = w.heap.size + 1 := by rw [hwA]; simp
  have hblkA : wA.heap[w.heap.size]? = some (.cells #[.int .i64 b, .slice ad xs.length c] 29 (0, 0)) := by rw [hwA]; exact heap_alloc_new w _
  have HBA := Lib.hid hbA
  have HBLKA := Lib.hid hblkA
  have HWA := Lib.hid hwA
  have hszA := hbA.size
  clear hbA hblkA hwA
  by_cases hok : Reg b xs ∧ Pcs ps
  · obtain ⟨hr, hp⟩ := hok
    have hbn : b = (b.toNat : Int) := by have := hr.1.1; omega
    obtain ⟨B, hB⟩ : ∃ B, B = b.toNat := ⟨_, rfl⟩
    rw [← hB] at hbn hdef
    rw [decide_eq_true hr, decide_eq_true hp] at hdef HPR
    simp only [Bool.true_and] at hdef HPR
    have hrB : Reg (B : Int) xs := by rw [← hbn]; exact hr
    have hal0 := fun w' h1 h2 => implAll B ad c xs sa cs ps w' hrB hp h1 h2
    rw [← hbn] at hal0
    have HAL := Lib.hid hal0
    have hlen := allL_length hrB hp
    have HSM := Lib.hid (allL_small hrB ps)
    have HD := Lib.hid hdef
    clear hdef hal0 hrB hr hp hbn hB hl
    generalize allL B xs ps = A at HAL hlen HSM HD
    go_enter Tryz.func15, Tryz.ntmps15
    go_wp2_with fail
    rw [← HWA.out]
    refine (HPR.out wA (HC.out.below HBA.out) (HCP.out.below HBA.out)).mono ?_
    rintro e w1 ⟨rfl, hb1⟩
    have HB1 := Lib.hid (HBA.out.trans (hb1.mono hszA))
    have HBX1 := Lib.hid hb1
    have hsz1 := HB1.out.size
    have hs1A := hb1.size
    have hblk1 := (HBX1.out.block w.heap.size (by omega)).trans HBLKA.out
    have x10 : w1.cell? ⟨w.heap.size, 0, none⟩ = some (.int .i64 b) := by rw [cell_of_row w1 _ 0 _ _ _ hblk1]; rfl
    have x11 : w1.cell? ⟨w.heap.size, 1, none⟩ = some (.slice ad xs.length c) := by rw [cell_of_row w1 _ 1 _ _ _ hblk1]; rfl
    clear hblk1
    clear hb1
    go_wp2_with fail
    refine (HAL.out w1 (HC.out.below HB1.out) (HCP.out.below HB1.out)).mono ?_
    rintro e w3 ⟨a3, c3, rfl, ho3, hb3⟩
    have HB3 := Lib.hid (HB1.out.trans (hb3.mono hsz1))
    have hsz3 := HB3.out.size
    have HBL := Lib.hid (implApart a3 c3 A al cl l w3 (by omega) HSM.out hnl (ownsRow_cellsAt ho3) (HCL.out.below HB3.out))
    clear hb3 ho3
    go_wp2_with fail
    refine HBL.out.mono ?_
    rintro e w4 ⟨rfl, hb4⟩
    have HB4 := Lib.hid (HB3.out.trans (hb4.mono hsz3))
    clear hb4
    go_wp2
    go_ret
    rw [HD.out]
    exact ⟨rfl, HB4.out⟩
  · have hf : packR b xs ps l = false := by
      rw [hdef]
      by_cases h1 : Reg b xs
      · have h2 : ¬ Pcs ps := fun q => hok ⟨h1, q⟩
        rw [decide_eq_false h2]
        simp
      · rw [decide_eq_false h1]
        rfl
    have hf2 : (decide (Reg b xs) && decide (Pcs ps)) = false := by
      by_cases h1 : Reg b xs
      · have h2 : ¬ Pcs ps := fun q => hok ⟨h1, q⟩
        rw [decide_eq_false h2]
        simp
      · rw [decide_eq_false h1]
        rfl
    rw [hf2] at HPR
    have HD := Lib.hid hf
    clear hdef hf hf2 hok hl
    go_enter Tryz.func15, Tryz.ntmps15
    go_wp2_with fail
    rw [← HWA.out]
    refine (HPR.out wA (HC.out.below HBA.out) (HCP.out.below HBA.out)).mono ?_
    rintro e w1 ⟨rfl, hb1⟩
    have HB1 := Lib.hid (HBA.out.trans (hb1.mono hszA))
    have HBX1 := Lib.hid hb1
    have hsz1 := HB1.out.size
    have hs1A := hb1.size
    have hblk1 := (HBX1.out.block w.heap.size (by omega)).trans HBLKA.out
    have x10 : w1.cell? ⟨w.heap.size, 0, none⟩ = some (.int .i64 b) := by rw [cell_of_row w1 _ 0 _ _ _ hblk1]; rfl
    have x11 : w1.cell? ⟨w.heap.size, 1, none⟩ = some (.slice ad xs.length c) := by rw [cell_of_row w1 _ 1 _ _ _ hblk1]; rfl
    clear hblk1
    clear hb1
    go_wp2
    go_ret
    rw [HD.out]
    exact ⟨rfl, HB1.out⟩

set_option maxRecDepth 100000 in
set_option maxHeartbeats 3200000 in
theorem specPack (b : Int) (ad : Option Addr) (c : Nat) (xs : List Int) (sa : Option Addr) (cs : Nat) (ps : List (List Cl)) (al : Option Addr) (cl : Nat) (l : List Int) (w : World) (hn : xs.length ≤ 1048576) (hnp : ps.length ≤ 1048576) (hl : ∀ p ∈ ps, p.length ≤ 1048576) (hnl : l.length ≤ 1048576) (hc : CellsAt w ad (ints xs)) (hcp : ShpsAt w sa ps) (hcl : CellsAt w al (ints l)) :
    Calls Tryz.prog 13 #[.agg #[.int .i64 b, .slice ad xs.length c], .slice sa ps.length cs, .slice al l.length cl] w fun e w' => e = .returned (.bool (packR b xs ps l)) ∧ Below w.heap.size w w' := by
  have hdef : packR b xs ps l = (decide (Reg b xs) && (decide (Pcs ps) && apartL (allL b.toNat xs ps) l)) := rfl
  have HREG := Lib.hid (fun w' h => specReg b ad c xs w' hn h)
  have HPC := Lib.hid (fun w' h => specPieces sa cs ps w' hnp hl h)
  have HC := Lib.hid hc
  have HCP := Lib.hid hcp
  have HCL := Lib.hid hcl
  clear hc hcp hl hcl
  obtain ⟨wA, hwA⟩ : ∃ wA, wA = w.alloc (.cells #[.int .i64 b, .slice ad xs.length c] 29) := ⟨_, rfl⟩
  have hbA : Below w.heap.size w wA := by rw [hwA]; exact (Below.refl _ _).alloc (Nat.le_refl _) _
  have hzA : wA.heap.size = w.heap.size + 1 := by rw [hwA]; simp
  have hblkA : wA.heap[w.heap.size]? = some (.cells #[.int .i64 b, .slice ad xs.length c] 29 (0, 0)) := by rw [hwA]; exact heap_alloc_new w _
  have HBA := Lib.hid hbA
  have HBLKA := Lib.hid hblkA
  have HWA := Lib.hid hwA
  have hszA := hbA.size
  clear hbA hblkA hwA
  by_cases hr : Reg b xs
  · by_cases hp : Pcs ps
    · have hbn : b = (b.toNat : Int) := by have := hr.1.1; omega
      obtain ⟨B, hB⟩ : ∃ B, B = b.toNat := ⟨_, rfl⟩
      rw [← hB] at hbn hdef
      rw [decide_eq_true hr] at hdef HREG
      rw [decide_eq_true hp] at hdef HPC
      simp only [Bool.true_and] at hdef
      have hrB : Reg (B : Int) xs := by rw [← hbn]; exact hr
      have hal0 := fun w' h1 h2 => specAll B ad c xs sa cs ps w' hrB hp h1 h2
      rw [← hbn] at hal0
      have HAL := Lib.hid hal0
      have hlen := allL_length hrB hp
      have HSM := Lib.hid (allL_small hrB ps)
      clear hal0 hrB hr hp hbn hB
      generalize allL B xs ps = A at HAL hlen HSM hdef
      have hdef2 : apartL A l = apTo A l l.length := rfl
      rw [hdef2] at hdef
      have HD := Lib.hid hdef
      clear hdef hdef2
      go_enter Tryz.func13, Tryz.ntmps13
      go_wp2_with fail
      rw [← HWA.out]
      refine (HREG.out wA (HC.out.below HBA.out)).mono ?_
      rintro e w1 ⟨rfl, hb1⟩
      have HB1 := Lib.hid (HBA.out.trans (hb1.mono hszA))
      have HBX1 := Lib.hid hb1
      have hsz1 := HB1.out.size
      have hs1A := hb1.size
      have hblk1 := (HBX1.out.block w.heap.size (by omega)).trans HBLKA.out
      have x10 : w1.cell? ⟨w.heap.size, 0, none⟩ = some (.int .i64 b) := by rw [cell_of_row w1 _ 0 _ _ _ hblk1]; rfl
      have x11 : w1.cell? ⟨w.heap.size, 1, none⟩ = some (.slice ad xs.length c) := by rw [cell_of_row w1 _ 1 _ _ _ hblk1]; rfl
      clear hblk1
      clear hb1
      go_wp2_with fail
      refine (HPC.out w1 (HCP.out.below HB1.out)).mono ?_
      rintro e w2 ⟨rfl, hb2⟩
      have HB2 := Lib.hid (HB1.out.trans (hb2.mono hsz1))
      have hsz2 := HB2.out.size
      have hs21 := hb2.size
      have y0 := (hb2.cell (p := ⟨w.heap.size, 0, none⟩) (by simp; omega)).trans x10
      have y1 := (hb2.cell (p := ⟨w.heap.size, 1, none⟩) (by simp; omega)).trans x11
      clear hb2 x10 x11
      go_wp2_with fail
      refine (HAL.out w2 (HC.out.below HB2.out) (HCP.out.below HB2.out)).mono ?_
      rintro e w3 ⟨aa, ca, rfl, ho3, hb3⟩
      have HB3 := Lib.hid (HB2.out.trans (hb3.mono hsz2))
      have hsz3 := HB3.out.size
      have HAW := Lib.hid (ownsRow_cellsAt ho3)
      have HLW := Lib.hid (HCL.out.below HB3.out)
      have hlA : A.length ≤ 1048576 := by omega
      clear hb3 ho3 y0 y1 hlen
      go_wp2
      go_loopw [8, 9] (fun uv i wr => ∃ k U : Nat, k ≤ l.length ∧ i = .int .i64 k ∧ uv = .int .i64 U ∧ U = usedTo l k ∧ U < 68719476736 ∧ apTo A l k = true ∧ Below w3.heap.size w3 wr) (fun _ i _ => l.length - (intOf i).toNat)
      case atStart => exact ⟨0, 0, Nat.zero_le _, rfl, rfl, rfl, by decide, rfl, Below.refl _ _⟩
      case round =>
        obtain ⟨k, U, hk, rfl, rfl, hU, hUl, hap, hb⟩ := hrel
        have HAP := Lib.hid hap
        have HB := Lib.hid hb
        have HUU := Lib.hid hU
        have hszr := hb.size
        clear hap hb hU
        by_cases hlt : k < l.length
        · obtain ⟨g, off, rfl, hg, hcc⟩ := HLW.out.open (by rw [ints_length]; omega)
          have x0 := (HB.out.cell (p := ⟨g, off + k, none⟩) hg).trans (hcc k _ (ints_at l k hlt))
          have i1 : (k : Int) < (l.length : Int) := by omega
          have hst0 := apStep_at A l k hlt
          have hnx0 := usedTo_at l k hlt
          rw [← HUU.out] at hst0 hnx0
          have HHC0 := Lib.hid (fun w' h => spec7Has aa ca A l[k] w' hlA h)
          have HST := Lib.hid hst0
          have HNX := Lib.hid hnx0
          clear hst0 hnx0
          have hjs : ∀ j, k = j + 1 → ∃ h : j < l.length, l.getD (k - 1) 0 = l[j] := fun j hj => ⟨by omega, by subst hj; simp [List.getD_eq_getElem?_getD, List.getElem?_eq_getElem (show j < l.length by omega)]⟩
          have HJS := Lib.hid hjs
          clear hjs
          generalize l[k] = v at x0 HHC0 HST HNX
          by_cases hin : v ∈ A
          · have hsm := HSM.out _ hin
            have HHC := HHC0
            rw [decide_eq_true hin] at HHC HST
            clear HHC0
            obtain ⟨u, rfl⟩ : ∃ u : Nat, v = (u : Int) := ⟨v.toNat, by have := hsm.1; omega⟩
            have hu : u < 68719476736 := by have := hsm.2; omega
            rw [Int.toNat_natCast] at HST HNX
            have hand := i64_and_nat U u (by omega) (by omega)
            have hor := i64_or_nat U u (by omega) (by omega)
            have hm0 : U ||| u < 68719476736 := Nat.or_lt_two_pow (n := 36) hUl hu
            obtain ⟨q, hq⟩ : ∃ q, q = U &&& u := ⟨_, rfl⟩
            obtain ⟨m2, hm2⟩ : ∃ m2, m2 = U ||| u := ⟨_, rfl⟩
            rw [← hm2] at hor hm0 HNX
            rw [← hq] at hand HST
            have HLT := Lib.hid hm0
            clear hq hm2 hin hsm hu hm0
            by_cases hz : q = 0
            · subst hz
              have hz1 : (((0 : Nat) : Int) != 0) = false := rfl
              rcases Nat.eq_zero_or_pos k with h0 | h0
              · have g0 : decide ((0 : Int) < (k : Int)) = false := decide_eq_false (by omega)
                have g0n : decide (0 < k) = false := decide_eq_false (by omega)
                clear HJS
                have hap2 : apTo A l (k + 1) = true := by rw [apTo, HAP.out, HST.out]; simp [h0]
                have HAP2 := Lib.hid hap2
                clear hap2
                clear h0
                have X0 := cell_regrown x0
                have HCALL := Lib.hid (fun d os => Calls.regrown_of (d := d) (os := os) (HHC.out (Go.Sort.grow (redrawn wr d) os) (HAW.out.below (HB.out.trans ((below_regrown wr d os).mono hszr)))))
                clear x0
                go_wp2
                refine wp_region_quiet_below (by kernel_rfl) (by kernel_rfl) ?_
                repeat (go_big_quiet_step (exact HCALL.out _ _))
                refine wpQuiet_nil ?_
                intro _ hw'
                obtain ⟨⟨dq, osq⟩, hw''⟩ := hw'
                subst hw''
                have hb5r := below_regrown wr dq osq
                have x0 := X0 dq osq
                generalize Go.Sort.grow (redrawn wr dq) osq = w5 at hb5r x0 ⊢
                have HB5 := Lib.hid (HB.out.trans (hb5r.mono hszr))
                clear hb5r X0
                go_wp2
                go_roundw
                case rel => exact ⟨k + 1, m2, by omega, by go_num, rfl, HNX.out, HLT.out, HAP2.out, HB5.out⟩
                case measure => simp [intOf]; omega
              · obtain ⟨j, hj⟩ : ∃ j, k = j + 1 := ⟨k - 1, by omega⟩
                obtain ⟨hjl, hpj⟩ := HJS.out j hj
                have g0 : decide ((0 : Int) < (k : Int)) = true := decide_eq_true (by omega)
                have g0n : decide (0 < k) = true := decide_eq_true (by omega)
                have tk : wrap64 ((k : Int) - 1) = (j : Int) := by rw [hj]; push_cast; rw [Int.add_sub_cancel]; exact wrap_nat (by omega)
                have tk2 : IntKind.i64.wrap ((k : Int) - 1) = (j : Int) := by rw [IntWalk.i64_left]; exact tk
                have i2 : (j : Int) < (l.length : Int) := by omega
                rw [hpj] at HST
                have x1 := (HB.out.cell (p := ⟨g, off + j, none⟩) hg).trans (hcc j _ (ints_at l j hjl))
                clear hpj HJS
                generalize l[j] = p at x1 HST
                have HJ := Lib.hid hj
                have hk0 : ¬ k = 0 := by omega
                clear hj
                by_cases hpv : p < (u : Int)
                · have gv : decide ((u : Int) ≤ p) = false := decide_eq_false (by omega)
                  have hap2 : apTo A l (k + 1) = true := by rw [apTo, HAP.out, HST.out]; simp [hpv]
                  have HAP2 := Lib.hid hap2
                  clear hap2
                  clear hpv hk0
                  have X0 := cell_regrown x0
                  have X1 := cell_regrown x1
                  have HCALL := Lib.hid (fun d os => Calls.regrown_of (d := d) (os := os) (HHC.out (Go.Sort.grow (redrawn wr d) os) (HAW.out.below (HB.out.trans ((below_regrown wr d os).mono hszr)))))
                  clear x0 x1
                  go_wp2
                  refine wp_region_quiet_below (by kernel_rfl) (by kernel_rfl) ?_
                  repeat (go_big_quiet_step (exact HCALL.out _ _))
                  refine wpQuiet_nil ?_
                  intro _ hw'
                  obtain ⟨⟨dq, osq⟩, hw''⟩ := hw'
                  subst hw''
                  have hb5r := below_regrown wr dq osq
                  have x0 := X0 dq osq
                  generalize Go.Sort.grow (redrawn wr dq) osq = w5 at hb5r x0 ⊢
                  have HB5 := Lib.hid (HB.out.trans (hb5r.mono hszr))
                  clear hb5r X0 X1
                  go_wp2
                  go_roundw
                  case rel => exact ⟨k + 1, m2, by omega, by go_num, rfl, HNX.out, HLT.out, HAP2.out, HB5.out⟩
                  case measure => simp [intOf]; omega
                · have gv : decide ((u : Int) ≤ p) = true := decide_eq_true (by omega)
                  have hst := HST.out
                  rw [decide_eq_false hpv, decide_eq_false hk0] at hst
                  have HV := Lib.hid (apTo_false (l := l) (A := A) (by rw [apTo, HAP.out, hst]; rfl : apTo A l (k + 1) = false) (by omega : k + 1 ≤ l.length))
                  clear hst
                  clear hpv hk0
                  have X0 := cell_regrown x0
                  have X1 := cell_regrown x1
                  have HCALL := Lib.hid (fun d os => Calls.regrown_of (d := d) (os := os) (HHC.out (Go.Sort.grow (redrawn wr d) os) (HAW.out.below (HB.out.trans ((below_regrown wr d os).mono hszr)))))
                  clear x0 x1
                  go_wp2
                  refine wp_region_quiet_below (by kernel_rfl) (by kernel_rfl) ?_
                  repeat (go_big_quiet_step (exact HCALL.out _ _))
                  refine wpQuiet_nil ?_
                  intro _ hw'
                  obtain ⟨⟨dq, osq⟩, hw''⟩ := hw'
                  subst hw''
                  have hb5r := below_regrown wr dq osq
                  have x0 := X0 dq osq
                  generalize Go.Sort.grow (redrawn wr dq) osq = w5 at hb5r x0 ⊢
                  have HB5 := Lib.hid (HB.out.trans (hb5r.mono hszr))
                  clear hb5r X0 X1
                  go_wp2
                  go_ret
                  rw [HD.out, HV.out]
                  exact ⟨rfl, HB3.out.trans (HB5.out.mono hsz3)⟩
            · have hz1 : ((q : Int) != 0) = true := by simp; omega
              have hst := HST.out
              rw [decide_eq_false hz] at hst
              have HV := Lib.hid (apTo_false (l := l) (A := A) (by rw [apTo, HAP.out, hst]; rfl : apTo A l (k + 1) = false) (by omega : k + 1 ≤ l.length))
              clear hst
              clear hz HJS
              have X0 := cell_regrown x0
              have HCALL := Lib.hid (fun d os => Calls.regrown_of (d := d) (os := os) (HHC.out (Go.Sort.grow (redrawn wr d) os) (HAW.out.below (HB.out.trans ((below_regrown wr d os).mono hszr)))))
              clear x0
              go_wp2
              refine wp_region_quiet_below (by kernel_rfl) (by kernel_rfl) ?_
              repeat (go_big_quiet_step (exact HCALL.out _ _))
              refine wpQuiet_nil ?_
              intro _ hw'
              obtain ⟨⟨dq, osq⟩, hw''⟩ := hw'
              subst hw''
              have hb5r := below_regrown wr dq osq
              have x0 := X0 dq osq
              generalize Go.Sort.grow (redrawn wr dq) osq = w5 at hb5r x0 ⊢
              have HB5 := Lib.hid (HB.out.trans (hb5r.mono hszr))
              clear hb5r X0
              go_wp2
              go_ret
              rw [HD.out, HV.out]
              exact ⟨rfl, HB3.out.trans (HB5.out.mono hsz3)⟩
          · have HHC := HHC0
            rw [decide_eq_false hin] at HHC HST
            clear HHC0 HJS hin
            have HV := Lib.hid (apTo_false (l := l) (A := A) (by rw [apTo, HAP.out, HST.out]; rfl : apTo A l (k + 1) = false) (by omega : k + 1 ≤ l.length))
            have X0 := cell_regrown x0
            have HCALL := Lib.hid (fun d os => Calls.regrown_of (d := d) (os := os) (HHC.out (Go.Sort.grow (redrawn wr d) os) (HAW.out.below (HB.out.trans ((below_regrown wr d os).mono hszr)))))
            clear x0
            go_wp2
            refine wp_region_quiet_below (by kernel_rfl) (by kernel_rfl) ?_
            repeat (go_big_quiet_step (exact HCALL.out _ _))
            refine wpQuiet_nil ?_
            intro _ hw'
            obtain ⟨⟨dq, osq⟩, hw''⟩ := hw'
            subst hw''
            have hb5r := below_regrown wr dq osq
            have x0 := X0 dq osq
            generalize Go.Sort.grow (redrawn wr dq) osq = w5 at hb5r x0 ⊢
            have HB5 := Lib.hid (HB.out.trans (hb5r.mono hszr))
            clear hb5r X0
            go_wp2
            go_ret
            rw [HD.out, HV.out]
            exact ⟨rfl, HB3.out.trans (HB5.out.mono hsz3)⟩
        · obtain rfl : k = l.length := by omega
          have HV := HAP
          have HB5 := HB
          go_wp2
          go_ret
          rw [HD.out, HV.out]
          exact ⟨rfl, HB3.out.trans (HB5.out.mono hsz3)⟩
    · rw [decide_eq_false hp, decide_eq_true hr] at hdef
      simp only [Bool.true_and, Bool.false_and] at hdef
      rw [decide_eq_true hr] at HREG
      rw [decide_eq_false hp] at HPC
      have HD := Lib.hid hdef
      clear hdef hr hp
      go_enter Tryz.func13, Tryz.ntmps13
      go_wp2_with fail
      rw [← HWA.out]
      refine (HREG.out wA (HC.out.below HBA.out)).mono ?_
      rintro e w1 ⟨rfl, hb1⟩
      have HB1 := Lib.hid (HBA.out.trans (hb1.mono hszA))
      have HBX1 := Lib.hid hb1
      have hsz1 := HB1.out.size
      have hs1A := hb1.size
      have hblk1 := (HBX1.out.block w.heap.size (by omega)).trans HBLKA.out
      have x10 : w1.cell? ⟨w.heap.size, 0, none⟩ = some (.int .i64 b) := by rw [cell_of_row w1 _ 0 _ _ _ hblk1]; rfl
      have x11 : w1.cell? ⟨w.heap.size, 1, none⟩ = some (.slice ad xs.length c) := by rw [cell_of_row w1 _ 1 _ _ _ hblk1]; rfl
      clear hblk1
      clear hb1
      go_wp2_with fail
      refine (HPC.out w1 (HCP.out.below HB1.out)).mono ?_
      rintro e w2 ⟨rfl, hb2⟩
      have HB2 := Lib.hid (HB1.out.trans (hb2.mono hsz1))
      have hsz2 := HB2.out.size
      have hs21 := hb2.size
      have y0 := (hb2.cell (p := ⟨w.heap.size, 0, none⟩) (by simp; omega)).trans x10
      have y1 := (hb2.cell (p := ⟨w.heap.size, 1, none⟩) (by simp; omega)).trans x11
      clear hb2 x10 x11
      go_wp2
      go_ret
      rw [HD.out]
      exact ⟨rfl, HB2.out⟩
  · rw [decide_eq_false hr] at hdef HREG
    simp only [Bool.false_and] at hdef
    have HD := Lib.hid hdef
    clear hdef hr
    go_enter Tryz.func13, Tryz.ntmps13
    go_wp2_with fail
    rw [← HWA.out]
    refine (HREG.out wA (HC.out.below HBA.out)).mono ?_
    rintro e w1 ⟨rfl, hb1⟩
    have HB1 := Lib.hid (HBA.out.trans (hb1.mono hszA))
    have HBX1 := Lib.hid hb1
    have hsz1 := HB1.out.size
    have hs1A := hb1.size
    have hblk1 := (HBX1.out.block w.heap.size (by omega)).trans HBLKA.out
    have x10 : w1.cell? ⟨w.heap.size, 0, none⟩ = some (.int .i64 b) := by rw [cell_of_row w1 _ 0 _ _ _ hblk1]; rfl
    have x11 : w1.cell? ⟨w.heap.size, 1, none⟩ = some (.slice ad xs.length c) := by rw [cell_of_row w1 _ 1 _ _ _ hblk1]; rfl
    clear hblk1
    clear hb1
    go_wp2
    go_ret
    rw [HD.out]
    exact ⟨rfl, HB1.out⟩

end Go.Proofs.YtipikojinfpidaaGreat
