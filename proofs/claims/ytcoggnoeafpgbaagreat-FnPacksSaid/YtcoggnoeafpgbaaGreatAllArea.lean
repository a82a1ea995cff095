/- AllArea: parts laid together: Area0, AreaX, Prob, AreaW. -/
import Derived.Test.YtcoggnoeafpgbaaGreatAllReg
import Derived.Test.YtcoggnoeafpgbaaGreatAllCr
import Derived.Test.YtcoggnoeafpgbaaGreatAllPl
import Derived.Test.YtcoggnoeafpgbaaGreatAllOnes
import Derived.Test.YtcoggnoeafpgbaaGreatAllHead
import Derived.Test.YtcoggnoeafpgbaaGreatAllPlac
import Derived.Test.YtcoggnoeafpgbaaGreatAllFrame
import Derived.Deep.DrawnRows

/- Area0: the cells of a region, row by row; how many they are; they are the places of the region's mask; plain. -/
namespace Go.Proofs.YtcoggnoeafpgbaaGreat
open Go.RowKit

/-- The cells of one row before a column. -/
def rowC (y row x : Nat) : List Cl := (smBits x row).map fun i : Nat => (⟨(i : Int), (y : Int)⟩ : Cl)
theorem rowC_yes {y row x : Nat} (h : row.testBit x = true) : rowC y row (x + 1) = rowC y row x ++ [⟨(x : Int), (y : Int)⟩] := by
  unfold rowC
  rw [smBits_succ, h, if_pos rfl, List.map_append]
  rfl
theorem rowC_no {y row x : Nat} (h : row.testBit x = false) : rowC y row (x + 1) = rowC y row x := by
  unfold rowC
  rw [smBits_succ, h, if_neg (by decide), List.append_nil]
theorem rowC_length (y row x : Nat) : (rowC y row x).length = (smBits x row).length := by unfold rowC; rw [List.length_map]
/-- The cells of the first rows. -/
def cellsTo (B : Nat) (xs : List Int) : Nat → List Cl
  | 0 => []
  | k + 1 => cellsTo B xs k ++ rowC k ((regN xs).getD k 0) B
def cellsR (b : Int) (xs : List Int) : List Cl := if Reg b xs then cellsTo b.toNat xs xs.length else []
/-- How many they are. -/
def areaTo (xs : List Int) : Nat → Nat
  | 0 => 0
  | k + 1 => areaTo xs k + pc ((regN xs).getD k 0)
theorem smBits_all {n m : Nat} (h : m < 2 ^ n) (hn : n ≤ 36) : (smBits n m).length = pc m := by
  have e : smBits 36 m = smBits n m := smBits_of_zero n m 36 hn (Nat.div_eq_of_lt h)
  rw [← e]
  unfold pc smBits
  rw [List.countP_eq_length_filter]
theorem cellsTo_length {B : Nat} {xs : List Int} (h : ∀ x ∈ regN xs, x < 2 ^ B) (hB : B ≤ 36) : ∀ k, k ≤ xs.length → (cellsTo B xs k).length = areaTo xs k
  | 0, _ => rfl
  | k + 1, hk => by
    rw [cellsTo, areaTo, List.length_append, cellsTo_length h hB k (by omega), rowC_length, smBits_all _ hB]
    rw [List.getD_eq_getElem?_getD, List.getElem?_eq_getElem (by rw [regN_length]; omega)]
    exact h _ (List.getElem_mem _)
theorem areaTo_le {xs : List Int} {B : Nat} (h : ∀ x ∈ regN xs, x < 2 ^ B) (hB : B ≤ 6) : ∀ k, k ≤ xs.length → areaTo xs k ≤ 6 * k
  | 0, _ => Nat.le_refl _
  | k + 1, hk => by
    have h1 := areaTo_le h hB k (by omega)
    have hlt : (regN xs).getD k 0 < 2 ^ B := by
      rw [List.getD_eq_getElem?_getD, List.getElem?_eq_getElem (by rw [regN_length]; omega)]
      exact h _ (List.getElem_mem _)
    have h2 := smBits_all hlt (by omega)
    have h3 := smBits_length_le B ((regN xs).getD k 0)
    rw [areaTo]
    omega
/-- The area of a region, -1 if it is none. -/
def areaR (b : Int) (xs : List Int) : Int := if Reg b xs then (areaTo xs xs.length : Nat) else -1
theorem maskTo_test {W : Nat} {ns : List Nat} (h : ∀ x ∈ ns, x < 2 ^ W) (y x : Nat) (hx : x < W) : ∀ k, k ≤ ns.length → y < k → (maskTo W ns k).testBit (y * W + x) = (ns.getD y 0).testBit x
  | 0, _, hy => absurd hy (Nat.not_lt_zero _)
  | k + 1, hk, hy => by
    have h1 := maskTo_lt h k (by omega)
    have hm : maskTo W ns (k + 1) = 2 ^ (k * W) * ns.getD k 0 + maskTo W ns k := by rw [maskTo, Nat.mul_comm, Nat.add_comm]
    rw [hm, Nat.testBit_two_pow_mul_add _ h1]
    by_cases e : y < k
    · have h2 : (y + 1) * W ≤ k * W := Nat.mul_le_mul_right _ e
      rw [Nat.succ_mul] at h2
      rw [if_pos (by omega)]
      exact maskTo_test h y x hx k (by omega) e
    · obtain rfl : y = k := by omega
      rw [if_neg (by omega), Nat.add_sub_cancel_left]
theorem maskTo_bits {W : Nat} {ns : List Nat} (h : ∀ x ∈ ns, x < 2 ^ W) : ∀ k, k ≤ ns.length → smBits (k * W) (maskTo W ns k) = ((List.range k).flatMap fun y => (smBits W (ns.getD y 0)).map (y * W + ·))
  | 0, _ => by simp [smBits]
  | k + 1, hk => by
    have h1 := maskTo_lt h k (by omega)
    have ih := maskTo_bits h k (by omega)
    have hx : ns.getD k 0 < 2 ^ W := by
      rw [List.getD_eq_getElem?_getD, List.getElem?_eq_getElem (by omega)]
      exact h _ (List.getElem_mem _)
    rw [List.range_succ, List.flatMap_append, ← ih, List.flatMap_singleton]
    have hm : maskTo W ns (k + 1) = 2 ^ (k * W) * ns.getD k 0 + maskTo W ns k := by rw [maskTo, Nat.mul_comm, Nat.add_comm]
    have hlow : ∀ i, i < k * W → (maskTo W ns (k + 1)).testBit i = (maskTo W ns k).testBit i := fun i hi => by
      rw [hm, Nat.testBit_two_pow_mul_add _ h1, if_pos hi]
    have hhigh : ∀ i, (maskTo W ns (k + 1)).testBit (k * W + i) = (ns.getD k 0).testBit i := fun i => by
      rw [hm, Nat.testBit_two_pow_mul_add _ h1, if_neg (by omega), Nat.add_sub_cancel_left]
    unfold smBits
    rw [Nat.succ_mul, List.range_add, List.filter_append, List.filter_map]
    congr 1
    · exact List.filter_congr fun i hi => hlow i (List.mem_range.1 hi)
    · congr 1
      exact List.filter_congr fun i _ => hhigh i
theorem cellsTo_place (B : Nat) (xs : List Int) : ∀ k, (cellsTo B xs k).map (pbit B) = (List.range k).flatMap fun y => (smBits B ((regN xs).getD y 0)).map (y * B + ·)
  | 0 => rfl
  | k + 1 => by
    rw [cellsTo, List.map_append, cellsTo_place B xs k, List.range_succ, List.flatMap_append, List.flatMap_singleton]
    congr 1
    unfold rowC
    rw [List.map_map]
    refine List.map_congr_left fun i _ => ?_
    show ((k : Int)).toNat * B + ((i : Int)).toNat = k * B + i
    rw [Int.toNat_natCast, Int.toNat_natCast]
theorem cellsR_place {B : Nat} {xs : List Int} (hr : Reg (B : Int) xs) : (cellsR B xs).map (pbit B) = smBits (xs.length * B) (regMask B xs) := by
  have hl := regN_length xs
  unfold cellsR
  rw [if_pos hr, Int.toNat_natCast, cellsTo_place, regMask, Int.toNat_natCast]
  have := maskTo_bits (by have := reg_nat hr; rwa [Int.toNat_natCast] at this) xs.length (by rw [hl]; exact Nat.le_refl _)
  rw [this]
end Go.Proofs.YtcoggnoeafpgbaaGreat

/- AreaX: the walks of AreaOf, the reference's and the program's, and of CellsOf. -/
namespace Go.Proofs.YtcoggnoeafpgbaaGreat
open Go.RowKit

theorem onesPc (x : Nat) (hx : x < 68719476736) (w : World) :
    Calls Tryz.prog 51 #[.int .u64 x] w fun e w' => e = .returned (.int .i64 (pc x : Nat)) ∧ w' = w := by
  have h := implOnes x (Nat.lt_trans hx (by decide)) w
  rw [digS_small hx] at h
  exact h

set_option maxRecDepth 100000 in
set_option maxHeartbeats 1600000 in
theorem implArea (b : Int) (ad : Option Addr) (c : Nat) (xs : List Int) (w : World) (hn : xs.length ≤ 1048576) (hc : CellsAt w ad (ints xs)) :
    Calls Tryz.prog 68 #[.agg #[.int .i64 b, .slice ad xs.length c]] w fun e w' => e = .returned (.int .i64 (areaR b xs)) ∧ Below w.heap.size w w' := by
  have hreg := fun w h => implReg b ad c xs w hn h
  have HC := Lib.hid hc
  clear hc
  obtain ⟨wA, hwA⟩ : ∃ wA, wA = w.alloc (.cells #[.int .i64 b, .slice ad xs.length c] 29) := ⟨_, rfl⟩
  have hbA : Below w.heap.size w wA := by rw [hwA]; exact (Below.refl _ _).alloc (Nat.le_refl _) _
  have hzA : wA.heap.size = w.heap.size + 1 := by rw [hwA]; simp
  have hblkA : wA.heap[w.heap.size]? = some (.cells #[.int .i64 b, .slice ad xs.length c] 29 (0, 0)) := by rw [hwA]; exact heap_alloc_new w _
  have HBA := Lib.hid hbA
  have HBLKA := Lib.hid hblkA
  have HWA := Lib.hid hwA
  have hszA := hbA.size
  clear hbA hblkA hwA
  by_cases hr : Reg b xs
  · rw [decide_eq_true hr] at hreg
    have hv : areaR b xs = (areaTo xs xs.length : Nat) := if_pos hr
    rw [hv]
    have hb6 : b.toNat ≤ 6 := by have := hr.1; omega
    have hnat := reg_nat hr
    have hle := fun k hk => areaTo_le hnat hb6 k hk
    have hx64 : ∀ k (hk : k < xs.length), ∃ r : Nat, xs[k] = (r : Int) ∧ (regN xs).getD k 0 = r ∧ r < 64 := by
      intro k hk
      obtain ⟨h1, h2⟩ := hr.2.2 xs[k] (List.getElem_mem hk)
      refine ⟨xs[k].toNat, by omega, regN_at hk, ?_⟩
      have h3 := hnat ((regN xs).getD k 0) (by rw [List.getD_eq_getElem?_getD, List.getElem?_eq_getElem (by rw [regN_length]; exact hk)]; exact List.getElem_mem _)
      rw [regN_at hk] at h3
      exact Nat.lt_of_lt_of_le h3 (Nat.pow_le_pow_right (by decide) hb6)
    have hl6 : xs.length ≤ 6 := hr.2.1.2
    have HREG := Lib.hid hreg
    have HLE := Lib.hid hle
    have HX := Lib.hid hx64
    clear hreg hv hr hnat hle hx64
    go_enter Tryz.func68, Tryz.ntmps68
    go_wp2_with fail
    rw [← HWA.out]
    refine (HREG.out wA (HC.out.below HBA.out)).mono ?_
    rintro e w1 ⟨rfl, hb1⟩
    have HB1 := Lib.hid (HBA.out.trans (hb1.mono hszA))
    have hsz1 := HB1.out.size
    have hblk1 := (hb1.block w.heap.size (by omega)).trans HBLKA.out
    have x10 : w1.cell? ⟨w.heap.size, 0, none⟩ = some (.int .i64 b) := by rw [cell_of_row w1 _ 0 _ _ _ hblk1]; rfl
    have x11 : w1.cell? ⟨w.heap.size, 1, none⟩ = some (.slice ad xs.length c) := by rw [cell_of_row w1 _ 1 _ _ _ hblk1]; rfl
    have HC1 := Lib.hid (HC.out.below HB1.out)
    clear hblk1 hb1
    go_wp2
    go_loopw [3, 12] (fun v i wr => ∃ k : Nat, k ≤ xs.length ∧ i = .int .i64 k ∧ v = .int .i64 (areaTo xs k : Nat) ∧ wr = w1) (fun _ i _ => xs.length - (intOf i).toNat)
    case atStart => exact ⟨0, Nat.zero_le _, rfl, rfl, rfl⟩
    case round =>
      obtain ⟨k, hk, rfl, rfl, hwr⟩ := hrel
      have HWR := Lib.hid hwr
      have ha := HLE.out k hk
      by_cases hlt : k < xs.length
      · obtain ⟨g, off, rfl, hg, hcc⟩ := HC1.out.open (by rw [ints_length]; omega)
        have x0 := hcc k _ (ints_at xs k hlt)
        rw [← hwr] at x0
        obtain ⟨r, hr1, hr2, hr3⟩ := HX.out k hlt
        rw [hr1] at x0
        have hsu : areaTo xs (k + 1) = areaTo xs k + pc r := by rw [areaTo, hr2]
        have ha2 := HLE.out (k + 1) hlt
        rw [hsu] at ha2
        have HSU := Lib.hid hsu
        have HON := Lib.hid (onesPc r (by omega) wr)
        have hwu : IntKind.u64.wrap (r : Int) = (r : Int) := IntWalk.u64_in _ (by omega)
        have i1 : (k : Int) < (xs.length : Int) := by omega
        clear hcc hr1 hr2 hsu hwr
        generalize areaTo xs k = a0 at ha ha2 HSU ⊢
        generalize pc r = p0 at ha2 HSU HON
        go_wp2_with fail
        refine HON.out.mono ?_
        rintro e w5 ⟨rfl, rfl⟩
        go_wp2
        go_roundw
        case rel => exact ⟨k + 1, hlt, by go_num, by rw [HSU.out]; go_num, HWR.out⟩
        case measure => simp [intOf]; omega
      · obtain rfl : k = xs.length := by omega
        go_wp2
        go_ret
        exact ⟨rfl, by first | exact HB1.out | (rw [HWR.out]; exact HB1.out)⟩
  · rw [decide_eq_false hr] at hreg
    have hv : areaR b xs = -1 := if_neg hr
    rw [hv]
    have HREG := Lib.hid hreg
    clear hreg hv hr
    go_enter Tryz.func68, Tryz.ntmps68
    go_wp2_with fail
    rw [← HWA.out]
    refine (HREG.out wA (HC.out.below HBA.out)).mono ?_
    rintro e w1 ⟨rfl, hb1⟩
    have HB1 := Lib.hid (HBA.out.trans (hb1.mono hszA))
    clear hb1
    go_wp2
    go_ret
    exact ⟨rfl, HB1.out⟩

set_option maxRecDepth 100000 in
set_option maxHeartbeats 1600000 in
theorem specCellsOf (B : Nat) (ad : Option Addr) (c : Nat) (xs : List Int) (w : World) (hr : Reg (B : Int) xs) (hc : CellsAt w ad (ints xs)) :
    Calls Tryz.prog 53 #[.agg #[.int .i64 B, .slice ad xs.length c]] w fun e w' => ∃ ad' c', e = .returned (.slice ad' (cellsTo B xs xs.length).length c') ∧ w'.ownsRow w.heap.size 81 2 (.slice ad' (cellsTo B xs xs.length).length c') (cellsTo B xs xs.length).length (cls (cellsTo B xs xs.length)) ∧ Below w.heap.size w w' := by
  have hl6 : xs.length ≤ 6 := hr.2.1.2
  have hb6 : B ≤ 6 := by have := hr.1.2; omega
  have hreg := fun w h => specReg (B : Int) ad c xs w (by omega) h
  rw [decide_eq_true hr] at hreg
  have hin := fun X Y w h1 h2 h => specL6 B X Y ad c xs w hr h1 h2 h
  have hnat : ∀ x ∈ regN xs, x < 2 ^ B := by have := reg_nat hr; rwa [Int.toNat_natCast] at this
  have hlen := fun k hk => cellsTo_length hnat (show B ≤ 36 by omega) k hk
  have hle := fun k hk => areaTo_le hnat hb6 k hk
  have HREG := Lib.hid hreg
  have HIN := Lib.hid hin
  have HLEN := Lib.hid (fun k hk => Nat.le_trans (Nat.le_of_eq (hlen k hk)) (hle k hk))
  have HC := Lib.hid hc
  clear hc hreg hin hlen hle hnat hr
  obtain ⟨wA, hwA⟩ : ∃ wA, wA = (w.alloc (.cells #[.int .i64 B, .slice ad xs.length c] 29)).alloc (.cells #[] 81) := ⟨_, rfl⟩
  have hbA : Below w.heap.size w wA := by rw [hwA]; exact ((Below.refl _ _).alloc (Nat.le_refl _) _).alloc (by simp) _
  have hzA : wA.heap.size = w.heap.size + 2 := by rw [hwA]; simp
  have hblkA : wA.heap[w.heap.size]? = some (.cells #[.int .i64 B, .slice ad xs.length c] 29 (0, 0)) := by
    rw [hwA, Below.heap_alloc _ _ _ (by simp)]
    exact heap_alloc_new w _
  have hoA : wA.ownsRow (w.heap.size + 1) 81 2 (.slice (some ⟨w.heap.size + 1, 0, none⟩) 0 0) 0 [] := by
    have h := ownsRow_empty (w.alloc (.cells #[.int .i64 B, .slice ad xs.length c] 29)) 81 2
    rw [hwA]
    simpa using h
  have HBA := Lib.hid hbA
  have HBLKA := Lib.hid hblkA
  have HWA := Lib.hid hwA
  have HOA := Lib.hid hoA
  have hszA := hbA.size
  clear hbA hblkA hwA hoA
  go_enter Tryz.func53, Tryz.ntmps53
  go_wp2
  rw [← HWA.out]
  go_loopw [3, 4] (fun s i wr => ∃ k : Nat, k ≤ xs.length ∧ i = .int .i64 k ∧ wr.ownsRow (w.heap.size + 1) 81 2 s (cellsTo B xs k).length (cls (cellsTo B xs k)) ∧ wr.heap[w.heap.size]? = some (.cells #[.int .i64 B, .slice ad xs.length c] 29 (0, 0)) ∧ Below w.heap.size w wr) (fun _ i _ => xs.length - (intOf i).toNat)
  case atStart => exact ⟨0, Nat.zero_le _, rfl, HOA.out, HBLKA.out, HBA.out⟩
  case round =>
    obtain ⟨k, hk, rfl, hown, hblk, hb⟩ := hrel
    obtain ⟨wo, rfl⟩ : ∃ wo : World, wo = wr := ⟨_, rfl⟩
    have HW := Lib.hid hown
    have HBLK := Lib.hid hblk
    have HB := Lib.hid hb
    have hszr := hb.size
    have hltb := lt_of_block hblk
    have x0 : wo.cell? ⟨w.heap.size, 0, none⟩ = some (.int .i64 B) := by rw [cell_of_row wo _ 0 _ _ _ hblk]; rfl
    have x1 : wo.cell? ⟨w.heap.size, 1, none⟩ = some (.slice ad xs.length c) := by rw [cell_of_row wo _ 1 _ _ _ hblk]; rfl
    clear hown hblk hb
    by_cases hlt : k < xs.length
    · have i1 : (k : Int) < (xs.length : Int) := by omega
      have g0 : decide ((k : Int) < (xs.length : Int)) = true := decide_eq_true i1
      have HL1 := Lib.hid (HLEN.out (k + 1) hlt)
      have HSU := Lib.hid (show cellsTo B xs (k + 1) = cellsTo B xs k ++ rowC k ((regN xs).getD k 0) B from rfl)
      have hinr : ∀ X, X < B → inR B xs X k = ((regN xs).getD k 0).testBit X := by
        intro X hX
        unfold inR
        rw [decide_eq_true hX, decide_eq_true hlt, Bool.true_and, Bool.true_and, regN_at hlt, List.getD_eq_getElem?_getD, List.getElem?_eq_getElem hlt]
        rfl
      have HINR := Lib.hid hinr
      clear hinr
      generalize (regN xs).getD k 0 = row at HSU HINR
      go_wp2_with fail
      refine (HREG.out wo (HC.out.below HB.out)).mono ?_
      rintro e w1 ⟨rfl, hb1⟩
      have hsz1 := hb1.size
      have HB1 := Lib.hid (HB.out.trans (hb1.mono hszr))
      have HW1 := Lib.hid (ownsRow_far_below HW.out hb1 (Nat.le_refl _))
      have HBLK1 := Lib.hid ((hb1.block w.heap.size hltb).trans HBLK.out)
      clear hb1 x0 x1
      go_wp2
      go_loopw [3, 5] (fun s i wi => ∃ x : Nat, x ≤ B ∧ i = .int .i64 x ∧ wi.ownsRow (w.heap.size + 1) 81 2 s (cellsTo B xs k ++ rowC k row x).length (cls (cellsTo B xs k ++ rowC k row x)) ∧ wi.heap[w.heap.size]? = some (.cells #[.int .i64 B, .slice ad xs.length c] 29 (0, 0)) ∧ Below w.heap.size w wi) (fun _ i _ => B - (intOf i).toNat)
      case atStart => exact ⟨0, Nat.zero_le _, rfl, by
        have e : rowC k row 0 = [] := by simp [rowC, smBits]
        rw [e, List.append_nil]; exact HW1.out, HBLK1.out, HB1.out⟩
      case round =>
        obtain ⟨x, hx, rfl, hown, hblk, hb⟩ := hrel
        obtain ⟨wi, rfl⟩ : ∃ wi : World, wi = wr := ⟨_, rfl⟩
        have HWI := Lib.hid hown
        have HBLKI := Lib.hid hblk
        have HBI := Lib.hid hb
        have hszi := hb.size
        have hlti := lt_of_block hblk
        have x0 : wi.cell? ⟨w.heap.size, 0, none⟩ = some (.int .i64 B) := by rw [cell_of_row wi _ 0 _ _ _ hblk]; rfl
        have x1 : wi.cell? ⟨w.heap.size, 1, none⟩ = some (.slice ad xs.length c) := by rw [cell_of_row wi _ 1 _ _ _ hblk]; rfl
        have hlx : (cellsTo B xs k ++ rowC k row x).length ≤ 100 := by
          have h1 := HLEN.out k hk
          have h2 := smBits_length_le x row
          rw [List.length_append, rowC_length]
          omega
        clear hown hblk hb
        by_cases hxl : x < B
        · have i2 : (x : Int) < (B : Int) := by omega
          have HI := Lib.hid (HIN.out x k wi (by omega) (by omega) (HC.out.below HBI.out))
          cases hbit : row.testBit x with
          | true =>
            have HY := Lib.hid (rowC_yes (y := k) hbit)
            have hi := HI.out
            rw [HINR.out x hxl, hbit] at hi
            have HI2 := Lib.hid hi
            clear hi hbit HI
            go_wp2_with fail
            refine HI2.out.mono ?_
            rintro e w5 ⟨rfl, hb5⟩
            have HW5 := Lib.hid (ownsRow_far_below HWI.out hb5 (Nat.le_refl _))
            have HB5 := Lib.hid (HBI.out.trans (hb5.mono hszi))
            have HBLK5 := Lib.hid ((hb5.block w.heap.size hlti).trans HBLKI.out)
            have hsz5 := HB5.out.size
            have hl5 := lt_of_block HBLK5.out
            clear hb5 x0 x1
            go_wp2_with (at_builtin; refine wpList_app1 rfl (.tmp 28) (.tmp 32) 61 rfl (w.heap.size + 1) 81 _ 2 16 Tryz.elemCl _ _ _ _ _ _ rfl rfl rfl HW5.out (by rfl) (by simp [Value.oneCell']) (by unfold maxLen; omega) (by omega) (by omega) ?_; intro g' cap w6 q1 q2 q3 q4 q5 q6)
            go_wp2
            go_roundw
            case rel =>
              refine ⟨x + 1, hxl, by go_num, ?_, (q2.block w.heap.size (by omega)).trans HBLK5.out, HB5.out.trans (q2.mono (by omega))⟩
              rw [HY.out, ← List.append_assoc, cls_append]
              simp only [List.length_append, List.length_singleton] at q1 ⊢
              exact q1
            case measure => simp [intOf]; omega
          | false =>
            have HY := Lib.hid (rowC_no (y := k) hbit)
            have hi := HI.out
            rw [HINR.out x hxl, hbit] at hi
            have HI2 := Lib.hid hi
            clear hi hbit HI
            go_wp2_with fail
            refine HI2.out.mono ?_
            rintro e w5 ⟨rfl, hb5⟩
            have HW5 := Lib.hid (ownsRow_far_below HWI.out hb5 (Nat.le_refl _))
            have HB5 := Lib.hid (HBI.out.trans (hb5.mono hszi))
            have HBLK5 := Lib.hid ((hb5.block w.heap.size hlti).trans HBLKI.out)
            clear hb5 x0 x1
            go_wp2
            go_roundw
            case rel => exact ⟨x + 1, hxl, by go_num, by rw [HY.out]; exact HW5.out, HBLK5.out, HB5.out⟩
            case measure => simp [intOf]; omega
        · obtain rfl : x = B := by omega
          go_wp2
          go_roundw
          case rel => exact ⟨k + 1, hlt, by go_num, by rw [HSU.out]; exact HWI.out, HBLKI.out, HBI.out⟩
          case measure => simp [intOf]; omega
    · obtain rfl : k = xs.length := by omega
      have i1 : ¬ (xs.length : Int) < (xs.length : Int) := by omega
      have g0 : decide ((xs.length : Int) < (xs.length : Int)) = false := decide_eq_false i1
      obtain ⟨ao, co, rfl, _⟩ := ownsRow_cells HW.out
      go_wp2
      go_ret
      exact ⟨ao, co, rfl, ownsRow_rebase HW.out (Nat.le_succ _), HB.out⟩

set_option maxRecDepth 100000 in
set_option maxHeartbeats 1600000 in
theorem specArea (b : Int) (ad : Option Addr) (c : Nat) (xs : List Int) (w : World) (hn : xs.length ≤ 1048576) (hc : CellsAt w ad (ints xs)) :
    Calls Tryz.prog 65 #[.agg #[.int .i64 b, .slice ad xs.length c]] w fun e w' => e = .returned (.int .i64 (areaR b xs)) ∧ Below w.heap.size w w' := by
  have hreg := fun w h => specReg b ad c xs w hn h
  have HC := Lib.hid hc
  clear hc
  obtain ⟨wA, hwA⟩ : ∃ wA, wA = w.alloc (.cells #[.int .i64 b, .slice ad xs.length c] 29) := ⟨_, rfl⟩
  have hbA : Below w.heap.size w wA := by rw [hwA]; exact (Below.refl _ _).alloc (Nat.le_refl _) _
  have hzA : wA.heap.size = w.heap.size + 1 := by rw [hwA]; simp
  have hblkA : wA.heap[w.heap.size]? = some (.cells #[.int .i64 b, .slice ad xs.length c] 29 (0, 0)) := by rw [hwA]; exact heap_alloc_new w _
  have HBA := Lib.hid hbA
  have HBLKA := Lib.hid hblkA
  have HWA := Lib.hid hwA
  have hszA := hbA.size
  clear hbA hblkA hwA
  by_cases hr : Reg b xs
  · rw [decide_eq_true hr] at hreg
    obtain ⟨B, rfl⟩ := Int.eq_ofNat_of_zero_le (by have := hr.1.1; omega : 0 ≤ b)
    have hnat : ∀ x ∈ regN xs, x < 2 ^ B := by have := reg_nat hr; rwa [Int.toNat_natCast] at this
    have hlen := cellsTo_length hnat (show B ≤ 36 by have := hr.1.2; omega) xs.length (Nat.le_refl _)
    have hv : areaR B xs = ((cellsTo B xs xs.length).length : Nat) := by rw [hlen]; exact if_pos hr
    rw [hv]
    have hce := fun w h => specCellsOf B ad c xs w hr h
    have HREG := Lib.hid hreg
    have HCE := Lib.hid hce
    clear hreg hv hr hce hlen hnat
    generalize cellsTo B xs xs.length = L at HCE ⊢
    go_enter Tryz.func65, Tryz.ntmps65
    go_wp2_with fail
    rw [← HWA.out]
    refine (HREG.out wA (HC.out.below HBA.out)).mono ?_
    rintro e w1 ⟨rfl, hb1⟩
    have HB1 := Lib.hid (HBA.out.trans (hb1.mono hszA))
    have hsz1 := HB1.out.size
    have hblk1 := (hb1.block w.heap.size (by omega)).trans HBLKA.out
    have x10 : w1.cell? ⟨w.heap.size, 0, none⟩ = some (.int .i64 B) := by rw [cell_of_row w1 _ 0 _ _ _ hblk1]; rfl
    have x11 : w1.cell? ⟨w.heap.size, 1, none⟩ = some (.slice ad xs.length c) := by rw [cell_of_row w1 _ 1 _ _ _ hblk1]; rfl
    clear hblk1 hb1
    go_wp2_with fail
    refine (HCE.out w1 (HC.out.below HB1.out)).mono ?_
    rintro e w2 ⟨a2, c2, rfl, _, hb2⟩
    have HB2 := Lib.hid (HB1.out.trans (hb2.mono hsz1))
    clear hb2 x10 x11
    go_wp2
    go_ret
    exact ⟨rfl, HB2.out⟩
  · rw [decide_eq_false hr] at hreg
    have hv : areaR b xs = -1 := if_neg hr
    rw [hv]
    have HREG := Lib.hid hreg
    clear hreg hv hr
    go_enter Tryz.func65, Tryz.ntmps65
    go_wp2_with fail
    rw [← HWA.out]
    refine (HREG.out wA (HC.out.below HBA.out)).mono ?_
    rintro e w1 ⟨rfl, hb1⟩
    have HB1 := Lib.hid (HBA.out.trans (hb1.mono hszA))
    clear hb1
    go_wp2
    go_ret
    exact ⟨rfl, HB1.out⟩

end Go.Proofs.YtcoggnoeafpgbaaGreat

/- Prob: the walk of isProblem. -/
namespace Go.Proofs.YtcoggnoeafpgbaaGreat
open Go.RowKit

attribute [local go_sem ↓] Go.wp_at_zero Go.wp_at_succ

set_option maxRecDepth 100000 in
set_option maxHeartbeats 1600000 in
theorem implProb (b : Int) (ad : Option Addr) (c : Nat) (xs : List Int) (sa : Option Addr) (cs : Nat) (ps : List (List Cl)) (w : World) (hn : xs.length ≤ 1048576) (hnp : ps.length ≤ 1048576) (hl : ∀ p ∈ ps, p.length ≤ 1048576) (hc : CellsAt w ad (ints xs)) (hcp : ShpsAt w sa ps) :
    Calls Tryz.prog 56 #[.agg #[.int .i64 b, .slice ad xs.length c], .slice sa ps.length cs] w fun e w' => e = .returned (.bool (decide (Reg b xs) && decide (Pcs ps))) ∧ Below w.heap.size w w' := by
  have HREG := Lib.hid (fun w' h => implReg b ad c xs w' hn h)
  have HPC := Lib.hid (fun w' h => implPieces sa cs ps w' hnp hl h)
  have HC := Lib.hid hc
  have HCP := Lib.hid hcp
  clear hc hcp hl
  generalize decide (Pcs ps) = bp at HPC ⊢
  generalize decide (Reg b xs) = br at HREG ⊢
  obtain ⟨wA, hwA⟩ : ∃ wA, wA = w.alloc (.cells #[.int .i64 b, .slice ad xs.length c] 29) := ⟨_, rfl⟩
  have hbA : Below w.heap.size w wA := by rw [hwA]; exact (Below.refl _ _).alloc (Nat.le_refl _) _
  have hzA : wA.heap.size = w.heap.size + 1 := by rw [hwA]; simp
  have hblkA : wA.heap[w.heap.size]? = some (.cells #[.int .i64 b, .slice ad xs.length c] 29 (0, 0)) := by rw [hwA]; exact heap_alloc_new w _
  have HBA := Lib.hid hbA
  have HBLKA := Lib.hid hblkA
  have HWA := Lib.hid hwA
  have hszA := hbA.size
  clear hbA hblkA hwA
  go_enter Tryz.func56, Tryz.ntmps56
  go_wp2_with fail
  rw [← HWA.out]
  refine (HREG.out wA (HC.out.below HBA.out)).mono ?_
  rintro e w1 ⟨rfl, hb1⟩
  have HB1 := Lib.hid (HBA.out.trans (hb1.mono hszA))
  have hsz1 := HB1.out.size
  clear hb1
  cases br with
  | true =>
    go_wp2_with fail
    refine (HPC.out w1 (HCP.out.below HB1.out)).mono ?_
    rintro e w2 ⟨rfl, hb2⟩
    have HB2 := Lib.hid (HB1.out.trans (hb2.mono hsz1))
    clear hb2
    go_wp2
    go_ret
    exact ⟨by rw [Bool.true_and]; rfl, HB2.out⟩
  | false =>
    go_wp2
    go_ret
    exact ⟨rfl, HB1.out⟩
end Go.Proofs.YtcoggnoeafpgbaaGreat

/- AreaW: the walks of l20Fine and isSmall. -/
namespace Go.Proofs.YtcoggnoeafpgbaaGreat
open Go.RowKit

/-- A problem that is valid and small. -/
def SmallP (b : Int) (xs : List Int) (ps : List (List Cl)) : Prop := (Reg b xs ∧ Pcs ps) ∧ areaR b xs ≤ 12
instance (b : Int) (xs : List Int) (ps : List (List Cl)) : Decidable (SmallP b xs ps) := by unfold SmallP; infer_instance
theorem smallP_eq (b : Int) (xs : List Int) (ps : List (List Cl)) : decide (SmallP b xs ps) = ((decide (Reg b xs) && decide (Pcs ps)) && decide (areaR b xs ≤ 12)) := by
  rw [Bool.eq_iff_iff, Bool.and_eq_true, Bool.and_eq_true, decide_eq_true_iff, decide_eq_true_iff, decide_eq_true_iff, decide_eq_true_iff]
  exact Iff.rfl

set_option maxRecDepth 100000 in
set_option maxHeartbeats 1600000 in
theorem implSm (b : Int) (ad : Option Addr) (c : Nat) (xs : List Int) (sa : Option Addr) (cs : Nat) (ps : List (List Cl)) (w : World) (hn : xs.length ≤ 1048576) (hnp : ps.length ≤ 1048576) (hl : ∀ p ∈ ps, p.length ≤ 1048576) (hc : CellsAt w ad (ints xs)) (hcp : ShpsAt w sa ps) :
    Calls Tryz.prog 44 #[.agg #[.int .i64 b, .slice ad xs.length c], .slice sa ps.length cs] w fun e w' => e = .returned (.bool (decide (SmallP b xs ps))) ∧ Below w.heap.size w w' := by
  rw [smallP_eq]
  have HPR := Lib.hid (fun w' h1 h2 => implProb b ad c xs sa cs ps w' hn hnp hl h1 h2)
  have HAR := Lib.hid (fun w' h1 => implArea b ad c xs w' hn h1)
  have HC := Lib.hid hc
  have HCP := Lib.hid hcp
  clear hc hcp hl
  generalize (decide (Reg b xs) && decide (Pcs ps)) = p0 at HPR ⊢
  generalize areaR b xs = a0 at HAR ⊢
  obtain ⟨wA, hwA⟩ : ∃ wA, wA = w.alloc (.cells #[.int .i64 b, .slice ad xs.length c] 29) := ⟨_, rfl⟩
  have hbA : Below w.heap.size w wA := by rw [hwA]; exact (Below.refl _ _).alloc (Nat.le_refl _) _
  have hzA : wA.heap.size = w.heap.size + 1 := by rw [hwA]; simp
  have hblkA : wA.heap[w.heap.size]? = some (.cells #[.int .i64 b, .slice ad xs.length c] 29 (0, 0)) := by rw [hwA]; exact heap_alloc_new w _
  have HBA := Lib.hid hbA
  have HBLKA := Lib.hid hblkA
  have HWA := Lib.hid hwA
  have hszA := hbA.size
  clear hbA hblkA hwA
  cases p0 with
  | true =>
    rw [Bool.true_and]
    go_enter Tryz.func44, Tryz.ntmps44
    go_wp2_with fail
    rw [← HWA.out]
    refine (HPR.out wA (HC.out.below HBA.out) (HCP.out.below HBA.out)).mono ?_
    rintro e w1 ⟨rfl, hb1⟩
    have HB1 := Lib.hid (HBA.out.trans (hb1.mono hszA))
    have hsz1 := HB1.out.size
    have hblk1 := (hb1.block w.heap.size (by omega)).trans HBLKA.out
    have x10 : w1.cell? ⟨w.heap.size, 0, none⟩ = some (.int .i64 b) := by rw [cell_of_row w1 _ 0 _ _ _ hblk1]; rfl
    have x11 : w1.cell? ⟨w.heap.size, 1, none⟩ = some (.slice ad xs.length c) := by rw [cell_of_row w1 _ 1 _ _ _ hblk1]; rfl
    clear hblk1 hb1
    go_wp2_with fail
    refine (HAR.out w1 (HC.out.below HB1.out)).mono ?_
    rintro e w2 ⟨rfl, hb2⟩
    have HB2 := Lib.hid (HB1.out.trans (hb2.mono hsz1))
    clear hb2 x10 x11
    go_wp2
    go_ret
    exact ⟨rfl, HB2.out⟩
  | false =>
    rw [Bool.false_and]
    go_enter Tryz.func44, Tryz.ntmps44
    go_wp2_with fail
    rw [← HWA.out]
    refine (HPR.out wA (HC.out.below HBA.out) (HCP.out.below HBA.out)).mono ?_
    rintro e w1 ⟨rfl, hb1⟩
    have HB1 := Lib.hid (HBA.out.trans (hb1.mono hszA))
    clear hb1
    go_wp2
    go_ret
    exact ⟨rfl, HB1.out⟩

set_option maxRecDepth 100000 in
set_option maxHeartbeats 1600000 in
theorem specFine (b : Int) (ad : Option Addr) (c : Nat) (xs : List Int) (sa : Option Addr) (cs : Nat) (ps : List (List Cl)) (w : World) (hn : xs.length ≤ 1048576) (hnp : ps.length ≤ 1048576) (hl : ∀ p ∈ ps, p.length ≤ 1048576) (hc : CellsAt w ad (ints xs)) (hcp : ShpsAt w sa ps) :
    Calls Tryz.prog 41 #[.agg #[.int .i64 b, .slice ad xs.length c], .slice sa ps.length cs] w fun e w' => e = .returned (.bool (decide (SmallP b xs ps))) ∧ Below w.heap.size w w' := by
  rw [smallP_eq]
  have HREG := Lib.hid (fun w' h => specReg b ad c xs w' hn h)
  have HPC := Lib.hid (fun w' h => specPieces sa cs ps w' hnp hl h)
  have HAR := Lib.hid (fun w' h1 => specArea b ad c xs w' hn h1)
  have HC := Lib.hid hc
  have HCP := Lib.hid hcp
  clear hc hcp hl
  generalize decide (Reg b xs) = p0 at HREG ⊢
  generalize decide (Pcs ps) = p1 at HPC ⊢
  generalize areaR b xs = a0 at HAR ⊢
  obtain ⟨wA, hwA⟩ : ∃ wA, wA = w.alloc (.cells #[.int .i64 b, .slice ad xs.length c] 29) := ⟨_, rfl⟩
  have hbA : Below w.heap.size w wA := by rw [hwA]; exact (Below.refl _ _).alloc (Nat.le_refl _) _
  have hzA : wA.heap.size = w.heap.size + 1 := by rw [hwA]; simp
  have hblkA : wA.heap[w.heap.size]? = some (.cells #[.int .i64 b, .slice ad xs.length c] 29 (0, 0)) := by rw [hwA]; exact heap_alloc_new w _
  have HBA := Lib.hid hbA
  have HBLKA := Lib.hid hblkA
  have HWA := Lib.hid hwA
  have hszA := hbA.size
  clear hbA hblkA hwA
  cases p0 with
  | true =>
    cases p1 with
    | true =>
      rw [Bool.true_and, Bool.true_and]
      go_enter Tryz.func41, Tryz.ntmps41
      go_wp2_with fail
      rw [← HWA.out]
      refine (HREG.out wA (HC.out.below HBA.out)).mono ?_
      rintro e w1 ⟨rfl, hb1⟩
      have HB1 := Lib.hid (HBA.out.trans (hb1.mono hszA))
      have HX1 := Lib.hid hb1
      have hsz1 := HB1.out.size
      have hs1 := hb1.size
      clear hb1
      go_wp2_with fail
      refine (HPC.out w1 (HCP.out.below HB1.out)).mono ?_
      rintro e w2 ⟨rfl, hb2⟩
      have HB2 := Lib.hid (HB1.out.trans (hb2.mono hsz1))
      have hsz2 := HB2.out.size
      have hblk2 := ((HX1.out.trans (hb2.mono hs1)).block w.heap.size (by omega)).trans HBLKA.out
      have x10 : w2.cell? ⟨w.heap.size, 0, none⟩ = some (.int .i64 b) := by rw [cell_of_row w2 _ 0 _ _ _ hblk2]; rfl
      have x11 : w2.cell? ⟨w.heap.size, 1, none⟩ = some (.slice ad xs.length c) := by rw [cell_of_row w2 _ 1 _ _ _ hblk2]; rfl
      clear hblk2 hb2
      go_wp2_with fail
      refine (HAR.out w2 (HC.out.below HB2.out)).mono ?_
      rintro e w3 ⟨rfl, hb3⟩
      have HB3 := Lib.hid (HB2.out.trans (hb3.mono hsz2))
      clear hb3 x10 x11
      go_wp2
      go_ret
      exact ⟨rfl, HB3.out⟩
    | false =>
      go_enter Tryz.func41, Tryz.ntmps41
      go_wp2_with fail
      rw [← HWA.out]
      refine (HREG.out wA (HC.out.below HBA.out)).mono ?_
      rintro e w1 ⟨rfl, hb1⟩
      have HB1 := Lib.hid (HBA.out.trans (hb1.mono hszA))
      have hsz1 := HB1.out.size
      clear hb1
      go_wp2_with fail
      refine (HPC.out w1 (HCP.out.below HB1.out)).mono ?_
      rintro e w2 ⟨rfl, hb2⟩
      have HB2 := Lib.hid (HB1.out.trans (hb2.mono hsz1))
      clear hb2
      go_wp2
      go_ret
      exact ⟨rfl, HB2.out⟩
  | false =>
    go_enter Tryz.func41, Tryz.ntmps41
    go_wp2_with fail
    rw [← HWA.out]
    refine (HREG.out wA (HC.out.below HBA.out)).mono ?_
    rintro e w1 ⟨rfl, hb1⟩
    have HB1 := Lib.hid (HBA.out.trans (hb1.mono hszA))
    clear hb1
    go_wp2
    go_ret
    exact ⟨by cases p1 <;> rfl, HB1.out⟩
end Go.Proofs.YtcoggnoeafpgbaaGreat
