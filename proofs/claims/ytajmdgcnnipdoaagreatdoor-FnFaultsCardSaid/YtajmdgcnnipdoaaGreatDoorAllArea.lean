/- AllArea: parts laid together: Area0, AreaX, Prob, AreaW. -/
import Derived.Test.YtajmdgcnnipdoaaGreatDoorAllReg
import Derived.Test.YtajmdgcnnipdoaaGreatDoorAllCr
import Derived.Test.YtajmdgcnnipdoaaGreatDoorAllPl
import Derived.Test.YtajmdgcnnipdoaaGreatDoorAllPlac
import Derived.Test.YtajmdgcnnipdoaaGreatDoorAllFrame
import Derived.Deep.DrawnRows

/- Area0: the cells of a region, row by row; how many they are; they are the places of the region's mask; plain. -/
namespace Go.Proofs.YtajmdgcnnipdoaaGreatDoor
open Go.RowKit

/-- The cells of one row before a column. -/
def rowC (y row x : Nat) : List Cl := (smBits x row).map fun i : Nat => (⟨(i : Int), (y : Int)⟩ : Cl)
theorem rowC_yes {y row x : Nat} (h : row.testBit x = true) : rowC y row (x + 1) = rowC y row x ++ [⟨(x : Int), (y : Int)⟩] := by
  unfold rowC
  rw [smBits_succ, h, if_pos rfl, List.map_append]
  rfl
theorem rowC_no {y row x : Nat} (h : row.testBit x = false) : rowC y row (x + 1) = rowC y row x := by
  unfold rowC
  rw [smBits_succ, h, if_neg (by decide), List.append_nil]
theorem rowC_length (y row x : Nat) : (rowC y row x).length = (smBits x row).length := by unfold rowC; rw [List.length_map]
/-- The cells of the first rows. -/
def cellsTo (B : Nat) (xs : List Int) : Nat → List Cl
  | 0 => []
  | k + 1 => cellsTo B xs k ++ rowC k ((regN xs).getD k 0) B
def cellsR (b : Int) (xs : List Int) : List Cl := if Reg b xs then cellsTo b.toNat xs xs.length else []
/-- How many they are. -/
def areaTo (xs : List Int) : Nat → Nat
  | 0 => 0
  | k + 1 => areaTo xs k + pc ((regN xs).getD k 0)
theorem smBits_all {n m : Nat} (h : m < 2 ^ n) (hn : n ≤ 36) : (smBits n m).length = pc m := by
  have e : smBits 36 m = smBits n m := smBits_of_zero n m 36 hn (Nat.div_eq_of_lt h)
  rw [← e]
  unfold pc smBits
  rw [List.countP_eq_length_filter]
theorem cellsTo_length {B : Nat} {xs : List Int} (h : ∀ x ∈ regN xs, x < 2 ^ B) (hB : B ≤ 36) : ∀ k, k ≤ xs.length → (cellsTo B xs k).length = areaTo xs k
  | 0, _ => rfl
  | k + 1, hk => by
    rw [cellsTo, areaTo, List.length_append, cellsTo_length h hB k (by omega), rowC_length, smBits_all _ hB]
    rw [List.getD_eq_getElem?_getD, List.getElem?_eq_getElem (by rw [regN_length]; omega)]
    exact h _ (List.getElem_mem _)
theorem areaTo_le {xs : List Int} {B : Nat} (h : ∀ x ∈ regN xs, x < 2 ^ B) (hB : B ≤ 6) : ∀ k, k ≤ xs.length → areaTo xs k ≤ 6 * k
  | 0, _ => Nat.le_refl _
  | k + 1, hk => by
    have h1 := areaTo_le h hB k (by omega)
    have hlt : (regN xs).getD k 0 < 2 ^ B := by
      rw [List.getD_eq_getElem?_getD, List.getElem?_eq_getElem (by rw [regN_length]; omega)]
      exact h _ (List.getElem_mem _)
    have h2 := smBits_all hlt (by omega)
    have h3 := smBits_length_le B ((regN xs).getD k 0)
    rw [areaTo]
    omega
/-- The area of a region, -1 if it is none. -/
def areaR (b : Int) (xs : List Int) : Int := if Reg b xs then (areaTo xs xs.length : Nat) else -1
theorem maskTo_test {W : Nat} {ns : List Nat} (h : ∀ x ∈ ns, x < 2 ^ W) (y x : Nat) (hx : x < W) : ∀ k, k ≤ ns.length → y < k → (maskTo W ns k).testBit (y * W + x) = (ns.getD y 0).testBit x
  | 0, _, hy => absurd hy (Nat.not_lt_zero _)
  | k + 1, hk, hy => by
    have h1 := maskTo_lt h k (by omega)
    have hm : maskTo W ns (k + 1) = 2 ^ (k * W) * ns.getD k 0 + maskTo W ns k := by rw [maskTo, Nat.mul_comm, Nat.add_comm]
    rw [hm, Nat.testBit_two_pow_mul_add _ h1]
    by_cases e : y < k
    · have h2 : (y + 1) * W ≤ k * W := Nat.mul_le_mul_right _ e
      rw [Nat.succ_mul] at h2
      rw [if_pos (by omega)]
      exact maskTo_test h y x hx k (by omega) e
    · obtain rfl : y = k := by omega
      rw [if_neg (by omega), Nat.add_sub_cancel_left]
theorem maskTo_bits {W : Nat} {ns : List Nat} (h : ∀ x ∈ ns, x < 2 ^ W) : ∀ k, k ≤ ns.length → smBits (k * W) (maskTo W ns k) = ((List.range k).flatMap fun y => (smBits W (ns.getD y 0)).map (y * W + ·))
  | 0, _ => by simp [smBits]
  | k + 1, hk => by
    have h1 := maskTo_lt h k (by omega)
    have ih := maskTo_bits h k (by omega)
    have hx : ns.getD k 0 < 2 ^ W := by
      rw [List.getD_eq_getElem?_getD, List.getElem?_eq_getElem (by omega)]
      exact h _ (List.getElem_mem _)
    rw [List.range_succ, List.flatMap_append, ← ih, List.flatMap_singleton]
    have hm : maskTo W ns (k + 1) = 2 ^ (k * W) * ns.getD k 0 + maskTo W ns k := by rw [maskTo, Nat.mul_comm, Nat.add_comm]
    have hlow : ∀ i, i < k * W → (maskTo W ns (k + 1)).testBit i = (maskTo W ns k).testBit i := fun i hi => by
      rw [hm, Nat.testBit_two_pow_mul_add _ h1, if_pos hi]
    have hhigh : ∀ i, (maskTo W ns (k + 1)).testBit (k * W + i) = (ns.getD k 0).testBit i := fun i => by
      rw [hm, Nat.testBit_two_pow_mul_add _ h1, if_neg (by omega), Nat.add_sub_cancel_left]
    unfold smBits
    rw [Nat.succ_mul, List.range_add, List.filter_append, List.filter_map]
    congr 1
    · exact List.filter_congr fun i hi => hlow i (List.mem_range.1 hi)
    · congr 1
      exact List.filter_congr fun i _ => hhigh i
theorem cellsTo_place (B : Nat) (xs : List Int) : ∀ k, (cellsTo B xs k).map (pbit B) = (List.range k).flatMap fun y => (smBits B ((regN xs).getD y 0)).map (y * B + ·)
  | 0 => rfl
  | k + 1 => by
    rw [cellsTo, List.map_append, cellsTo_place B xs k, List.range_succ, List.flatMap_append, List.flatMap_singleton]
    congr 1
    unfold rowC
    rw [List.map_map]
    refine List.map_congr_left fun i _ => ?_
    show ((k : Int)).toNat * B + ((i : Int)).toNat = k * B + i
    rw [Int.toNat_natCast, Int.toNat_natCast]
theorem cellsR_place {B : Nat} {xs : List Int} (hr : Reg (B : Int) xs) : (cellsR B xs).map (pbit B) = smBits (xs.length * B) (regMask B xs) := by
  have hl := regN_length xs
  unfold cellsR
  rw [if_pos hr, Int.toNat_natCast, cellsTo_place, regMask, Int.toNat_natCast]
  have := maskTo_bits (by have := reg_nat hr; rwa [Int.toNat_natCast] at this) xs.length (by rw [hl]; exact Nat.le_refl _)
  rw [this]
end Go.Proofs.YtajmdgcnnipdoaaGreatDoor

/- Prob: the walk of isProblem. -/
namespace Go.Proofs.YtajmdgcnnipdoaaGreatDoor
open Go.RowKit

attribute [local go_sem ↓] Go.wp_at_zero Go.wp_at_succ

set_option maxRecDepth 100000 in
set_option maxHeartbeats 1600000 in
theorem implProb (b : Int) (ad : Option Addr) (c : Nat) (xs : List Int) (sa : Option Addr) (cs : Nat) (ps : List (List Cl)) (w : World) (hn : xs.length ≤ 1048576) (hnp : ps.length ≤ 1048576) (hl : ∀ p ∈ ps, p.length ≤ 1048576) (hc : CellsAt w ad (ints xs)) (hcp : ShpsAt w sa ps) :
    Calls Tryz.prog 72 #[.agg #[.int .i64 b, .slice ad xs.length c], .slice sa ps.length cs] w fun e w' => e = .returned (.bool (decide (Reg b xs) && decide (Pcs ps))) ∧ Below w.heap.size w w' := by
  have HREG := Lib.hid (fun w' h => implReg b ad c xs w' hn h)
  have HPC := Lib.hid (fun w' h => implPieces sa cs ps w' hnp hl h)
  have HC := Lib.hid hc
  have HCP := Lib.hid hcp
  clear hc hcp hl
  generalize decide (Pcs ps) = bp at HPC ⊢
  generalize decide (Reg b xs) = br at HREG ⊢
  obtain ⟨wA, hwA⟩ : ∃ wA, wA = w.alloc (.cells #[.int .i64 b, .slice ad xs.length c] 26) := ⟨_, rfl⟩
  have hbA : Below w.heap.size w wA := by rw [hwA]; exact (Below.refl _ _).alloc (Nat.le_refl _) _
  have hzA : wA.heap.size = w.heap.size + 1 := by rw [hwA]; simp
  have hblkA : wA.heap[w.heap.size]? = some (.cells #[.int .i64 b, .slice ad xs.length c] 26 (0, 0)) := by rw [hwA]; exact heap_alloc_new w _
  have HBA := Lib.hid hbA
  have HBLKA := Lib.hid hblkA
  have HWA := Lib.hid hwA
  have hszA := hbA.size
  clear hbA hblkA hwA
  go_enter Tryz.func72, Tryz.ntmps72
  go_wp2_with fail
  rw [← HWA.out]
  refine (HREG.out wA (HC.out.below HBA.out)).mono ?_
  rintro e w1 ⟨rfl, hb1⟩
  have HB1 := Lib.hid (HBA.out.trans (hb1.mono hszA))
  have hsz1 := HB1.out.size
  clear hb1
  cases br with
  | true =>
    go_wp2_with fail
    refine (HPC.out w1 (HCP.out.below HB1.out)).mono ?_
    rintro e w2 ⟨rfl, hb2⟩
    have HB2 := Lib.hid (HB1.out.trans (hb2.mono hsz1))
    clear hb2
    go_wp2
    go_ret
    exact ⟨by rw [Bool.true_and]; rfl, HB2.out⟩
  | false =>
    go_wp2
    go_ret
    exact ⟨rfl, HB1.out⟩
end Go.Proofs.YtajmdgcnnipdoaaGreatDoor
