/- AllCr: parts laid together: Cross0, HasCellS, HasCell, CellsOf, Cross1. -/
import Derived.Test.YtajmdgcnnipdoaaGreatDoorAllFrame
import Derived.Test.YtajmdgcnnipdoaaGreatDoorAllReg
import Derived.Test.YtajmdgcnnipdoaaGreatDoorAllShift
import Derived.Test.YtajmdgcnnipdoaaGreatDoorProg
import Derived.Deep.RegionHeld3

/- Cross0: the masks of a region, their cells, and how many masks cross each line; plain. -/
namespace Go.Proofs.YtajmdgcnnipdoaaGreatDoor
open Go.RowKit

def placesOf (a : Nat) (l : List Nat) : List Cl := l.map fun i => ⟨((i % a : Nat) : Int), ((i / a : Nat) : Int)⟩
theorem placesOf_length (a : Nat) (l : List Nat) : (placesOf a l).length = l.length := by simp [placesOf]
theorem placesOf_snoc (a : Nat) (l : List Nat) (i : Nat) : placesOf a (l ++ [i]) = placesOf a l ++ [⟨((i % a : Nat) : Int), ((i / a : Nat) : Int)⟩] := by simp [placesOf]
def isMaskB (b : Int) (xs : List Int) (v : Int) : Bool := decide (0 ≤ v) && decide (v.toNat &&& regMask b xs = v.toNat)
/-- The cells of a mask; of a number that is no mask of the region, none. -/
def maskC (b : Int) (xs : List Int) (v : Int) : List Cl := if isMaskB b xs v = true then placesOf b.toNat (smBits (b.toNat * xs.length) v.toNat) else []
theorem maskC_in {b : Int} {xs : List Int} {v : Int} {c : Cl} (h1 : 1 ≤ b) (h : c ∈ maskC b xs v) : 0 ≤ c.x ∧ c.x < b ∧ 0 ≤ c.y ∧ c.y < xs.length := by
  unfold maskC at h
  split at h
  · simp only [placesOf, List.mem_map] at h
    obtain ⟨i, hi, rfl⟩ := h
    have hi := smBits_lt hi
    have hm : i % b.toNat < b.toNat := Nat.mod_lt _ (by omega)
    have hd : i / b.toNat < xs.length := Nat.div_lt_of_lt_mul hi
    refine ⟨Int.natCast_nonneg _, ?_, Int.natCast_nonneg _, Int.ofNat_lt.2 hd⟩
    have h2 : ((i % b.toNat : Nat) : Int) < ((b.toNat : Nat) : Int) := Int.ofNat_lt.2 hm
    have h3 : ((b.toNat : Nat) : Int) = b := Int.toNat_of_nonneg (by omega)
    show ((i % b.toNat : Nat) : Int) < b
    rw [← h3]
    exact h2
  · simp at h
theorem regMask_lt2 {b : Int} {xs : List Int} (h : Reg b xs) : regMask b xs < 2 ^ (b.toNat * xs.length) := by
  have h1 := maskTo_lt (reg_nat h) xs.length (by rw [regN_length]; exact Nat.le_refl _)
  rw [Nat.mul_comm]
  exact h1
theorem isMask_nat {b : Int} {xs : List Int} {v : Int} (h : Reg b xs) (hm : isMaskB b xs v = true) : ∃ m : Nat, v = (m : Int) ∧ m ≤ regMask b xs ∧ m < 2 ^ (b.toNat * xs.length) := by
  unfold isMaskB at hm
  simp only [Bool.and_eq_true, decide_eq_true_eq] at hm
  have hle : v.toNat ≤ regMask b xs := by rw [← hm.2]; exact Nat.and_le_right
  exact ⟨v.toNat, by omega, hle, Nat.lt_of_le_of_lt hle (regMask_lt2 h)⟩
theorem maskC_length {b : Int} {xs : List Int} (v : Int) (h : Reg b xs) : (maskC b xs v).length ≤ 36 := by
  unfold maskC
  split
  · rw [placesOf_length]
    have h1 : (smBits (b.toNat * xs.length) v.toNat).length ≤ b.toNat * xs.length := by
      unfold smBits
      refine Nat.le_trans (List.length_filter_le _ _) ?_
      simp
    have h2 : b.toNat * xs.length ≤ 6 * 6 := Nat.mul_le_mul (by have := h.1.2; omega) h.2.1.2
    omega
  · simp

/-- Whether the cells cross the line behind column x: as the program looks, and as the reference looks. -/
def colX (l : List Cl) (x : Int) : Bool := l.any fun c => decide (c.x = x) && hasC l (c.x + 1) c.y
def colY (l : List Cl) (y : Int) : Bool := l.any fun c => decide (c.y = y) && hasC l c.x (c.y + 1)
def preX (l : List Cl) (x : Int) : Bool := l.any fun c => decide (c.x = x) && hasC l (x - 1) c.y
def preY (l : List Cl) (y : Int) : Bool := l.any fun c => decide (c.y = y) && hasC l c.x (y - 1)
theorem preX_eq (l : List Cl) (x : Int) : preX l (x + 1) = colX l x := by
  rw [Bool.eq_iff_iff]
  simp only [preX, colX, hasC, List.any_eq_true, Bool.and_eq_true, decide_eq_true_eq]
  constructor
  · rintro ⟨⟨cx, cy⟩, h1, h2, h3⟩
    simp only at h2 h3
    subst h2
    exact ⟨⟨x, cy⟩, by simpa using h3, rfl, h1⟩
  · rintro ⟨⟨cx, cy⟩, h1, h2, h3⟩
    simp only at h2 h3
    subst h2
    exact ⟨⟨cx + 1, cy⟩, h3, rfl, by simpa using h1⟩
theorem preY_eq (l : List Cl) (y : Int) : preY l (y + 1) = colY l y := by
  rw [Bool.eq_iff_iff]
  simp only [preY, colY, hasC, List.any_eq_true, Bool.and_eq_true, decide_eq_true_eq]
  constructor
  · rintro ⟨⟨cx, cy⟩, h1, h2, h3⟩
    simp only at h2 h3
    subst h2
    exact ⟨⟨cx, y⟩, by simpa using h3, rfl, h1⟩
  · rintro ⟨⟨cx, cy⟩, h1, h2, h3⟩
    simp only at h2 h3
    subst h2
    exact ⟨⟨cx, cy + 1⟩, h3, rfl, by simpa using h1⟩
theorem colX_in {b : Int} {xs : List Int} {v x : Int} (h1 : 1 ≤ b) (h : colX (maskC b xs v) x = true) : 0 ≤ x ∧ x + 1 < b := by
  simp only [colX, hasC, List.any_eq_true, Bool.and_eq_true, decide_eq_true_eq] at h
  obtain ⟨c, q1, q2, q3⟩ := h
  have r1 := maskC_in h1 q1
  have r2 := maskC_in h1 q3
  simp only at r2
  omega
theorem colY_in {b : Int} {xs : List Int} {v y : Int} (h1 : 1 ≤ b) (h : colY (maskC b xs v) y = true) : 0 ≤ y ∧ y + 1 < xs.length := by
  simp only [colY, hasC, List.any_eq_true, Bool.and_eq_true, decide_eq_true_eq] at h
  obtain ⟨c, q1, q2, q3⟩ := h
  have r1 := maskC_in h1 q1
  have r2 := maskC_in h1 q3
  simp only at r2
  omega
/-- How many of the first k masks cross. -/
def cntTo (f : List Cl → Int → Bool) (b : Int) (xs ls : List Int) (x : Int) (k : Nat) : Nat := (ls.take k).countP fun v => f (maskC b xs v) x
theorem cntTo_zero (f : List Cl → Int → Bool) (b : Int) (xs ls : List Int) (x : Int) : cntTo f b xs ls x 0 = 0 := by simp [cntTo]
theorem cntTo_succ (f : List Cl → Int → Bool) (b : Int) (xs ls : List Int) (x : Int) (k : Nat) (hk : k < ls.length) : cntTo f b xs ls x (k + 1) = cntTo f b xs ls x k + if f (maskC b xs ls[k]) x = true then 1 else 0 := by
  unfold cntTo
  rw [List.take_succ_eq_append_getElem hk, List.countP_append]
  simp [List.countP_cons]
theorem cntTo_le (f : List Cl → Int → Bool) (b : Int) (xs ls : List Int) (x : Int) (k : Nat) : cntTo f b xs ls x k ≤ ls.length := by
  unfold cntTo
  refine Nat.le_trans List.countP_le_length ?_
  rw [List.length_take]; omega
/-- The counts of all n lines. -/
def cntL (f : List Cl → Int → Bool) (b : Int) (xs ls : List Int) (n k : Nat) : List Int := (List.range n).map fun x : Nat => ((cntTo f b xs ls (x : Int) k : Nat) : Int)
theorem cntL_length (f : List Cl → Int → Bool) (b : Int) (xs ls : List Int) (n k : Nat) : (cntL f b xs ls n k).length = n := by simp [cntL]
theorem cntL_snoc (f : List Cl → Int → Bool) (b : Int) (xs ls : List Int) (n k : Nat) : cntL f b xs ls (n + 1) k = cntL f b xs ls n k ++ [((cntTo f b xs ls n k : Nat) : Int)] := by simp [cntL, List.range_succ]
def acrossL (b : Int) (xs ls : List Int) : List Int := if Reg b xs then cntL colX b xs ls (b.toNat - 1) ls.length else []
def downL (b : Int) (xs ls : List Int) : List Int := if Reg b xs then cntL colY b xs ls (xs.length - 1) ls.length else []
/-- The numbers of the lines with count 0, of the first k. -/
def zerosTo (l : List Int) (off : Int) : Nat → List Int
  | 0 => []
  | k + 1 => if l.getD k 0 = 0 then zerosTo l off k ++ [(k : Int) + off] else zerosTo l off k
theorem zerosTo_le (l : List Int) (off : Int) : ∀ k, (zerosTo l off k).length ≤ k := by
  intro k
  induction k with
  | zero => exact Nat.le_refl _
  | succ k ih => unfold zerosTo; split <;> (try simp) <;> omega
def faultsL (b : Int) (xs ls : List Int) : List Int := zerosTo (acrossL b xs ls) 1 (acrossL b xs ls).length ++ zerosTo (downL b xs ls) 7 (downL b xs ls).length
theorem acrossL_le (b : Int) (xs ls : List Int) : (acrossL b xs ls).length ≤ 5 := by
  unfold acrossL
  split
  · rename_i h
    rw [cntL_length]
    have := h.1.2
    omega
  · simp
theorem downL_le (b : Int) (xs ls : List Int) : (downL b xs ls).length ≤ 5 := by
  unfold downL
  split
  · rename_i h
    rw [cntL_length]
    have := h.2.1.2
    omega
  · simp
end Go.Proofs.YtajmdgcnnipdoaaGreatDoor

/- HasCellS: the walks of HasCell, the reference's and the program's. -/
namespace Go.Proofs.YtajmdgcnnipdoaaGreatDoor
open Go.RowKit

theorem has_yes {l : List Cl} {k : Nat} {x y : Int} (hk : k < l.length) (h : l[k] = ⟨x, y⟩) : hasC l x y = true := decide_eq_true (h ▸ List.getElem_mem hk)
theorem has_no {l : List Cl} {x y : Int} (h : (⟨x, y⟩ : Cl) ∉ l.take l.length) : hasC l x y = false := decide_eq_false (by rwa [List.take_length] at h)

set_option maxHeartbeats 800000 in
theorem specHas (ad : Option Addr) (c : Nat) (l : List Cl) (x y : Int) (w : World) (hn : l.length ≤ 1048576) (hc : CellsAt w ad (cls l)) :
    Calls Tryz.prog 114 #[.slice ad l.length c, .int .i64 x, .int .i64 y] w fun e w' => e = .returned (.bool (hasC l x y)) ∧ w = w' := by
  have HC := Lib.hid hc
  clear hc
  go_enter Tryz.func114, Tryz.ntmps114
  go_wp2
  go_loopw [7] (fun i wr => ∃ k : Nat, k ≤ l.length ∧ i = .int .i64 k ∧ (⟨x, y⟩ : Cl) ∉ l.take k ∧ w = wr) (fun i _ => l.length - (intOf i).toNat)
  case atStart => exact ⟨0, by omega, rfl, by simp, rfl⟩
  case round =>
    obtain ⟨k, hk, rfl, ht, rfl⟩ := hrel
    have HT := Lib.hid ht
    clear ht
    by_cases hlt : k < l.length
    · obtain ⟨g, off, rfl, hg, hcc⟩ := cl_open HC.out (by omega)
      obtain ⟨x0, x1⟩ := hcc k hlt
      clear hcc
      obtain ⟨d, hd⟩ : ∃ d, d = l[k] := ⟨_, rfl⟩
      rw [← hd] at x0 x1
      have HD := Lib.hid hd
      clear hd
      obtain ⟨dx, dy⟩ := d
      simp only at x0 x1
      by_cases h1 : dx = x
      · have b1 : (dx == x) = true := by simp [h1]
        by_cases h2 : dy = y
        · have b2 : (dy == y) = true := by simp [h2]
          have HY := Lib.hid (has_yes (x := x) (y := y) hlt (by rw [← HD.out, h1, h2]))
          clear h1 h2
          go_wp2
          go_ret
          rw [HY.out]
          exact ⟨rfl, rfl⟩
        · have b2 : (dy == y) = false := by simp [h2]
          have HNN := Lib.hid (not_mem_take_succ hlt HT.out (by rw [← HD.out]; intro h; cases h; exact h2 rfl))
          clear h1 h2
          go_wp2
          go_roundw
          case rel => exact ⟨k + 1, by omega, by go_num, HNN.out, trivial⟩
          case measure => simp [intOf]; omega
      · have b1 : (dx == x) = false := by simp [h1]
        have HNN := Lib.hid (not_mem_take_succ hlt HT.out (by rw [← HD.out]; intro h; cases h; exact h1 rfl))
        clear h1
        go_wp2
        go_roundw
        case rel => exact ⟨k + 1, by omega, by go_num, HNN.out, trivial⟩
        case measure => simp [intOf]; omega
    · obtain rfl : k = l.length := by omega
      go_wp2
      go_ret
      rw [has_no HT.out]
      exact ⟨rfl, rfl⟩

end Go.Proofs.YtajmdgcnnipdoaaGreatDoor

/- HasCell: the walk of the program's HasCell. -/
namespace Go.Proofs.YtajmdgcnnipdoaaGreatDoor
open Go.RowKit

set_option maxHeartbeats 800000 in
theorem implHas (ad : Option Addr) (c : Nat) (l : List Cl) (x y : Int) (w : World) (hn : l.length ≤ 1048576) (hc : CellsAt w ad (cls l)) :
    Calls Tryz.prog 112 #[.slice ad l.length c, .int .i64 x, .int .i64 y] w fun e w' => e = .returned (.bool (hasC l x y)) ∧ Below w.heap.size w w' := by
  have HC := Lib.hid hc
  clear hc
  go_enter Tryz.func112, Tryz.ntmps112
  go_wp2
  go_loopw [11] (fun i wr => ∃ k : Nat, k ≤ l.length ∧ i = .int .i64 k ∧ (⟨x, y⟩ : Cl) ∉ l.take k ∧ Below w.heap.size w wr) (fun i _ => l.length - (intOf i).toNat)
  case atStart => exact ⟨0, by omega, rfl, by simp, Below.refl _ _⟩
  case round =>
    obtain ⟨k, hk, rfl, ht, hb⟩ := hrel
    have HT := Lib.hid ht
    clear ht
    by_cases hlt : k < l.length
    · obtain ⟨g, off, rfl, hg, hcc⟩ := cl_open (HC.out.below hb) (by omega)
      obtain ⟨x0, x1⟩ := hcc k hlt
      clear hcc
      obtain ⟨d, hd⟩ : ∃ d, d = l[k] := ⟨_, rfl⟩
      rw [← hd] at x0 x1
      have HD := Lib.hid hd
      clear hd
      obtain ⟨dx, dy⟩ := d
      simp only at x0 x1
      by_cases h1 : dx = x
      · have b1 : (dx == x) = true := by simp [h1]
        by_cases h2 : dy = y
        · have b2 : (dy == y) = true := by simp [h2]
          have HY := Lib.hid (has_yes (x := x) (y := y) hlt (by rw [← HD.out, h1, h2]))
          clear h1 h2
          go_wp2
          go_ret
          rw [HY.out]
          exact ⟨rfl, hb.alloc hb.size _⟩
        · have b2 : (dy == y) = false := by simp [h2]
          have HNN := Lib.hid (not_mem_take_succ hlt HT.out (by rw [← HD.out]; intro h; cases h; exact h2 rfl))
          clear h1 h2
          go_wp2
          go_roundw
          case rel => exact ⟨k + 1, by omega, by go_num, HNN.out, hb.alloc hb.size _⟩
          case measure => simp [intOf]; omega
      · have b1 : (dx == x) = false := by simp [h1]
        have HNN := Lib.hid (not_mem_take_succ hlt HT.out (by rw [← HD.out]; intro h; cases h; exact h1 rfl))
        clear h1
        go_wp2
        go_roundw
        case rel => exact ⟨k + 1, by omega, by go_num, HNN.out, hb.alloc hb.size _⟩
        case measure => simp [intOf]; omega
    · obtain rfl : k = l.length := by omega
      go_wp2
      go_ret
      rw [has_no HT.out]
      exact ⟨rfl, hb⟩
end Go.Proofs.YtajmdgcnnipdoaaGreatDoor

/- CellsOf: the walk of the reference's CellsOfMask. -/
namespace Go.Proofs.YtajmdgcnnipdoaaGreatDoor
open Go.RowKit

theorem cls_places (a : Nat) (l : List Nat) : cls (placesOf a l) = placeCells a l := by
  unfold cls placesOf placeCells
  rw [List.flatMap_map]
  rfl

set_option maxRecDepth 100000 in
set_option maxHeartbeats 1600000 in
theorem specCells (B : Nat) (ad : Option Addr) (c : Nat) (xs : List Int) (v : Int) (w : World) (hr : Reg (B : Int) xs) (hwf : (Lit.int .i64 v).wf = true) (hc : CellsAt w ad (ints xs)) :
    Calls Tryz.prog 113 #[.agg #[.int .i64 B, .slice ad xs.length c], .int .i64 v] w fun e w' => ∃ ad' c', e = .returned (.slice ad' (maskC B xs v).length c') ∧ w'.ownsRow w.heap.size 91 2 (.slice ad' (maskC B xs v).length c') (maskC B xs v).length (cls (maskC B xs v)) ∧ Below w.heap.size w w' := by
  have hl6 : xs.length ≤ 6 := hr.2.1.2
  have hl1 : 1 ≤ xs.length := hr.2.1.1
  have hb6 : B ≤ 6 := by have := hr.1.2; omega
  have hb1 : 1 ≤ B := by have := hr.1.1; omega
  have hreg := fun w (h : CellsAt w ad (ints xs)) => specReg (B : Int) ad c xs w (by omega) h
  rw [decide_eq_true hr] at hreg
  have hmask := fun w (h : CellsAt w ad (ints xs)) => specMask B ad c xs w hr h
  have hM := regMask_lt hr
  have hmn := fun h => isMask_nat (v := v) hr h
  have hmc : maskC B xs v = if isMaskB B xs v = true then placesOf B (smBits (B * xs.length) v.toNat) else [] := by unfold maskC; rw [Int.toNat_natCast]
  have hdef : isMaskB B xs v = (decide (0 ≤ v) && decide (v.toNat &&& regMask B xs = v.toNat)) := rfl
  obtain ⟨M, hMM⟩ : ∃ M, M = regMask (B : Int) xs := ⟨_, rfl⟩
  rw [← hMM] at hmask hM hmn hdef
  have HREG := Lib.hid hreg
  have HMASK := Lib.hid hmask
  have HC := Lib.hid hc
  have HMN := Lib.hid hmn
  have HMC := Lib.hid hmc
  have hl := ints_length xs
  have hwb := i64_bounds hwf
  obtain ⟨wb1, wb2⟩ := hwb
  clear hr hreg hmask hc hMM hmc hmn hwf
  obtain ⟨n, hn⟩ : ∃ n, n = B * xs.length := ⟨_, rfl⟩
  have hn36 : n ≤ 6 * 6 := by rw [hn]; exact Nat.mul_le_mul hb6 hl6
  have epr : (B : Int) * (xs.length : Int) = (n : Int) := by rw [hn]; norm_cast
  have HN := Lib.hid hn
  clear hn
  have HEPR := Lib.hid epr
  clear epr
  obtain ⟨wA, hwA⟩ : ∃ wA, wA = w.alloc (.cells #[.int .i64 B, .slice ad xs.length c] 26) := ⟨_, rfl⟩
  have hbA : Below w.heap.size w wA := by rw [hwA]; exact (Below.refl _ _).alloc (Nat.le_refl _) _
  have hzA : wA.heap.size = w.heap.size + 1 := by rw [hwA]; simp
  have hblkA : wA.heap[w.heap.size]? = some (.cells #[.int .i64 B, .slice ad xs.length c] 26 (0, 0)) := by rw [hwA]; exact heap_alloc_new w _
  have HBA := Lib.hid hbA
  have HZA := Lib.hid hzA
  have HBLKA := Lib.hid hblkA
  have HWA := Lib.hid hwA
  clear hbA hzA hblkA hwA
  by_cases h0 : 0 ≤ v
  · have d0 : decide (v < 0) = false := by simp; omega
    obtain ⟨m, rfl⟩ := Int.eq_ofNat_of_zero_le h0
    have hand := i64_and_nat m M (by omega) (by omega)
    by_cases hm : m &&& M = m
    · have hyes : isMaskB B xs (m : Int) = true := by rw [hdef]; simp [hm]
      have d1 : (((m &&& M : Nat) : Int) != (m : Int)) = false := by simp [hm]
      have hmc : maskC B xs (m : Int) = placesOf B (smBits n m) := by rw [HMC.out, if_pos hyes, HN.out]; rfl
      obtain ⟨m', hm', hmM, hmlt⟩ := HMN.out hyes
      obtain rfl : m = m' := by omega
      have hmlt' : m < 2 ^ n := by rw [HN.out]; simpa using hmlt
      have HMC2 := Lib.hid hmc
      have HMLT := Lib.hid hmlt'
      clear hm hyes hmc hdef hmlt hmlt' h0 hm'
      go_enter Tryz.func113, Tryz.ntmps113
      go_wp2_with fail
      rw [← HWA.out]
      obtain ⟨wB, hwB⟩ : ∃ wB, wB = wA.alloc (.cells #[] 91) := ⟨_, rfl⟩
      have hbB : Below wA.heap.size wA wB := by rw [hwB]; exact (Below.refl _ _).alloc (Nat.le_refl _) _
      have hoB : wB.ownsRow (w.heap.size + 1) 91 2 (.slice (some ⟨w.heap.size + 1, 0, none⟩) 0 0) 0 [] := by rw [hwB, ← HZA.out]; exact ownsRow_empty _ _ _
      rw [← hwB]
      have HBB := Lib.hid hbB
      have HOB := Lib.hid hoB
      clear hwB hbB hoB
      refine (HREG.out _ (HC.out.below (HBA.out.trans (HBB.out.mono HBA.out.size)))).mono ?_
      rintro e w1 ⟨rfl, hb1⟩
      have hb1A : Below wA.heap.size wA w1 := HBB.out.trans (hb1.mono HBB.out.size)
      have ho1 := ownsRow_far_below HOB.out hb1 (Nat.le_refl _)
      have hblk1 := (hb1A.block w.heap.size (by have := HZA.out; omega)).trans HBLKA.out
      have x0 : w1.cell? ⟨w.heap.size, 0, none⟩ = some (.int .i64 B) := by rw [cell_of_row w1 _ 0 _ _ _ hblk1]; rfl
      have x1 : w1.cell? ⟨w.heap.size, 1, none⟩ = some (.slice ad xs.length c) := by rw [cell_of_row w1 _ 1 _ _ _ hblk1]; rfl
      have HB1 := Lib.hid hb1A
      have HO1 := Lib.hid ho1
      have hsz1 := hb1.size
      clear hblk1 hb1A ho1 hb1
      go_wp2_with fail
      refine (HMASK.out _ (HC.out.below (HBA.out.trans (HB1.out.mono HBA.out.size)))).mono ?_
      rintro e w2 ⟨rfl, hb2⟩
      have HB2 := Lib.hid (HB1.out.trans (hb2.mono HB1.out.size))
      have HO2 := Lib.hid (ownsRow_far_below HO1.out hb2 (Nat.le_refl _))
      have hsz2 := hb2.size
      clear hb2 x0 x1
      go_wp2
      go_loopw [5, 6] (fun s i wr => ∃ k : Nat, k ≤ n ∧ i = .int .i64 k ∧ wr.ownsRow (w.heap.size + 1) 91 2 s (smBits k m).length (placeCells B (smBits k m)) ∧ Below wA.heap.size wA wr) (fun _ i _ => n - (intOf i).toNat)
      case atStart => exact ⟨0, by omega, rfl, HO2.out, HB2.out⟩
      case round =>
        obtain ⟨k, hk, rfl, hown, hb⟩ := hrel
        have hblk := (hb.block w.heap.size (by have := HZA.out; omega)).trans HBLKA.out
        have x0 : wr.cell? ⟨w.heap.size, 0, none⟩ = some (.int .i64 B) := by rw [cell_of_row wr _ 0 _ _ _ hblk]; rfl
        have x1 : wr.cell? ⟨w.heap.size, 1, none⟩ = some (.slice ad xs.length c) := by rw [cell_of_row wr _ 1 _ _ _ hblk]; rfl
        have HSB := Lib.hid (smBits_succ k m)
        have hlen := smBits_length_le k m
        have epr := HEPR.out
        have hszr := hb.size
        have hszA := HZA.out
        have HB := Lib.hid hb
        have HW := Lib.hid hown
        clear hb hown hblk
        by_cases hlt : k < n
        · by_cases hbit : m.testBit k = true
          · have hb1 : bits .and .i64 ((m : Int) / 2 ^ k) 1 = 1 := by rw [and_shr_one m k (by omega), if_pos hbit]
            have a0 : ¬ B = 0 := by omega
            have d0 : 0 ≤ (k : Int) / (B : Int) := Int.ediv_nonneg (by omega) (by omega)
            have d1 : (k : Int) / (B : Int) ≤ 60 := Int.le_trans (Int.ediv_le_self _ (by omega)) (by omega)
            have r0 : 0 ≤ (k : Int) % (B : Int) := Int.emod_nonneg _ (by omega)
            have r1 : (k : Int) % (B : Int) < (B : Int) := Int.emod_lt_of_pos _ (by omega)
            go_wp2
            have t1 : IntKind.i64.wrap ((k : Int) / (B : Int)) = (k : Int) / (B : Int) := IntWalk.i64_in _ (by omega)
            have t2 : (k : Int).tmod (B : Int) = (k : Int) % (B : Int) := Int.tmod_eq_emod_of_nonneg (by omega)
            have hcl := placeCells_length B (smBits k m)
            clear epr
            go_region_law (refine step_app1 rfl (.tmp 39) (.tmp 49) 40 rfl (w.heap.size + 1) 91 _ 2 16 Tryz.elemCell _ _ _ _ _ _ rfl rfl rfl HW.out (by rfl) (by simp [Value.oneCell']) (by unfold maxLen; omega) (by omega) (by omega) ?_; intro g cap w3 q1 q2 q3 q4 q5 q6)
            all_goals
              go_wp2
              go_roundw
              case rel =>
                refine ⟨k + 1, by omega, by go_num, ?_, HB.out.trans (q2.mono (by omega))⟩
                rw [HSB.out, if_pos hbit, placeCells_snoc]
                simpa using q1
              case measure => simp [intOf]; omega
          · have hb1 : bits .and .i64 ((m : Int) / 2 ^ k) 1 = 0 := by rw [and_shr_one m k (by omega), if_neg hbit]
            go_wp2
            go_roundw
            case rel => exact ⟨k + 1, by omega, by go_num, by rw [HSB.out, if_neg hbit, List.append_nil]; exact HW.out, HB.out⟩
            case measure => simp [intOf]; omega
        · obtain rfl : k = n := by omega
          go_wp2
          go_ret
          rw [HMC2.out, placesOf_length, cls_places]
          obtain ⟨ad', c', rfl, _⟩ := ownsRow_cells HW.out
          exact ⟨ad', c', rfl, ownsRow_rebase HW.out (by omega), HBA.out.trans (HB.out.mono HBA.out.size)⟩
    · have hno : isMaskB B xs (m : Int) = false := by rw [hdef]; simp [hm]
      have d1 : (((m &&& M : Nat) : Int) != (m : Int)) = true := by simp; omega
      have hmc : maskC B xs (m : Int) = [] := by rw [HMC.out, if_neg (by rw [hno]; decide)]
      have HMC2 := Lib.hid hmc
      clear hm hno hmc hdef h0
      go_enter Tryz.func113, Tryz.ntmps113
      go_wp2_with fail
      rw [← HWA.out]
      obtain ⟨wB, hwB⟩ : ∃ wB, wB = wA.alloc (.cells #[] 91) := ⟨_, rfl⟩
      have hbB : Below wA.heap.size wA wB := by rw [hwB]; exact (Below.refl _ _).alloc (Nat.le_refl _) _
      have hoB : wB.ownsRow (w.heap.size + 1) 91 2 (.slice (some ⟨w.heap.size + 1, 0, none⟩) 0 0) 0 [] := by rw [hwB, ← HZA.out]; exact ownsRow_empty _ _ _
      rw [← hwB]
      have HBB := Lib.hid hbB
      have HOB := Lib.hid hoB
      clear hwB hbB hoB
      refine (HREG.out _ (HC.out.below (HBA.out.trans (HBB.out.mono HBA.out.size)))).mono ?_
      rintro e w1 ⟨rfl, hb1⟩
      have hb1A : Below wA.heap.size wA w1 := HBB.out.trans (hb1.mono HBB.out.size)
      have ho1 := ownsRow_far_below HOB.out hb1 (Nat.le_refl _)
      have hblk1 := (hb1A.block w.heap.size (by have := HZA.out; omega)).trans HBLKA.out
      have x0 : w1.cell? ⟨w.heap.size, 0, none⟩ = some (.int .i64 B) := by rw [cell_of_row w1 _ 0 _ _ _ hblk1]; rfl
      have x1 : w1.cell? ⟨w.heap.size, 1, none⟩ = some (.slice ad xs.length c) := by rw [cell_of_row w1 _ 1 _ _ _ hblk1]; rfl
      have HB1 := Lib.hid hb1A
      have HO1 := Lib.hid ho1
      have hsz1 := hb1.size
      clear hblk1 hb1A ho1 hb1
      go_wp2_with fail
      refine (HMASK.out _ (HC.out.below (HBA.out.trans (HB1.out.mono HBA.out.size)))).mono ?_
      rintro e w2 ⟨rfl, hb2⟩
      have HB2 := Lib.hid (HB1.out.trans (hb2.mono HB1.out.size))
      have HO2 := Lib.hid (ownsRow_far_below HO1.out hb2 (Nat.le_refl _))
      clear hb2 x0 x1
      go_wp2
      go_ret
      rw [HMC2.out]
      exact ⟨_, _, rfl, ownsRow_rebase HO2.out (by omega), HBA.out.trans (HB2.out.mono HBA.out.size)⟩
  · have d0 : decide (v < 0) = true := by simp; omega
    have hno : isMaskB B xs v = false := by rw [hdef]; simp; omega
    have hmc : maskC B xs v = [] := by rw [HMC.out, if_neg (by rw [hno]; decide)]
    have HMC2 := Lib.hid hmc
    clear hno hmc hdef h0
    go_enter Tryz.func113, Tryz.ntmps113
    go_wp2_with fail
    rw [← HWA.out]
    obtain ⟨wB, hwB⟩ : ∃ wB, wB = wA.alloc (.cells #[] 91) := ⟨_, rfl⟩
    have hbB : Below wA.heap.size wA wB := by rw [hwB]; exact (Below.refl _ _).alloc (Nat.le_refl _) _
    have hoB : wB.ownsRow (w.heap.size + 1) 91 2 (.slice (some ⟨w.heap.size + 1, 0, none⟩) 0 0) 0 [] := by rw [hwB, ← HZA.out]; exact ownsRow_empty _ _ _
    rw [← hwB]
    have HBB := Lib.hid hbB
    have HOB := Lib.hid hoB
    clear hwB hbB hoB
    refine (HREG.out _ (HC.out.below (HBA.out.trans (HBB.out.mono HBA.out.size)))).mono ?_
    rintro e w1 ⟨rfl, hb1⟩
    have hb1A : Below wA.heap.size wA w1 := HBB.out.trans (hb1.mono HBB.out.size)
    have ho1 := ownsRow_far_below HOB.out hb1 (Nat.le_refl _)
    have hblk1 := (hb1A.block w.heap.size (by have := HZA.out; omega)).trans HBLKA.out
    have x0 : w1.cell? ⟨w.heap.size, 0, none⟩ = some (.int .i64 B) := by rw [cell_of_row w1 _ 0 _ _ _ hblk1]; rfl
    have x1 : w1.cell? ⟨w.heap.size, 1, none⟩ = some (.slice ad xs.length c) := by rw [cell_of_row w1 _ 1 _ _ _ hblk1]; rfl
    have HB1 := Lib.hid hb1A
    have HO1 := Lib.hid ho1
    have hsz1 := hb1.size
    clear hblk1 hb1A ho1 hb1
    go_wp2
    go_ret
    rw [HMC2.out]
    exact ⟨_, _, rfl, ownsRow_rebase HO1.out (by omega), HBA.out.trans (HB1.out.mono HBA.out.size)⟩
end Go.Proofs.YtajmdgcnnipdoaaGreatDoor

/- Cross1: the walks of the program's isMask and of the reference's l15Crosses. -/
namespace Go.Proofs.YtajmdgcnnipdoaaGreatDoor
open Go.RowKit

theorem isMaskB_nat (b : Int) (xs : List Int) (m : Nat) : isMaskB b xs (m : Int) = (m - (m &&& regMask b xs) == 0) := by
  unfold isMaskB
  rw [Int.toNat_natCast, decide_eq_true (Int.natCast_nonneg m), Bool.true_and, Bool.eq_iff_iff]
  have : m &&& regMask b xs ≤ m := Nat.and_le_left
  simp
  omega
theorem cast_beq_zero (n : Nat) : (((n : Nat) : Int) == 0) = (n == 0) := by
  rw [Bool.eq_iff_iff]; simp

set_option maxHeartbeats 800000 in
theorem implIsMask (B : Nat) (ad : Option Addr) (c : Nat) (xs : List Int) (v : Int) (w : World) (hr : Reg (B : Int) xs) (hwf : (Lit.int .i64 v).wf = true) (hc : CellsAt w ad (ints xs)) :
    Calls Tryz.prog 111 #[.agg #[.int .i64 B, .slice ad xs.length c], .int .i64 v] w fun e w' => e = .returned (.bool (isMaskB B xs v)) ∧ Below w.heap.size w w' := by
  have hmask := fun w (h : CellsAt w ad (ints xs)) => implMask B ad c xs w hr h
  have hM := regMask_lt hr
  have hnat := fun m => isMaskB_nat B xs m
  have hneg : v < 0 → isMaskB B xs v = false := fun h => by unfold isMaskB; simp; omega
  obtain ⟨M, hMM⟩ : ∃ M, M = regMask (B : Int) xs := ⟨_, rfl⟩
  rw [← hMM] at hmask hM hnat
  have hb0 : Below w.heap.size w (w.alloc (.cells #[.int .i64 B, .slice ad xs.length c] 26)) := (Below.refl _ _).alloc (Nat.le_refl _) _
  have HB0 := Lib.hid hb0
  have HMASK := Lib.hid hmask
  have HC := Lib.hid hc
  have HNAT := Lib.hid hnat
  obtain ⟨wb1, wb2⟩ := i64_bounds hwf
  clear hr hmask hc hMM hnat hwf hb0
  by_cases h0 : 0 ≤ v
  · have d0 : decide (0 ≤ v) = true := decide_eq_true h0
    obtain ⟨m, rfl⟩ := Int.eq_ofNat_of_zero_le h0
    have hb := Lib.hid ((congrArg (fun x : Int => x == 0) (i64_andNot_nat m M (by omega) (by omega))).trans ((cast_beq_zero _).trans (HNAT.out m).symm))
    clear hneg h0
    go_enter Tryz.func111, Tryz.ntmps111
    go_wp2_with fail
    refine (HMASK.out _ (HC.out.below HB0.out)).mono ?_
    rintro e w1 ⟨rfl, hb1⟩
    go_wp2
    go_ret
    refine ⟨?_, HB0.out.trans (hb1.mono HB0.out.size)⟩
    rw [hb.out]; rfl
  · have d0 : decide (0 ≤ v) = false := decide_eq_false h0
    have HNEG := Lib.hid (hneg (by omega))
    clear hneg h0
    go_enter Tryz.func111, Tryz.ntmps111
    go_wp2
    go_ret
    rw [HNEG.out]
    exact ⟨rfl, HB0.out⟩

theorem any_take_succ {α : Type} {l : List α} {p : α → Bool} {k : Nat} (hk : k < l.length) (h : (l.take k).any p = false) (hp : p l[k] = false) : (l.take (k + 1)).any p = false := by
  rw [List.take_succ_eq_append_getElem hk, List.any_append, h]
  simp [hp]
theorem any_hit {α : Type} {l : List α} {p : α → Bool} {k : Nat} (hk : k < l.length) (hp : p l[k] = true) : l.any p = true := List.any_eq_true.2 ⟨_, List.getElem_mem hk, hp⟩

set_option maxRecDepth 100000 in
set_option maxHeartbeats 1600000 in
theorem specCrossX (B : Nat) (ad : Option Addr) (c : Nat) (xs : List Int) (v x : Int) (w : World) (hx : 1 ≤ x ∧ x ≤ 6) (hr : Reg (B : Int) xs) (hwf : (Lit.int .i64 v).wf = true) (hc : CellsAt w ad (ints xs)) :
    Calls Tryz.prog 64 #[.agg #[.int .i64 B, .slice ad xs.length c], .int .i64 v, .int .i64 x, .int .i64 0] w fun e w' => e = .returned (.bool (preX (maskC B xs v) x)) ∧ Below w.heap.size w w' := by
  have hcells := fun w (h : CellsAt w ad (ints xs)) => specCells B ad c xs v w hr hwf h
  have hlen := maskC_length v hr
  obtain ⟨l, hl⟩ : ∃ l, l = maskC (B : Int) xs v := ⟨_, rfl⟩
  rw [← hl] at hcells hlen ⊢
  obtain ⟨hx1, hx2⟩ := hx
  have hb0 : Below w.heap.size w (w.alloc (.cells #[.int .i64 B, .slice ad xs.length c] 26)) := (Below.refl _ _).alloc (Nat.le_refl _) _
  have HB0 := Lib.hid hb0
  have HCE := Lib.hid hcells
  have HC := Lib.hid hc
  have HPX := Lib.hid (show preX l x = l.any (fun c : Cl => decide (c.x = x) && hasC l (x - 1) c.y) from rfl)
  clear hcells hc hb0 hr hwf hl
  go_enter Tryz.func64, Tryz.ntmps64
  go_wp2_with fail
  refine (HCE.out _ (HC.out.below HB0.out)).mono ?_
  rintro e w1 ⟨al, cl, rfl, ho1, hb1⟩
  have HL := Lib.hid (ownsRow_cellsAt ho1)
  have HB1 := Lib.hid (HB0.out.trans (hb1.mono HB0.out.size))
  clear ho1 hb1
  go_wp2
  go_loopw [10] (fun i wr => ∃ k : Nat, k ≤ l.length ∧ i = .int .i64 k ∧ (l.take k).any (fun c : Cl => decide (c.x = x) && hasC l (x - 1) c.y) = false ∧ w1 = wr) (fun i _ => l.length - (intOf i).toNat)
  case atStart => exact ⟨0, by omega, rfl, by simp, rfl⟩
  case round =>
    obtain ⟨k, hk, rfl, ht, rfl⟩ := hrel
    have HT := Lib.hid ht
    clear ht
    by_cases hlt : k < l.length
    · obtain ⟨g, off, rfl, hg, hcc⟩ := cl_open HL.out (by omega)
      obtain ⟨x0, x1⟩ := hcc k hlt
      clear hcc
      obtain ⟨d, hd⟩ : ∃ d, d = l[k] := ⟨_, rfl⟩
      rw [← hd] at x0 x1
      have HD := Lib.hid hd
      clear hd
      obtain ⟨dx, dy⟩ := d
      simp only at x0 x1
      by_cases h1 : dx = x
      · have b1 : (dx == x) = true := by simp [h1]
        have hhas := fun w h => specHas (some ⟨g, off, none⟩) cl l (x - 1) dy w (by omega) h
        by_cases h2 : hasC l (x - 1) dy = true
        · rw [h2] at hhas
          have HY := Lib.hid (any_hit (p := (fun c : Cl => decide (c.x = x) && hasC l (x - 1) c.y)) hlt (by rw [← HD.out]; simp [h1, h2]))
          have HHAS := Lib.hid hhas
          clear h1 h2 hhas
          go_wp2_with fail
          refine (HHAS.out _ HL.out).mono ?_
          rintro e w2 ⟨rfl, rfl⟩
          go_wp2
          go_ret
          rw [HPX.out, HY.out]
          exact ⟨rfl, HB1.out⟩
        · have h2' : hasC l (x - 1) dy = false := by simpa using h2
          rw [h2'] at hhas
          have HNN := Lib.hid (any_take_succ (p := (fun c : Cl => decide (c.x = x) && hasC l (x - 1) c.y)) hlt HT.out (by rw [← HD.out]; simp [h2']))
          have HHAS := Lib.hid hhas
          clear h1 h2 h2' hhas
          go_wp2_with fail
          refine (HHAS.out _ HL.out).mono ?_
          rintro e w2 ⟨rfl, rfl⟩
          go_wp2
          go_roundw
          case rel => exact ⟨k + 1, by omega, by go_num, HNN.out, trivial⟩
          case measure => simp [intOf]; omega
      · have b1 : (dx == x) = false := by simp [h1]
        have HNN := Lib.hid (any_take_succ (p := (fun c : Cl => decide (c.x = x) && hasC l (x - 1) c.y)) hlt HT.out (by rw [← HD.out]; simp [h1]))
        clear h1
        go_wp2
        go_roundw
        case rel => exact ⟨k + 1, by omega, by go_num, HNN.out, trivial⟩
        case measure => simp [intOf]; omega
    · obtain rfl : k = l.length := by omega
      go_wp2
      go_ret
      have HT2 := HT.out
      rw [List.take_length] at HT2
      rw [HPX.out, HT2]
      exact ⟨rfl, HB1.out⟩

set_option maxRecDepth 100000 in
set_option maxHeartbeats 1600000 in
theorem specCrossY (B : Nat) (ad : Option Addr) (c : Nat) (xs : List Int) (v x : Int) (w : World) (hx : 1 ≤ x ∧ x ≤ 6) (hr : Reg (B : Int) xs) (hwf : (Lit.int .i64 v).wf = true) (hc : CellsAt w ad (ints xs)) :
    Calls Tryz.prog 64 #[.agg #[.int .i64 B, .slice ad xs.length c], .int .i64 v, .int .i64 0, .int .i64 x] w fun e w' => e = .returned (.bool (preY (maskC B xs v) x)) ∧ Below w.heap.size w w' := by
  have hcells := fun w (h : CellsAt w ad (ints xs)) => specCells B ad c xs v w hr hwf h
  have hlen := maskC_length v hr
  obtain ⟨l, hl⟩ : ∃ l, l = maskC (B : Int) xs v := ⟨_, rfl⟩
  rw [← hl] at hcells hlen ⊢
  obtain ⟨hx1, hx2⟩ := hx
  have hb0 : Below w.heap.size w (w.alloc (.cells #[.int .i64 B, .slice ad xs.length c] 26)) := (Below.refl _ _).alloc (Nat.le_refl _) _
  have HB0 := Lib.hid hb0
  have HCE := Lib.hid hcells
  have HC := Lib.hid hc
  have HPX := Lib.hid (show preY l x = l.any (fun c : Cl => decide (c.y = x) && hasC l c.x (x - 1)) from rfl)
  clear hcells hc hb0 hr hwf hl
  go_enter Tryz.func64, Tryz.ntmps64
  go_wp2_with fail
  refine (HCE.out _ (HC.out.below HB0.out)).mono ?_
  rintro e w1 ⟨al, cl, rfl, ho1, hb1⟩
  have HL := Lib.hid (ownsRow_cellsAt ho1)
  have HB1 := Lib.hid (HB0.out.trans (hb1.mono HB0.out.size))
  clear ho1 hb1
  go_wp2
  go_loopw [10] (fun i wr => ∃ k : Nat, k ≤ l.length ∧ i = .int .i64 k ∧ (l.take k).any (fun c : Cl => decide (c.y = x) && hasC l c.x (x - 1)) = false ∧ w1 = wr) (fun i _ => l.length - (intOf i).toNat)
  case atStart => exact ⟨0, by omega, rfl, by simp, rfl⟩
  case round =>
    obtain ⟨k, hk, rfl, ht, rfl⟩ := hrel
    have HT := Lib.hid ht
    clear ht
    by_cases hlt : k < l.length
    · obtain ⟨g, off, rfl, hg, hcc⟩ := cl_open HL.out (by omega)
      obtain ⟨x0, x1⟩ := hcc k hlt
      clear hcc
      obtain ⟨d, hd⟩ : ∃ d, d = l[k] := ⟨_, rfl⟩
      rw [← hd] at x0 x1
      have HD := Lib.hid hd
      clear hd
      obtain ⟨dx, dy⟩ := d
      simp only at x0 x1
      by_cases h1 : dy = x
      · have b1 : (dy == x) = true := by simp [h1]
        have hhas := fun w h => specHas (some ⟨g, off, none⟩) cl l dx (x - 1) w (by omega) h
        by_cases h2 : hasC l dx (x - 1) = true
        · rw [h2] at hhas
          have HY := Lib.hid (any_hit (p := (fun c : Cl => decide (c.y = x) && hasC l c.x (x - 1))) hlt (by rw [← HD.out]; simp [h1, h2]))
          have HHAS := Lib.hid hhas
          clear h1 h2 hhas
          go_wp2_with fail
          refine (HHAS.out _ HL.out).mono ?_
          rintro e w2 ⟨rfl, rfl⟩
          go_wp2
          go_ret
          rw [HPX.out, HY.out]
          exact ⟨rfl, HB1.out⟩
        · have h2' : hasC l dx (x - 1) = false := by simpa using h2
          rw [h2'] at hhas
          have HNN := Lib.hid (any_take_succ (p := (fun c : Cl => decide (c.y = x) && hasC l c.x (x - 1))) hlt HT.out (by rw [← HD.out]; simp [h2']))
          have HHAS := Lib.hid hhas
          clear h1 h2 h2' hhas
          go_wp2_with fail
          refine (HHAS.out _ HL.out).mono ?_
          rintro e w2 ⟨rfl, rfl⟩
          go_wp2
          go_roundw
          case rel => exact ⟨k + 1, by omega, by go_num, HNN.out, trivial⟩
          case measure => simp [intOf]; omega
      · have b1 : (dy == x) = false := by simp [h1]
        have HNN := Lib.hid (any_take_succ (p := (fun c : Cl => decide (c.y = x) && hasC l c.x (x - 1))) hlt HT.out (by rw [← HD.out]; simp [h1]))
        clear h1
        go_wp2
        go_roundw
        case rel => exact ⟨k + 1, by omega, by go_num, HNN.out, trivial⟩
        case measure => simp [intOf]; omega
    · obtain rfl : k = l.length := by omega
      go_wp2
      go_ret
      have HT2 := HT.out
      rw [List.take_length] at HT2
      rw [HPX.out, HT2]
      exact ⟨rfl, HB1.out⟩
end Go.Proofs.YtajmdgcnnipdoaaGreatDoor
