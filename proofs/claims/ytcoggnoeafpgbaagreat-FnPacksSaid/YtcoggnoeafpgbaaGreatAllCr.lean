/- AllCr: parts laid together: Cross0, HasCellS, HasCell, CellsOf, Cross1. -/
import Derived.Test.YtcoggnoeafpgbaaGreatAllFrame
import Derived.Test.YtcoggnoeafpgbaaGreatAllReg
import Derived.Test.YtcoggnoeafpgbaaGreatAllShift
import Derived.Test.YtcoggnoeafpgbaaGreatProg

/- Cross0: the masks of a region, their cells, and how many masks cross each line; plain. -/
namespace Go.Proofs.YtcoggnoeafpgbaaGreat
open Go.RowKit

def placesOf (a : Nat) (l : List Nat) : List Cl := l.map fun i => ⟨((i % a : Nat) : Int), ((i / a : Nat) : Int)⟩
theorem placesOf_length (a : Nat) (l : List Nat) : (placesOf a l).length = l.length := by simp [placesOf]
theorem placesOf_snoc (a : Nat) (l : List Nat) (i : Nat) : placesOf a (l ++ [i]) = placesOf a l ++ [⟨((i % a : Nat) : Int), ((i / a : Nat) : Int)⟩] := by simp [placesOf]
def isMaskB (b : Int) (xs : List Int) (v : Int) : Bool := decide (0 ≤ v) && decide (v.toNat &&& regMask b xs = v.toNat)
/-- The cells of a mask; of a number that is no mask of the region, none. -/
def maskC (b : Int) (xs : List Int) (v : Int) : List Cl := if isMaskB b xs v = true then placesOf b.toNat (smBits (b.toNat * xs.length) v.toNat) else []
theorem maskC_in {b : Int} {xs : List Int} {v : Int} {c : Cl} (h1 : 1 ≤ b) (h : c ∈ maskC b xs v) : 0 ≤ c.x ∧ c.x < b ∧ 0 ≤ c.y ∧ c.y < xs.length := by
  unfold maskC at h
  split at h
  · simp only [placesOf, List.mem_map] at h
    obtain ⟨i, hi, rfl⟩ := h
    have hi := smBits_lt hi
    have hm : i % b.toNat < b.toNat := Nat.mod_lt _ (by omega)
    have hd : i / b.toNat < xs.length := Nat.div_lt_of_lt_mul hi
    refine ⟨Int.natCast_nonneg _, ?_, Int.natCast_nonneg _, Int.ofNat_lt.2 hd⟩
    have h2 : ((i % b.toNat : Nat) : Int) < ((b.toNat : Nat) : Int) := Int.ofNat_lt.2 hm
    have h3 : ((b.toNat : Nat) : Int) = b := Int.toNat_of_nonneg (by omega)
    show ((i % b.toNat : Nat) : Int) < b
    rw [← h3]
    exact h2
  · simp at h
theorem regMask_lt2 {b : Int} {xs : List Int} (h : Reg b xs) : regMask b xs < 2 ^ (b.toNat * xs.length) := by
  have h1 := maskTo_lt (reg_nat h) xs.length (by rw [regN_length]; exact Nat.le_refl _)
  rw [Nat.mul_comm]
  exact h1
theorem isMask_nat {b : Int} {xs : List Int} {v : Int} (h : Reg b xs) (hm : isMaskB b xs v = true) : ∃ m : Nat, v = (m : Int) ∧ m ≤ regMask b xs ∧ m < 2 ^ (b.toNat * xs.length) := by
  unfold isMaskB at hm
  simp only [Bool.and_eq_true, decide_eq_true_eq] at hm
  have hle : v.toNat ≤ regMask b xs := by rw [← hm.2]; exact Nat.and_le_right
  exact ⟨v.toNat, by omega, hle, Nat.lt_of_le_of_lt hle (regMask_lt2 h)⟩
theorem maskC_length {b : Int} {xs : List Int} (v : Int) (h : Reg b xs) : (maskC b xs v).length ≤ 36 := by
  unfold maskC
  split
  · rw [placesOf_length]
    have h1 : (smBits (b.toNat * xs.length) v.toNat).length ≤ b.toNat * xs.length := by
      unfold smBits
      refine Nat.le_trans (List.length_filter_le _ _) ?_
      simp
    have h2 : b.toNat * xs.length ≤ 6 * 6 := Nat.mul_le_mul (by have := h.1.2; omega) h.2.1.2
    omega
  · simp

/-- Whether the cells cross the line behind column x: as the program looks, and as the reference looks. -/
def colX (l : List Cl) (x : Int) : Bool := l.any fun c => decide (c.x = x) && hasC l (c.x + 1) c.y
def colY (l : List Cl) (y : Int) : Bool := l.any fun c => decide (c.y = y) && hasC l c.x (c.y + 1)
def preX (l : List Cl) (x : Int) : Bool := l.any fun c => decide (c.x = x) && hasC l (x - 1) c.y
def preY (l : List Cl) (y : Int) : Bool := l.any fun c => decide (c.y = y) && hasC l c.x (y - 1)
theorem preX_eq (l : List Cl) (x : Int) : preX l (x + 1) = colX l x := by
  rw [Bool.eq_iff_iff]
  simp only [preX, colX, hasC, List.any_eq_true, Bool.and_eq_true, decide_eq_true_eq]
  constructor
  · rintro ⟨⟨cx, cy⟩, h1, h2, h3⟩
    simp only at h2 h3
    subst h2
    exact ⟨⟨x, cy⟩, by simpa using h3, rfl, h1⟩
  · rintro ⟨⟨cx, cy⟩, h1, h2, h3⟩
    simp only at h2 h3
    subst h2
    exact ⟨⟨cx + 1, cy⟩, h3, rfl, by simpa using h1⟩
theorem preY_eq (l : List Cl) (y : Int) : preY l (y + 1) = colY l y := by
  rw [Bool.eq_iff_iff]
  simp only [preY, colY, hasC, List.any_eq_true, Bool.and_eq_true, decide_eq_true_eq]
  constructor
  · rintro ⟨⟨cx, cy⟩, h1, h2, h3⟩
    simp only at h2 h3
    subst h2
    exact ⟨⟨cx, y⟩, by simpa using h3, rfl, h1⟩
  · rintro ⟨⟨cx, cy⟩, h1, h2, h3⟩
    simp only at h2 h3
    subst h2
    exact ⟨⟨cx, cy + 1⟩, h3, rfl, by simpa using h1⟩
theorem colX_in {b : Int} {xs : List Int} {v x : Int} (h1 : 1 ≤ b) (h : colX (maskC b xs v) x = true) : 0 ≤ x ∧ x + 1 < b := by
  simp only [colX, hasC, List.any_eq_true, Bool.and_eq_true, decide_eq_true_eq] at h
  obtain ⟨c, q1, q2, q3⟩ := h
  have r1 := maskC_in h1 q1
  have r2 := maskC_in h1 q3
  simp only at r2
  omega
theorem colY_in {b : Int} {xs : List Int} {v y : Int} (h1 : 1 ≤ b) (h : colY (maskC b xs v) y = true) : 0 ≤ y ∧ y + 1 < xs.length := by
  simp only [colY, hasC, List.any_eq_true, Bool.and_eq_true, decide_eq_true_eq] at h
  obtain ⟨c, q1, q2, q3⟩ := h
  have r1 := maskC_in h1 q1
  have r2 := maskC_in h1 q3
  simp only at r2
  omega
/-- How many of the first k masks cross. -/
def cntTo (f : List Cl → Int → Bool) (b : Int) (xs ls : List Int) (x : Int) (k : Nat) : Nat := (ls.take k).countP fun v => f (maskC b xs v) x
theorem cntTo_zero (f : List Cl → Int → Bool) (b : Int) (xs ls : List Int) (x : Int) : cntTo f b xs ls x 0 = 0 := by simp [cntTo]
theorem cntTo_succ (f : List Cl → Int → Bool) (b : Int) (xs ls : List Int) (x : Int) (k : Nat) (hk : k < ls.length) : cntTo f b xs ls x (k + 1) = cntTo f b xs ls x k + if f (maskC b xs ls[k]) x = true then 1 else 0 := by
  unfold cntTo
  rw [List.take_succ_eq_append_getElem hk, List.countP_append]
  simp [List.countP_cons]
theorem cntTo_le (f : List Cl → Int → Bool) (b : Int) (xs ls : List Int) (x : Int) (k : Nat) : cntTo f b xs ls x k ≤ ls.length := by
  unfold cntTo
  refine Nat.le_trans List.countP_le_length ?_
  rw [List.length_take]; omega
/-- The counts of all n lines. -/
def cntL (f : List Cl → Int → Bool) (b : Int) (xs ls : List Int) (n k : Nat) : List Int := (List.range n).map fun x : Nat => ((cntTo f b xs ls (x : Int) k : Nat) : Int)
theorem cntL_length (f : List Cl → Int → Bool) (b : Int) (xs ls : List Int) (n k : Nat) : (cntL f b xs ls n k).length = n := by simp [cntL]
theorem cntL_snoc (f : List Cl → Int → Bool) (b : Int) (xs ls : List Int) (n k : Nat) : cntL f b xs ls (n + 1) k = cntL f b xs ls n k ++ [((cntTo f b xs ls n k : Nat) : Int)] := by simp [cntL, List.range_succ]
def acrossL (b : Int) (xs ls : List Int) : List Int := if Reg b xs then cntL colX b xs ls (b.toNat - 1) ls.length else []
def downL (b : Int) (xs ls : List Int) : List Int := if Reg b xs then cntL colY b xs ls (xs.length - 1) ls.length else []
/-- The numbers of the lines with count 0, of the first k. -/
def zerosTo (l : List Int) (off : Int) : Nat → List Int
  | 0 => []
  | k + 1 => if l.getD k 0 = 0 then zerosTo l off k ++ [(k : Int) + off] else zerosTo l off k
theorem zerosTo_le (l : List Int) (off : Int) : ∀ k, (zerosTo l off k).length ≤ k := by
  intro k
  induction k with
  | zero => exact Nat.le_refl _
  | succ k ih => unfold zerosTo; split <;> (try simp) <;> omega
def faultsL (b : Int) (xs ls : List Int) : List Int := zerosTo (acrossL b xs ls) 1 (acrossL b xs ls).length ++ zerosTo (downL b xs ls) 7 (downL b xs ls).length
theorem acrossL_le (b : Int) (xs ls : List Int) : (acrossL b xs ls).length ≤ 5 := by
  unfold acrossL
  split
  · rename_i h
    rw [cntL_length]
    have := h.1.2
    omega
  · simp
theorem downL_le (b : Int) (xs ls : List Int) : (downL b xs ls).length ≤ 5 := by
  unfold downL
  split
  · rename_i h
    rw [cntL_length]
    have := h.2.1.2
    omega
  · simp
end Go.Proofs.YtcoggnoeafpgbaaGreat

/- HasCellS: the walks of HasCell, the reference's and the program's. -/
namespace Go.Proofs.YtcoggnoeafpgbaaGreat
open Go.RowKit

theorem has_yes {l : List Cl} {k : Nat} {x y : Int} (hk : k < l.length) (h : l[k] = ⟨x, y⟩) : hasC l x y = true := decide_eq_true (h ▸ List.getElem_mem hk)
theorem has_no {l : List Cl} {x y : Int} (h : (⟨x, y⟩ : Cl) ∉ l.take l.length) : hasC l x y = false := decide_eq_false (by rwa [List.take_length] at h)

set_option maxHeartbeats 800000 in
theorem specHas (ad : Option Addr) (c : Nat) (l : List Cl) (x y : Int) (w : World) (hn : l.length ≤ 1048576) (hc : CellsAt w ad (cls l)) :
    Calls Tryz.prog 143 #[.slice ad l.length c, .int .i64 x, .int .i64 y] w fun e w' => e = .returned (.bool (hasC l x y)) ∧ w = w' := by
  have HC := Lib.hid hc
  clear hc
  go_enter Tryz.func143, Tryz.ntmps143
  go_wp2
  go_loopw [7] (fun i wr => ∃ k : Nat, k ≤ l.length ∧ i = .int .i64 k ∧ (⟨x, y⟩ : Cl) ∉ l.take k ∧ w = wr) (fun i _ => l.length - (intOf i).toNat)
  case atStart => exact ⟨0, by omega, rfl, by simp, rfl⟩
  case round =>
    obtain ⟨k, hk, rfl, ht, rfl⟩ := hrel
    have HT := Lib.hid ht
    clear ht
    by_cases hlt : k < l.length
    · obtain ⟨g, off, rfl, hg, hcc⟩ := cl_open HC.out (by omega)
      obtain ⟨x0, x1⟩ := hcc k hlt
      clear hcc
      obtain ⟨d, hd⟩ : ∃ d, d = l[k] := ⟨_, rfl⟩
      rw [← hd] at x0 x1
      have HD := Lib.hid hd
      clear hd
      obtain ⟨dx, dy⟩ := d
      simp only at x0 x1
      by_cases h1 : dx = x
      · have b1 : (dx == x) = true := by simp [h1]
        by_cases h2 : dy = y
        · have b2 : (dy == y) = true := by simp [h2]
          have HY := Lib.hid (has_yes (x := x) (y := y) hlt (by rw [← HD.out, h1, h2]))
          clear h1 h2
          go_wp2
          go_ret
          rw [HY.out]
          exact ⟨rfl, rfl⟩
        · have b2 : (dy == y) = false := by simp [h2]
          have HNN := Lib.hid (not_mem_take_succ hlt HT.out (by rw [← HD.out]; intro h; cases h; exact h2 rfl))
          clear h1 h2
          go_wp2
          go_roundw
          case rel => exact ⟨k + 1, by omega, by go_num, HNN.out, trivial⟩
          case measure => simp [intOf]; omega
      · have b1 : (dx == x) = false := by simp [h1]
        have HNN := Lib.hid (not_mem_take_succ hlt HT.out (by rw [← HD.out]; intro h; cases h; exact h1 rfl))
        clear h1
        go_wp2
        go_roundw
        case rel => exact ⟨k + 1, by omega, by go_num, HNN.out, trivial⟩
        case measure => simp [intOf]; omega
    · obtain rfl : k = l.length := by omega
      go_wp2
      go_ret
      rw [has_no HT.out]
      exact ⟨rfl, rfl⟩

end Go.Proofs.YtcoggnoeafpgbaaGreat
