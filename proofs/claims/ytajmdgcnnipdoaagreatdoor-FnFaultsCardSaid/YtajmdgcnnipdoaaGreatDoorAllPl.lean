/- AllPl: parts laid together: Used0, Block0, Pack0, Low0, Srch0, Srch1, Pc, OriLen, PopC, RegF, TorAll0, TorN. -/
import Derived.Test.YtajmdgcnnipdoaaGreatDoorAllBase
import Derived.Test.YtajmdgcnnipdoaaGreatDoorAllReg
import Derived.Test.YtajmdgcnnipdoaaGreatDoorAllShp
import Derived.Lib.TrailingZeros
import Derived.Test.YtajmdgcnnipdoaaGreatDoorTorus0

/- Used0: what the first masks of a list have used; plain. -/
namespace Go.Proofs.YtajmdgcnnipdoaaGreatDoor
open Go.RowKit

def usedTo (l : List Int) : Nat → Nat
  | 0 => 0
  | k + 1 => usedTo l k ||| (l.getD k 0).toNat
theorem getD_at (l : List Int) (k : Nat) (h : k < l.length) : l.getD k 0 = l[k] := by
  simp [List.getD_eq_getElem?_getD, List.getElem?_eq_getElem h]
theorem usedTo_at (l : List Int) (k : Nat) (h : k < l.length) : usedTo l k ||| l[k].toNat = usedTo l (k + 1) := by
  rw [usedTo, getD_at l k h]
end Go.Proofs.YtajmdgcnnipdoaaGreatDoor

/- Block0: the masks of pieces are numbers below 2 ^ 36; what blocks; plain. -/
namespace Go.Proofs.YtajmdgcnnipdoaaGreatDoor
open Go.RowKit

def Small (v : Int) : Prop := 0 ≤ v ∧ v < 68719476736
theorem mocS_lt {B : Nat} {xs : List Int} (hr : Reg (B : Int) xs) : ∀ (s : List Cl) (m0 m : Nat), mocS B xs s m0 = some m → m0 < 68719476736 → m < 68719476736
  | [], m0, m, h, h0 => by
    rw [mocS] at h
    cases h
    exact h0
  | c :: r, m0, m, h, h0 => by
    rw [mocS] at h
    cases hin : inR B xs c.x.toNat c.y.toNat with
    | false => rw [hin] at h; simp at h
    | true =>
      cases htb : m0.testBit (pbit B c) with
      | true => rw [hin, htb] at h; simp at h
      | false =>
        rw [hin, htb] at h
        simp only [Bool.not_false, Bool.and_true, cond_true] at h
        refine mocS_lt hr r _ m h ?_
        have hb := (inR_bit hr hin).1
        rw [← or_two_pow htb]
        exact Nat.lt_of_lt_of_le (Nat.or_lt_two_pow (n := 36) (Nat.lt_of_lt_of_le h0 (by decide)) (Nat.pow_lt_pow_right (by decide) hb)) (by decide)
theorem plOne_small {B : Nat} {xs : List Int} (hr : Reg (B : Int) xs) (t : List Cl) (y x : Nat) : ∀ v ∈ plOne B xs t y x, Small v := by
  intro v hv
  unfold plOne at hv
  split at hv
  · rename_i m hm
    rw [List.mem_singleton] at hv
    subst hv
    have := mocS_lt hr _ _ _ hm (by decide)
    unfold Small
    omega
  · simp at hv
theorem plRow_small {B : Nat} {xs : List Int} (hr : Reg (B : Int) xs) (t : List Cl) (y : Nat) : ∀ x, ∀ v ∈ plRow B xs t y x, Small v
  | 0 => fun v hv => by simp [plRow] at hv
  | x + 1 => fun v hv => by
    unfold plRow at hv
    rcases List.mem_append.1 hv with hv | hv
    · exact plRow_small hr t y x v hv
    · exact plOne_small hr t y x v hv
theorem plGrid_small {B : Nat} {xs : List Int} (hr : Reg (B : Int) xs) (t : List Cl) : ∀ y, ∀ v ∈ plGrid B xs t y, Small v
  | 0 => fun v hv => by simp [plGrid] at hv
  | y + 1 => fun v hv => by
    unfold plGrid at hv
    rcases List.mem_append.1 hv with hv | hv
    · exact plGrid_small hr t y v hv
    · exact plRow_small hr t y B v hv
theorem plTo_small {B : Nat} {xs : List Int} (hr : Reg (B : Int) xs) (rows : List (List Cl)) : ∀ i, ∀ v ∈ plTo B xs rows i, Small v
  | 0 => fun v hv => by simp [plTo] at hv
  | i + 1 => fun v hv => by
    unfold plTo at hv
    rcases List.mem_append.1 hv with hv | hv
    · exact plTo_small hr rows i v hv
    · exact plGrid_small hr _ _ v hv
theorem allTo_small {B : Nat} {xs : List Int} (hr : Reg (B : Int) xs) (ps : List (List Cl)) : ∀ i, ∀ v ∈ allTo B xs ps i, Small v
  | 0 => fun v hv => by simp [allTo] at hv
  | i + 1 => fun v hv => by
    unfold allTo at hv
    rcases List.mem_append.1 hv with hv | hv
    · exact allTo_small hr ps i v hv
    · unfold placL at hv
      exact plTo_small hr _ _ v ((mem_putAllG wholeI _ v).1 hv)
theorem allL_small {B : Nat} {xs : List Int} (hr : Reg (B : Int) xs) (ps : List (List Cl)) : ∀ v ∈ allL B xs ps, Small v := fun v hv => by
  unfold allL at hv
  exact allTo_small hr ps _ v ((mem_putAllG wholeI _ v).1 hv)
theorem allL_length {B : Nat} {xs : List Int} (hr : Reg (B : Int) xs) {ps : List (List Cl)} (hp : Pcs ps) : (allL B xs ps).length ≤ 1500 := by
  have h1 := putAllG_length (lt := ltI) (allTo B xs ps ps.length)
  have h2 := allTo_length hr ps ps.length
  have h3 := hp.2.2
  unfold allL
  omega
/-- Whether a mask meets each of some masks. -/
def blocksL (l : List Int) (m : Nat) : Bool := decide (∀ v ∈ l, v.toNat &&& m ≠ 0)
def isMk (b : Int) (xs : List Int) (v : Int) : Bool := decide (0 ≤ v) && decide (v.toNat &&& regMask b xs = v.toNat)
def blkR (b : Int) (xs : List Int) (ps : List (List Cl)) (v : Int) : Bool := decide (Reg b xs) && (decide (Pcs ps) && (isMk b xs v && blocksL (allL b.toNat xs ps) v.toNat))
end Go.Proofs.YtajmdgcnnipdoaaGreatDoor

/- Pack0: lists of masks that lie apart; plain. -/
namespace Go.Proofs.YtajmdgcnnipdoaaGreatDoor
open Go.RowKit

def apStep (A l : List Int) (k : Nat) : Bool := decide (l.getD k 0 ∈ A) && (decide (usedTo l k &&& (l.getD k 0).toNat = 0) && (decide (k = 0) || decide (l.getD (k - 1) 0 < l.getD k 0)))
def apTo (A l : List Int) : Nat → Bool
  | 0 => true
  | k + 1 => apTo A l k && apStep A l k
/-- Masks of a list of placements, ascending, no two of them with a cell in common. -/
def apartL (A l : List Int) : Bool := apTo A l l.length
def packR (b : Int) (xs : List Int) (ps : List (List Cl)) (l : List Int) : Bool := decide (Reg b xs) && (decide (Pcs ps) && apartL (allL b.toNat xs ps) l)
theorem apTo_false {A l : List Int} {k n : Nat} (h : apTo A l k = false) (hk : k ≤ n) : apTo A l n = false := by
  induction hk with
  | refl => exact h
  | step _ ih => rw [apTo, ih]; rfl
theorem apStep_at (A l : List Int) (k : Nat) (h : k < l.length) : apStep A l k = (decide (l[k] ∈ A) && (decide (usedTo l k &&& l[k].toNat = 0) && (decide (k = 0) || decide (l.getD (k - 1) 0 < l[k])))) := by
  rw [apStep, getD_at l k h]
end Go.Proofs.YtajmdgcnnipdoaaGreatDoor

/- Low0: the least bit of a number; lists of masks, ordered by their least bits, that lie apart; plain. -/
namespace Go.Proofs.YtajmdgcnnipdoaaGreatDoor
open Go.RowKit

/-- The place of the least bit. -/
def lowB (m : Nat) : Nat := Lib.ctz 64 m
theorem low_form {m : Nat} (h0 : 0 < m) (hm : m < 18446744073709551616) : ∃ q, m = (2 * q + 1) * 2 ^ lowB m ∧ lowB m < 64 := by
  obtain ⟨q, hq, hk⟩ := Lib.ctzFrom_spec 64 m h0 hm
  have hl : lowB m = Lib.ctzFrom 64 m := by unfold lowB Lib.ctz; rw [if_neg (by omega)]
  rw [hl]
  exact ⟨q, by rw [Nat.mul_comm]; exact hq, hk⟩
theorem low_bit {m : Nat} (h0 : 0 < m) (hm : m < 18446744073709551616) : m.testBit (lowB m) = true := by
  obtain ⟨q, hq, _⟩ := low_form h0 hm
  generalize lowB m = k at hq
  rw [hq, Nat.testBit_mul_two_pow]
  simp
theorem low_below {m i : Nat} (h0 : 0 < m) (hm : m < 18446744073709551616) (hi : i < lowB m) : m.testBit i = false := by
  obtain ⟨q, hq, _⟩ := low_form h0 hm
  generalize lowB m = k at hq hi
  rw [hq, Nat.testBit_mul_two_pow, decide_eq_false (by omega), Bool.false_and]
theorem low_lt {m : Nat} (h0 : 0 < m) (hm : m < 18446744073709551616) : lowB m < 64 := by
  obtain ⟨_, _, h⟩ := low_form h0 hm
  exact h
/-- A mask that is some cells of a small board: not empty. -/
def Mk (v : Int) : Prop := 0 < v ∧ v < 68719476736
def covStep (A l : List Int) (k : Nat) : Bool := decide (l.getD k 0 ∈ A) && (decide (usedTo l k &&& (l.getD k 0).toNat = 0) && (decide (k = 0) || decide (lowB (l.getD (k - 1) 0).toNat < lowB (l.getD k 0).toNat)))
def covTo (A l : List Int) : Nat → Bool
  | 0 => true
  | k + 1 => covTo A l k && covStep A l k
/-- Masks of a list of placements, ordered by their least bits, that have each of some cells once. -/
def covL (A : List Int) (n1 : Nat) (l : List Int) : Bool := covTo A l l.length && decide (usedTo l l.length = n1)
theorem covTo_false {A l : List Int} {k n : Nat} (h : covTo A l k = false) (hk : k ≤ n) : covTo A l n = false := by
  induction hk with
  | refl => exact h
  | step _ ih => rw [covTo, ih]; rfl
theorem covStep_at (A l : List Int) (k : Nat) (h : k < l.length) : covStep A l k = (decide (l[k] ∈ A) && (decide (usedTo l k &&& l[k].toNat = 0) && (decide (k = 0) || decide (lowB (l.getD (k - 1) 0).toNat < lowB l[k].toNat)))) := by
  rw [covStep, getD_at l k h]
/-- The mask ahead of a round's is a placement, and what it has is used. -/
theorem cov_prev {A l : List Int} {j : Nat} (h : covTo A l (j + 1) = true) (hj : j < l.length) : l[j] ∈ A ∧ ∀ i, l[j].toNat.testBit i = true → (usedTo l (j + 1)).testBit i = true := by
  rw [covTo, covStep_at A l j hj] at h
  simp only [Bool.and_eq_true, decide_eq_true_eq] at h
  refine ⟨h.2.1, fun i hi => ?_⟩
  rw [← usedTo_at l j hj, Nat.testBit_or, hi, Bool.or_true]
theorem low_ne {U p u : Nat} (hp0 : 0 < p) (hp : p < 18446744073709551616) (hu0 : 0 < u) (hu : u < 18446744073709551616) (hin : ∀ i, p.testBit i = true → U.testBit i = true) (h : U &&& u = 0) : lowB p ≠ lowB u := fun e => by
  have h1 := hin _ (low_bit hp0 hp)
  have h2 := low_bit hu0 hu
  rw [← e] at h2
  have h3 : (U &&& u).testBit (lowB p) = true := by rw [Nat.testBit_and, h1, h2]; rfl
  rw [h] at h3
  simp at h3
end Go.Proofs.YtajmdgcnnipdoaaGreatDoor

/- Srch0: all tilings out of some masks, in the order of the search; plain. -/
namespace Go.Proofs.YtajmdgcnnipdoaaGreatDoor
open Go.RowKit

/-- A mask has the least free cell and lies within what is free. -/
def fitsB (free : Nat) (v : Int) : Bool := v.toNat.testBit (lowB free) && decide (v.toNat &&& free = v.toNat)
theorem fitsB_def (free : Nat) (v : Int) : fitsB free v = (v.toNat.testBit (lowB free) && decide (v.toNat &&& free = v.toNat)) := rfl
def goS (A : List Int) (rec : Nat → List (List Int)) (free : Nat) : Nat → List (List Int)
  | 0 => []
  | i + 1 => goS A rec free i ++ (if fitsB free (A.getD i 0) = true then (rec (free - (A.getD i 0).toNat)).map (A.getD i 0 :: ·) else [])
/-- The tilings of what is free, the first mask at the least free cell; the first number bounds how deep the search goes. -/
def srchF (A : List Int) : Nat → Nat → List (List Int)
  | 0, free => if free = 0 then [[]] else []
  | f + 1, free => if free = 0 then [[]] else goS A (srchF A f) free A.length
theorem srchF_zero (A : List Int) (f : Nat) : srchF A f 0 = [[]] := by
  cases f <;> simp [srchF]
theorem srchF_pos (A : List Int) (f : Nat) {free : Nat} (h : free ≠ 0) : srchF A (f + 1) free = goS A (srchF A f) free A.length := by
  rw [srchF, if_neg h]
theorem goS_yes {A : List Int} {rec : Nat → List (List Int)} {free k : Nat} (hk : k < A.length) (h : fitsB free A[k] = true) : goS A rec free (k + 1) = goS A rec free k ++ (rec (free - A[k].toNat)).map (A[k] :: ·) := by
  rw [goS, getD_at A k hk, if_pos h]
theorem goS_no {A : List Int} {rec : Nat → List (List Int)} {free k : Nat} (hk : k < A.length) (h : fitsB free A[k] = false) : goS A rec free (k + 1) = goS A rec free k := by
  rw [goS, getD_at A k hk, if_neg (by rw [h]; simp), List.append_nil]
theorem goS_prefix (A : List Int) (rec : Nat → List (List Int)) (free : Nat) {k n : Nat} (h : k ≤ n) : ∃ t, goS A rec free n = goS A rec free k ++ t := by
  induction h with
  | refl => exact ⟨[], by rw [List.append_nil]⟩
  | step _ ih =>
    obtain ⟨t, ht⟩ := ih
    rw [goS, ht, List.append_assoc]
    exact ⟨_, rfl⟩
theorem goS_len (A : List Int) (rec : Nat → List (List Int)) (free : Nat) {k n : Nat} (h : k ≤ n) : (goS A rec free k).length ≤ (goS A rec free n).length := by
  obtain ⟨t, ht⟩ := goS_prefix A rec free h
  rw [ht, List.length_append]
  omega
theorem fits_sub {free u : Nat} (h : u &&& free = u) : u ≤ free := by
  rw [← h]
  exact Nat.and_le_right
end Go.Proofs.YtajmdgcnnipdoaaGreatDoor

/- Srch1: a visitor over the tilings in the order of the search; the search by the masks that have the least free cell; plain. -/
namespace Go.Proofs.YtajmdgcnnipdoaaGreatDoor
open Go.RowKit

section
variable {α : Type}
/-- What has been visited behind L, and whether the visitor never said stop. -/
def visitG (cont : List α → Bool) : List α → List α → List α × Bool
  | [], L => (L, true)
  | f :: Fs, L => if cont (L ++ [f]) = true then visitG cont Fs (L ++ [f]) else (L ++ [f], false)
theorem visitG_one (cont : List α → Bool) (f : α) (L : List α) : visitG cont [f] L = (L ++ [f], cont (L ++ [f])) := by
  simp only [visitG]
  cases cont (L ++ [f]) <;> simp
theorem visitG_append (cont : List α → Bool) : ∀ (Fs Gs L : List α), visitG cont (Fs ++ Gs) L = if (visitG cont Fs L).2 = true then visitG cont Gs (visitG cont Fs L).1 else visitG cont Fs L := by
  intro Fs
  induction Fs with
  | nil => intro Gs L; simp [visitG]
  | cons f Fs ih =>
    intro Gs L
    by_cases h : cont (L ++ [f]) = true
    · have e1 : visitG cont (f :: Fs ++ Gs) L = visitG cont (Fs ++ Gs) (L ++ [f]) := by rw [List.cons_append, visitG, if_pos h]
      have e2 : visitG cont (f :: Fs) L = visitG cont Fs (L ++ [f]) := by rw [visitG, if_pos h]
      rw [e1, e2, ih]
    · have e1 : visitG cont (f :: Fs ++ Gs) L = (L ++ [f], false) := by rw [List.cons_append, visitG, if_neg h]
      have e2 : visitG cont (f :: Fs) L = (L ++ [f], false) := by rw [visitG, if_neg h]
      rw [e1, e2]
      simp
theorem visitG_go {cont : List α → Bool} {Fs Gs L : List α} (h : (visitG cont Fs L).2 = true) : visitG cont (Fs ++ Gs) L = visitG cont Gs (visitG cont Fs L).1 := by
  rw [visitG_append, if_pos h]
/-- The visitor has not said stop. -/
def GoL (cont : List α → Bool) (L : List α) : Prop := L = [] ∨ cont L = true
theorem visitG_goL {cont : List α → Bool} : ∀ {Fs L : List α}, GoL cont L → (visitG cont Fs L).2 = true → GoL cont (visitG cont Fs L).1 := by
  intro Fs
  induction Fs with
  | nil => intro L h _; exact h
  | cons f Fs ih =>
    intro L h h2
    by_cases q : cont (L ++ [f]) = true
    · rw [visitG, if_pos q] at h2 ⊢
      exact ih (.inr q) h2
    · rw [visitG, if_neg q] at h2
      cases h2
theorem visitG_stopped {cont : List α → Bool} {Fs Gs L : List α} (hp : Fs <+: Gs) (h : (visitG cont Fs L).2 = false) : visitG cont Gs L = visitG cont Fs L := by
  obtain ⟨R, rfl⟩ := hp
  rw [visitG_append, h]
  simp
end

/-- The masks of some that have the cell k. -/
def atL (A : List Int) (k : Nat) : List Int := A.filter fun v => v.toNat.testBit k
theorem atL_snoc (A : List Int) (v : Int) (k : Nat) : atL (A ++ [v]) k = atL A k ++ (if v.toNat.testBit k = true then [v] else []) := by
  unfold atL
  rw [List.filter_append]
  by_cases h : v.toNat.testBit k = true
  · rw [if_pos h]; simp [h]
  · rw [if_neg h]; simp [h]
theorem atL_length (A : List Int) (k : Nat) : (atL A k).length ≤ A.length := List.length_filter_le _ _
/-- The search by the masks R that have the least free cell. -/
def goR (R : List Int) (rec : Nat → List (List Int)) (free : Nat) : Nat → List (List Int)
  | 0 => []
  | i + 1 => goR R rec free i ++ (if (R.getD i 0).toNat &&& free = (R.getD i 0).toNat then (rec (free - (R.getD i 0).toNat)).map (R.getD i 0 :: ·) else [])
theorem goR_yes {R : List Int} {rec : Nat → List (List Int)} {free k : Nat} (hk : k < R.length) (h : R[k].toNat &&& free = R[k].toNat) : goR R rec free (k + 1) = goR R rec free k ++ (rec (free - R[k].toNat)).map (R[k] :: ·) := by
  rw [goR, getD_at R k hk, if_pos h]
theorem goR_no {R : List Int} {rec : Nat → List (List Int)} {free k : Nat} (hk : k < R.length) (h : ¬ R[k].toNat &&& free = R[k].toNat) : goR R rec free (k + 1) = goR R rec free k := by
  rw [goR, getD_at R k hk, if_neg h, List.append_nil]
theorem goR_prefix (R : List Int) (rec : Nat → List (List Int)) (free : Nat) {k n : Nat} (h : k ≤ n) : goR R rec free k <+: goR R rec free n := by
  induction h with
  | refl => exact List.prefix_rfl
  | step _ ih =>
    rw [goR]
    exact ih.trans (List.prefix_append _ _)
theorem goR_flat (R : List Int) (rec : Nat → List (List Int)) (free : Nat) : ∀ k, k ≤ R.length → goR R rec free k = (R.take k).flatMap fun v => if v.toNat &&& free = v.toNat then (rec (free - v.toNat)).map (v :: ·) else []
  | 0, _ => by simp [goR]
  | k + 1, h => by
    rw [goR, goR_flat R rec free k (by omega), getD_at R k (by omega), List.take_succ_eq_append_getElem (by omega : k < R.length), List.flatMap_append]
    simp
theorem goS_flat (A : List Int) (rec : Nat → List (List Int)) (free : Nat) : ∀ k, k ≤ A.length → goS A rec free k = (A.take k).flatMap fun v => if fitsB free v = true then (rec (free - v.toNat)).map (v :: ·) else []
  | 0, _ => by simp [goS]
  | k + 1, h => by
    rw [goS, goS_flat A rec free k (by omega), getD_at A k (by omega), List.take_succ_eq_append_getElem (by omega : k < A.length), List.flatMap_append]
    simp
theorem flatMap_filter' {β : Type} (p : Int → Bool) (g : Int → List β) : ∀ A : List Int, (A.filter p).flatMap g = A.flatMap fun v => if p v = true then g v else []
  | [] => rfl
  | v :: A => by
    rw [List.filter_cons, List.flatMap_cons, ← flatMap_filter' p g A]
    by_cases h : p v = true
    · rw [if_pos h, if_pos h, List.flatMap_cons]
    · rw [if_neg h, if_neg h, List.nil_append]
theorem goR_all (A : List Int) (rec : Nat → List (List Int)) (free : Nat) : goR (atL A (lowB free)) rec free (atL A (lowB free)).length = goS A rec free A.length := by
  rw [goR_flat _ _ _ _ (Nat.le_refl _), goS_flat _ _ _ _ (Nat.le_refl _), List.take_length, List.take_length]
  unfold atL
  rw [flatMap_filter']
  congr 1
  funext v
  unfold fitsB
  by_cases h1 : v.toNat.testBit (lowB free) = true
  · by_cases h2 : v.toNat &&& free = v.toNat
    · rw [if_pos h1, if_pos h2, h1, decide_eq_true h2]; rfl
    · rw [if_pos h1, if_neg h2, h1, decide_eq_false h2]; rfl
  · have h1' : v.toNat.testBit (lowB free) = false := by simpa using h1
    rw [if_neg h1, h1', Bool.false_and]; rfl
/-- The tilings behind those masks that are laid already. -/
def laid (l : List Int) (Fs : List (List Int)) : List (List Int) := Fs.map (l ++ ·)
theorem laid_nil (l : List Int) : laid l [] = [] := rfl
theorem laid_one (l : List Int) : laid l [[]] = [l] := by simp [laid]
theorem laid_append (l : List Int) (Fs Gs : List (List Int)) : laid l (Fs ++ Gs) = laid l Fs ++ laid l Gs := by simp [laid]
theorem laid_cons (l : List Int) (v : Int) (Fs : List (List Int)) : laid l (Fs.map (v :: ·)) = laid (l ++ [v]) Fs := by simp [laid]
theorem laid_none (Fs : List (List Int)) : laid [] Fs = Fs := by simp [laid]
theorem laid_prefix (l : List Int) {Fs Gs : List (List Int)} (h : Fs <+: Gs) : laid l Fs <+: laid l Gs := by
  obtain ⟨R, rfl⟩ := h
  rw [laid_append]
  exact List.prefix_append _ _
theorem sub_bits {a u i : Nat} (h : u &&& a = u) : (a - u).testBit i = (a.testBit i && !u.testBit i) := by
  have h1 : (a - u) + u = a := Nat.sub_add_cancel (fits_sub h)
  have h2 : (a ^^^ u) &&& u = 0 := by
    apply Nat.eq_of_testBit_eq
    intro j
    have hj : (u &&& a).testBit j = u.testBit j := by rw [h]
    rw [Nat.testBit_and] at hj
    rw [Nat.testBit_and, Nat.testBit_xor, Nat.zero_testBit]
    cases hu : u.testBit j <;> cases ha : a.testBit j <;> simp_all
  have h3 : (a ^^^ u) + u = a := by
    rw [← or_eq_add h2]
    apply Nat.eq_of_testBit_eq
    intro j
    have hj : (u &&& a).testBit j = u.testBit j := by rw [h]
    rw [Nat.testBit_and] at hj
    rw [Nat.testBit_or, Nat.testBit_xor]
    cases hu : u.testBit j <;> cases ha : a.testBit j <;> simp_all
  have h4 : a - u = a ^^^ u := by omega
  have hi : (u &&& a).testBit i = u.testBit i := by rw [h]
  rw [Nat.testBit_and] at hi
  rw [h4, Nat.testBit_xor]
  cases hu : u.testBit i <;> cases ha : a.testBit i <;> simp_all
theorem low_ge {free j : Nat} (h0 : free ≠ 0) (h36 : free < 68719476736) (hj : ∀ i, i < j → free.testBit i = false) : j ≤ lowB free := by
  rcases Nat.lt_or_ge (lowB free) j with q | q
  · have := hj _ q
    rw [low_bit (by omega) (by omega)] at this
    cases this
  · exact q
theorem low36 {free : Nat} (h0 : free ≠ 0) (h36 : free < 68719476736) : lowB free < 36 := by
  rcases Nat.lt_or_ge (lowB free) 36 with q | q
  · exact q
  · have h1 := low_bit (m := free) (by omega) (by omega)
    rw [Nat.testBit_lt_two_pow (Nat.lt_of_lt_of_le h36 (Nat.pow_le_pow_right (n := 2) (by decide) q))] at h1
    cases h1
theorem sub_low {free u j : Nat} (h0 : free ≠ 0) (h36 : free < 68719476736) (hsub : u &&& free = u) (hb : u.testBit (lowB free) = true) (hj : j ≤ lowB free) : ∀ i, i < j + 1 → (free - u).testBit i = false := by
  intro i hi
  rw [sub_bits hsub]
  rcases Nat.lt_or_ge i (lowB free) with q | q
  · rw [low_below (by omega) (by omega) q, Bool.false_and]
  · obtain rfl : i = lowB free := by omega
    rw [hb]; simp
/-- A tiling has no more masks than there are cells. -/
theorem srchF_len (A : List Int) (_hs : ∀ v ∈ A, Mk v) : ∀ (f j free : Nat), free < 68719476736 → (∀ i, i < j → free.testBit i = false) → ∀ l ∈ srchF A f free, l.length + j ≤ 36 ∨ l = [] := by
  intro f
  induction f with
  | zero =>
    intro j free h36 hj l hl
    right
    unfold srchF at hl
    split at hl
    · simpa using hl
    · simp at hl
  | succ f ih =>
    intro j free h36 hj l hl
    by_cases h0 : free = 0
    · subst h0
      rw [srchF_zero] at hl
      right; simpa using hl
    · left
      rw [srchF_pos A f h0, goS_flat _ _ _ _ (Nat.le_refl _), List.take_length, List.mem_flatMap] at hl
      obtain ⟨v, hv, hl⟩ := hl
      by_cases hfit : fitsB free v = true
      · rw [if_pos hfit, List.mem_map] at hl
        obtain ⟨t, ht, rfl⟩ := hl
        unfold fitsB at hfit
        rw [Bool.and_eq_true, decide_eq_true_eq] at hfit
        obtain ⟨hb, hsub⟩ := hfit
        have hlow : j ≤ lowB free := by
          rcases Nat.lt_or_ge (lowB free) j with q | q
          · have := hj _ q
            rw [low_bit (by omega) (by omega)] at this
            cases this
          · exact q
        have hl36 : lowB free < 36 := by
          rcases Nat.lt_or_ge (lowB free) 36 with q | q
          · exact q
          · have h1 := low_bit (m := free) (by omega) (by omega)
            rw [Nat.testBit_lt_two_pow (Nat.lt_of_lt_of_le h36 (Nat.pow_le_pow_right (n := 2) (by decide) q))] at h1
            cases h1
        have hstep := ih (lowB free + 1) (free - v.toNat) (by omega) (fun i hi => by
          rw [sub_bits hsub]
          rcases Nat.lt_or_ge i (lowB free) with q | q
          · rw [low_below (by omega) (by omega) q, Bool.false_and]
          · obtain rfl : i = lowB free := by omega
            rw [hb]; simp) t ht
        rcases hstep with q | q
        · simp; omega
        · subst q; simp; omega
      · rw [if_neg hfit] at hl
        simp at hl
theorem srchF_len36 {A : List Int} (hs : ∀ v ∈ A, Mk v) {f free : Nat} (h36 : free < 68719476736) : ∀ l ∈ srchF A f free, l.length ≤ 36 := by
  intro l hl
  rcases srchF_len A hs f 0 free h36 (fun i hi => absurd hi (by omega)) l hl with q | q
  · omega
  · subst q; simp
theorem atL_mem {A : List Int} {k : Nat} {v : Int} (h : v ∈ atL A k) : v ∈ A ∧ v.toNat.testBit k = true := by
  unfold atL at h
  exact List.mem_filter.1 h
/-- The first of some tilings, and whether there is one. -/
def firstT (Fs : List (List Int)) : List Int := Fs.headD []
def someT (Fs : List (List Int)) : Bool := !Fs.isEmpty
theorem firstT_len {Fs : List (List Int)} {n : Nat} (h : ∀ l ∈ Fs, l.length ≤ n) : (firstT Fs).length ≤ n := by
  cases Fs with
  | nil => exact Nat.zero_le _
  | cons f Fs => exact h f (by simp)
theorem take_one_first (Fs : List (List Int)) : (someT Fs = true ∧ Fs.take 1 = [firstT Fs]) ∨ (someT Fs = false ∧ Fs.take 1 = [] ∧ firstT Fs = []) := by
  cases Fs with
  | nil => right; exact ⟨rfl, rfl, rfl⟩
  | cons f Fs => left; exact ⟨rfl, rfl⟩
/-- A visitor that stops at once. -/
def stopG (_ : List (List Int)) : Bool := false
theorem visitG_stop (Fs : List (List Int)) : (visitG stopG Fs []).1.getLastD [] = firstT Fs ∧ (!(visitG stopG Fs []).1.isEmpty) = someT Fs := by
  cases Fs with
  | nil => exact ⟨rfl, rfl⟩
  | cons f Fs => exact ⟨rfl, rfl⟩
/-- A visitor that counts up to some number. -/
def cntG (most : Nat) (L : List (List Int)) : Bool := decide (L.length < most)
theorem visitG_cnt (most : Nat) : ∀ (Fs L : List (List Int)), L.length < most → (visitG (cntG most) Fs L).1.length = min most (L.length + Fs.length) := by
  intro Fs
  induction Fs with
  | nil => intro L h; simp only [visitG]; rw [List.length_nil]; omega
  | cons f Fs ih =>
    intro L h
    have hl : (L ++ [f]).length = L.length + 1 := by simp
    by_cases h2 : L.length + 1 < most
    · rw [visitG, if_pos (by unfold cntG; rw [hl]; exact decide_eq_true h2), ih _ (by omega), hl, List.length_cons]
      omega
    · rw [visitG, if_neg (by unfold cntG; rw [hl, decide_eq_false h2]; simp), List.length_cons]
      show (L ++ [f]).length = _
      rw [hl]
      omega
/-- What the visitor has been shown is the first of them. -/
theorem visitG_prefix {α : Type} (cont : List α → Bool) : ∀ (Fs L : List α), ∃ n, (visitG cont Fs L).1 = L ++ Fs.take n := by
  intro Fs
  induction Fs with
  | nil => intro L; exact ⟨0, by simp [visitG]⟩
  | cons f Fs ih =>
    intro L
    by_cases h : cont (L ++ [f]) = true
    · obtain ⟨n, hn⟩ := ih (L ++ [f])
      refine ⟨n + 1, ?_⟩
      rw [visitG, if_pos h, hn, List.append_assoc]
      rfl
    · refine ⟨1, ?_⟩
      rw [visitG, if_neg h]
      rfl
theorem visitG_take (most : Nat) (Fs : List (List Int)) (h : 0 < most) : (visitG (cntG most) Fs []).1 = Fs.take most := by
  obtain ⟨n, hn⟩ := visitG_prefix (cntG most) Fs []
  have hl := visitG_cnt most Fs [] h
  rw [hn, List.nil_append] at hl ⊢
  rw [List.length_take, List.length_nil, Nat.zero_add] at hl
  rcases Nat.le_total Fs.length n with q | q
  · rw [List.take_of_length_le q, List.take_of_length_le (by omega)]
  · have : n = min most Fs.length := by omega
    rcases Nat.le_total most Fs.length with r | r
    · rw [this, Nat.min_eq_left r]
    · rw [this, Nat.min_eq_right r, List.take_length, List.take_of_length_le r]
end Go.Proofs.YtajmdgcnnipdoaaGreatDoor

/- Pc: how many cells a mask has; plain. -/
namespace Go.Proofs.YtajmdgcnnipdoaaGreatDoor
open Go.RowKit

def pc (m : Nat) : Nat := (List.range 36).countP fun i => m.testBit i
theorem countP_two (p q r : Nat → Bool) (h : ∀ i, p i = (q i || r i) ∧ (q i && r i) = false) : ∀ l : List Nat, l.countP p = l.countP q + l.countP r
  | [] => rfl
  | a :: l => by
    rw [List.countP_cons, List.countP_cons, List.countP_cons, countP_two p q r h l, (h a).1]
    have := (h a).2
    cases hq : q a <;> cases hr : r a <;> simp_all <;> omega
theorem pc_zero : pc 0 = 0 := by decide
theorem pc_bit {b : Nat} (hb : b < 36) : pc (2 ^ b) = 1 := by
  have h : ∀ b, b < 36 → pc (2 ^ b) = 1 := by decide
  exact h b hb
theorem pc_add {m b : Nat} (h : m.testBit b = false) (hb : b < 36) : pc (m + 2 ^ b) = pc m + 1 := by
  rw [← or_two_pow h, ← pc_bit hb]
  unfold pc
  refine countP_two _ _ _ (fun i => ⟨Nat.testBit_or _ _ _, ?_⟩) _
  rw [Nat.testBit_two_pow]
  by_cases e : b = i
  · subst e; rw [h]; rfl
  · rw [decide_eq_false e, Bool.and_false]
theorem pc_sub {a u : Nat} (h : u &&& a = u) : pc a = pc (a - u) + pc u := by
  unfold pc
  refine countP_two _ _ _ (fun i => ?_) _
  have hi : (u &&& a).testBit i = u.testBit i := by rw [h]
  rw [Nat.testBit_and] at hi
  rw [sub_bits h]
  cases hu : u.testBit i <;> cases ha : a.testBit i <;> simp_all
end Go.Proofs.YtajmdgcnnipdoaaGreatDoor

/- OriLen: the orientations of a shape have as many cells as it has; plain. -/
namespace Go.Proofs.YtajmdgcnnipdoaaGreatDoor
open Go.RowKit

theorem asc_nodup {α : Type} {lt : α → α → Bool} (O : Whole lt) {l : List α} (h : AscG lt l) : l.Nodup := h.imp fun {x y} hxy e => by subst e; rw [O.irr] at hxy; cases hxy
theorem putAllG_nodup {xs : List Cl} (h : xs.Nodup) : (putAllG ltC xs).length = xs.length := by
  have hp : (putAllG ltC xs).Perm xs := (List.perm_ext_iff_of_nodup (asc_nodup wholeC (asc_putAllG wholeC xs)) h).2 fun x => mem_putAllG wholeC xs x
  exact hp.length_eq
theorem carry_inj {m : Nat} (hm : m < 8) {c d : Cl} (h : carryC m c = carryC m d) : c = d := by
  obtain ⟨sx, sy, h1, h2, h3⟩ := carry_coords m hm
  cases c; cases d
  rcases h3 with h3 | h3
  · rw [h3, h3] at h
    injection h with e1 e2
    rcases h1 with rfl | rfl <;> rcases h2 with rfl | rfl <;> simp at e1 e2 <;> simp [e1, e2]
  · rw [h3, h3] at h
    injection h with e1 e2
    rcases h1 with rfl | rfl <;> rcases h2 with rfl | rfl <;> simp at e1 e2 <;> simp [e1, e2]
theorem turnL_nodup {l : List Cl} (h : l.Nodup) {m : Nat} (hm : m < 8) : (turnL l m).Nodup := by
  unfold turnL
  refine List.pairwise_map.2 (h.imp fun {a b} hab e => hab (carry_inj hm e))
theorem tcorn_len {l : List Cl} (h : Shape l) {m : Nat} (hm : m < 8) : (tcorn l m).length = l.length := by
  unfold tcorn
  rw [cornL_length, putAllG_nodup (turnL_nodup (asc_nodup wholeC h.1.1) hm), turnL_length]
theorem orientL_len {l x : List Cl} (h : x ∈ orientL l) : x.length = l.length := by
  unfold orientL at h
  split at h
  · rename_i hs
    obtain ⟨m, hm, rfl⟩ := mem_orientTo h
    exact tcorn_len hs hm
  · simp at h
end Go.Proofs.YtajmdgcnnipdoaaGreatDoor

/- PopC: how many bits a mask has; a placement has as many as its shape has cells; a tiling's masks come to the region; plain. -/
namespace Go.Proofs.YtajmdgcnnipdoaaGreatDoor
open Go.RowKit

theorem mocS_pc {B : Nat} {xs : List Int} (hr : Reg (B : Int) xs) : ∀ (s : List Cl) (m0 m : Nat), mocS B xs s m0 = some m → pc m = pc m0 + s.length
  | [], m0, m, h => by
    rw [mocS] at h
    cases h
    rfl
  | c :: r, m0, m, h => by
    rw [mocS] at h
    cases hin : inR B xs c.x.toNat c.y.toNat with
    | false => rw [hin] at h; simp at h
    | true =>
      cases htb : m0.testBit (pbit B c) with
      | true => rw [hin, htb] at h; simp at h
      | false =>
        rw [hin, htb] at h
        simp only [Bool.not_false, Bool.and_true, cond_true] at h
        rw [mocS_pc hr r _ m h, pc_add htb (inR_bit hr hin).1, List.length_cons]
        omega
theorem plOne_pc {B : Nat} {xs : List Int} (hr : Reg (B : Int) xs) (t : List Cl) (y x : Nat) : ∀ v ∈ plOne B xs t y x, pc v.toNat = t.length := by
  intro v hv
  unfold plOne at hv
  split at hv
  · rename_i m hm
    rw [List.mem_singleton] at hv
    subst hv
    have := mocS_pc hr _ _ _ hm
    rw [pc_zero, List.length_map] at this
    rw [Int.toNat_natCast]
    omega
  · simp at hv
theorem plRow_pc {B : Nat} {xs : List Int} (hr : Reg (B : Int) xs) (t : List Cl) (y : Nat) : ∀ x, ∀ v ∈ plRow B xs t y x, pc v.toNat = t.length
  | 0 => fun v hv => by simp [plRow] at hv
  | x + 1 => fun v hv => by
    unfold plRow at hv
    rcases List.mem_append.1 hv with hv | hv
    · exact plRow_pc hr t y x v hv
    · exact plOne_pc hr t y x v hv
theorem plGrid_pc {B : Nat} {xs : List Int} (hr : Reg (B : Int) xs) (t : List Cl) : ∀ y, ∀ v ∈ plGrid B xs t y, pc v.toNat = t.length
  | 0 => fun v hv => by simp [plGrid] at hv
  | y + 1 => fun v hv => by
    unfold plGrid at hv
    rcases List.mem_append.1 hv with hv | hv
    · exact plGrid_pc hr t y v hv
    · exact plRow_pc hr t y B v hv
theorem plTo_pc {B n : Nat} {xs : List Int} (hr : Reg (B : Int) xs) {rows : List (List Cl)} (ht : ∀ t ∈ rows, t.length = n) : ∀ i, i ≤ rows.length → ∀ v ∈ plTo B xs rows i, pc v.toNat = n
  | 0 => fun _ v hv => by simp [plTo] at hv
  | i + 1 => fun hi v hv => by
    unfold plTo at hv
    rcases List.mem_append.1 hv with hv | hv
    · exact plTo_pc hr ht i (by omega) v hv
    · have hlt : i < rows.length := by omega
      have e : rows.getD i default = rows[i] := by simp [List.getD_eq_getElem?_getD, hlt]
      rw [e] at hv
      rw [plGrid_pc hr _ _ v hv]
      exact ht _ (List.getElem_mem _)
theorem placL_pc {B : Nat} {xs : List Int} (hr : Reg (B : Int) xs) (s : List Cl) : ∀ v ∈ placL B xs s, pc v.toNat = s.length := fun v hv => by
  unfold placL at hv
  exact plTo_pc hr (fun t ht => orientL_len ht) _ (Nat.le_refl _) v ((mem_putAllG wholeI _ v).1 hv)
theorem allTo_pc {B : Nat} {xs : List Int} (hr : Reg (B : Int) xs) (ps : List (List Cl)) : ∀ i, i ≤ ps.length → ∀ v ∈ allTo B xs ps i, ∃ s ∈ ps, pc v.toNat = s.length
  | 0 => fun _ v hv => by simp [allTo] at hv
  | i + 1 => fun hi v hv => by
    unfold allTo at hv
    rcases List.mem_append.1 hv with hv | hv
    · exact allTo_pc hr ps i (by omega) v hv
    · have hlt : i < ps.length := by omega
      have e : ps.getD i default = ps[i] := by simp [List.getD_eq_getElem?_getD, hlt]
      rw [e] at hv
      exact ⟨ps[i], List.getElem_mem _, placL_pc hr _ v hv⟩
theorem allL_pc {B : Nat} {xs : List Int} (hr : Reg (B : Int) xs) (ps : List (List Cl)) : ∀ v ∈ allL B xs ps, ∃ s ∈ ps, pc v.toNat = s.length := fun v hv => by
  unfold allL at hv
  exact allTo_pc hr ps _ (Nat.le_refl _) v ((mem_putAllG wholeI _ v).1 hv)
/-- The masks of valid pieces are not empty. -/
theorem allL_mk {B : Nat} {xs : List Int} (hr : Reg (B : Int) xs) {ps : List (List Cl)} (hp : Pcs ps) : ∀ v ∈ allL B xs ps, Mk v := fun v hv => by
  obtain ⟨s, hs, h⟩ := allL_pc hr ps v hv
  have h2 := allL_small hr ps v hv
  have h3 := (hp.1 s hs).2.1
  obtain ⟨h4, h5⟩ := h2
  refine ⟨?_, h5⟩
  rcases Int.lt_or_eq_of_le h4 with q | q
  · exact q
  · rw [← q, Int.toNat_zero, pc_zero] at h
    omega
/-- The region comes to so many masks as a tiling has, each of so many cells. -/
theorem srchF_pc {A : List Int} {n : Nat} (h : ∀ v ∈ A, pc v.toNat = n) : ∀ (f free : Nat), ∀ l ∈ srchF A f free, pc free = n * l.length := by
  intro f
  induction f with
  | zero =>
    intro free l hl
    unfold srchF at hl
    split at hl
    · rename_i h0
      have : l = [] := by simpa using hl
      subst this; subst h0
      rw [pc_zero]; rfl
    · simp at hl
  | succ f ih =>
    intro free l hl
    by_cases h0 : free = 0
    · subst h0
      rw [srchF_zero] at hl
      have : l = [] := by simpa using hl
      subst this
      rw [pc_zero]; rfl
    · rw [srchF_pos A f h0, goS_flat _ _ _ _ (Nat.le_refl _), List.take_length, List.mem_flatMap] at hl
      obtain ⟨v, hv, hl⟩ := hl
      by_cases hfit : fitsB free v = true
      · rw [if_pos hfit, List.mem_map] at hl
        obtain ⟨t, ht, rfl⟩ := hl
        unfold fitsB at hfit
        rw [Bool.and_eq_true, decide_eq_true_eq] at hfit
        rw [pc_sub hfit.2, ih _ t ht, h v hv, List.length_cons, Nat.mul_add, Nat.mul_one]
      · rw [if_neg hfit] at hl
        simp at hl
end Go.Proofs.YtajmdgcnnipdoaaGreatDoor

/- RegF: the tilings of a region, in the order of the search; plain. -/
namespace Go.Proofs.YtajmdgcnnipdoaaGreatDoor
open Go.RowKit

/-- A result of a search: a list of masks of the call's own, and whether there is one. -/
def FoundAt (w : World) (Fs : List (List Int)) (e : Ending) (w' : World) : Prop :=
  ∃ ad' cap', e = .returned (.tuple #[.slice ad' (firstT Fs).length cap', .bool (someT Fs)]) ∧ w'.ownsRow w.heap.size 3 1 (.slice ad' (firstT Fs).length cap') (firstT Fs).length (ints (firstT Fs)) ∧ Below w.heap.size w w'
def regF (b : Int) (xs : List Int) (ps : List (List Cl)) : List (List Int) := if Reg b xs ∧ Pcs ps then srchF (allL b.toNat xs ps) (regMask b xs) (regMask b xs) else []
theorem regF_yes {B : Nat} {xs : List Int} {ps : List (List Cl)} (hr : Reg (B : Int) xs) (hp : Pcs ps) : regF B xs ps = srchF (allL B xs ps) (regMask B xs) (regMask B xs) := by
  unfold regF
  rw [if_pos ⟨hr, hp⟩, Int.toNat_natCast]
theorem regF_no {b : Int} {xs : List Int} {ps : List (List Cl)} (h : ¬ (Reg b xs ∧ Pcs ps)) : regF b xs ps = [] := if_neg h
theorem regF_len (b : Int) (xs : List Int) (ps : List (List Cl)) : ∀ l ∈ regF b xs ps, l.length ≤ 36 := by
  intro l hl
  by_cases h : Reg b xs ∧ Pcs ps
  · obtain ⟨hr, hp⟩ := h
    obtain ⟨B, rfl⟩ := Int.eq_ofNat_of_zero_le (by have := hr.1.1; omega : 0 ≤ b)
    rw [regF_yes hr hp] at hl
    exact srchF_len36 (allL_mk hr hp) (by have := regMask_lt hr; omega) l hl
  · rw [regF_no h] at hl
    simp at hl
end Go.Proofs.YtajmdgcnnipdoaaGreatDoor

/- TorAll0: the masks of all pieces on a torus; plain. -/
namespace Go.Proofs.YtajmdgcnnipdoaaGreatDoor
open Go.RowKit

def torP (W H : Nat) (s : List Cl) : List Int := putAllG ltI (torTo W H (orientL s) (orientL s).length)
def torAllTo (W H : Nat) (ps : List (List Cl)) : Nat → List Int
  | 0 => []
  | i + 1 => torAllTo W H ps i ++ torP W H (ps.getD i default)
def torAll (W H : Nat) (ps : List (List Cl)) : List Int := putAllG ltI (torAllTo W H ps ps.length)
theorem torP_length {W H : Nat} (h : W * H ≤ 25) (s : List Cl) : (torP W H s).length ≤ 200 := by
  have h1 := putAllG_length (lt := ltI) (torTo W H (orientL s) (orientL s).length)
  have h2 := torTo_length W H h (orientL s) (orientL s).length
  have h3 := orientL_length s
  unfold torP
  omega
theorem torAllTo_length {W H : Nat} (h : W * H ≤ 25) (ps : List (List Cl)) : ∀ i, (torAllTo W H ps i).length ≤ i * 200
  | 0 => Nat.le_refl _
  | i + 1 => by
    have h1 := torAllTo_length h ps i
    have h2 := torP_length h (ps.getD i default)
    unfold torAllTo
    rw [List.length_append]
    omega
theorem torAll_length {W H : Nat} (h : W * H ≤ 25) {ps : List (List Cl)} (hp : ps.length ≤ 5) : (torAll W H ps).length ≤ 1000 := by
  have h1 := putAllG_length (lt := ltI) (torAllTo W H ps ps.length)
  have h2 := torAllTo_length h ps ps.length
  unfold torAll
  omega
theorem torS_pos (W H a : Nat) {t : List Cl} (ht : 1 ≤ t.length) : 0 < (torS W H a t).1 := by
  have h : ∀ (P : List Cl) (s : Nat × Bool), 0 < s.1 → 0 < (P.foldl (torStep W H a) s).1 := by
    intro P
    induction P with
    | nil => intro s h; exact h
    | cons c P ih =>
      intro s h
      rw [List.foldl_cons]
      refine ih _ ?_
      unfold torStep
      exact Nat.lt_of_lt_of_le h Nat.left_le_or
  cases t with
  | nil => simp at ht
  | cons c P =>
    unfold torS
    rw [List.foldl_cons]
    refine h P _ ?_
    unfold torStep
    exact Nat.lt_of_lt_of_le (Nat.two_pow_pos _) Nat.right_le_or
/-- A mask of cells on a torus: not empty, within the torus. -/
def TMk (n : Nat) (v : Int) : Prop := 0 < v ∧ v < ((2 ^ n : Nat) : Int)
theorem torOne_mk {W H : Nat} (hW : 0 < W) (hH : 0 < H) {t : List Cl} (ht : 1 ≤ t.length) (a : Nat) : ∀ v ∈ torOne W H t a, TMk (W * H) v := by
  intro v hv
  unfold torOne at hv
  split at hv
  · rw [List.mem_singleton] at hv
    subst hv
    have h1 := torS_pos W H a ht
    have h2 := torS_lt (a := a) hW hH t
    refine ⟨by omega, ?_⟩
    exact_mod_cast h2
  · simp at hv
theorem torRow_mk {W H : Nat} (hW : 0 < W) (hH : 0 < H) {t : List Cl} (ht : 1 ≤ t.length) : ∀ a, ∀ v ∈ torRow W H t a, TMk (W * H) v
  | 0 => fun v hv => by simp [torRow] at hv
  | a + 1 => fun v hv => by
    unfold torRow at hv
    rcases List.mem_append.1 hv with hv | hv
    · exact torRow_mk hW hH ht a v hv
    · exact torOne_mk hW hH ht a v hv
theorem torTo_mk {W H : Nat} (hW : 0 < W) (hH : 0 < H) {rows : List (List Cl)} (hr : ∀ t ∈ rows, 1 ≤ t.length) : ∀ i, i ≤ rows.length → ∀ v ∈ torTo W H rows i, TMk (W * H) v
  | 0 => fun _ v hv => by simp [torTo] at hv
  | i + 1 => fun hi v hv => by
    unfold torTo at hv
    rcases List.mem_append.1 hv with hv | hv
    · exact torTo_mk hW hH hr i (by omega) v hv
    · rw [getDG (by omega)] at hv
      exact torRow_mk hW hH (hr _ (List.getElem_mem _)) _ v hv
theorem torP_mk {W H : Nat} (hW : 0 < W) (hH : 0 < H) (s : List Cl) : ∀ v ∈ torP W H s, TMk (W * H) v := fun v hv => by
  unfold torP at hv
  exact torTo_mk hW hH (fun t ht => (orientL_shape ht).2.1) _ (Nat.le_refl _) v ((mem_putAllG wholeI _ v).1 hv)
theorem torAllTo_mk {W H : Nat} (hW : 0 < W) (hH : 0 < H) (ps : List (List Cl)) : ∀ i, ∀ v ∈ torAllTo W H ps i, TMk (W * H) v
  | 0 => fun v hv => by simp [torAllTo] at hv
  | i + 1 => fun v hv => by
    unfold torAllTo at hv
    rcases List.mem_append.1 hv with hv | hv
    · exact torAllTo_mk hW hH ps i v hv
    · exact torP_mk hW hH _ v hv
theorem torAll_mk {W H : Nat} (hW : 0 < W) (hH : 0 < H) (ps : List (List Cl)) : ∀ v ∈ torAll W H ps, TMk (W * H) v := fun v hv => by
  unfold torAll at hv
  exact torAllTo_mk hW hH ps _ v ((mem_putAllG wholeI _ v).1 hv)
theorem TMk.mk {n : Nat} (hn : n ≤ 25) {v : Int} (h : TMk n v) : Mk v := by
  have h2 : 2 ^ n ≤ 2 ^ 25 := Nat.pow_le_pow_right (by decide) hn
  obtain ⟨h0, h1⟩ := h
  unfold Mk
  omega
end Go.Proofs.YtajmdgcnnipdoaaGreatDoor

/- TorN: the number of a torus' cells, its full mask, and the tilings of a torus, in the order of the search; plain. -/
namespace Go.Proofs.YtajmdgcnnipdoaaGreatDoor
open Go.RowKit

theorem tor_all {W H : Nat} (hW : 1 ≤ W ∧ W ≤ 5) (hH : 1 ≤ H ∧ H ≤ 5) : ∃ n pn n1 : Nat, n = W * H ∧ n ≤ 25 ∧ pn = 2 ^ n ∧ pn ≤ 33554432 ∧ n1 = 2 ^ (W * H) - 1 ∧ n1 + 1 = pn ∧ (W : Int) * (H : Int) = (n : Int) ∧ wrap64 (2 ^ n) = (pn : Int) ∧ (pn : Int) - 1 = (n1 : Int) := by
  have h25 : W * H ≤ 25 := Nat.mul_le_mul hW.2 hH.2
  have hp : 2 ^ (W * H) ≤ 2 ^ 25 := Nat.pow_le_pow_right (by decide) h25
  have hp0 : 0 < 2 ^ (W * H) := Nat.two_pow_pos _
  refine ⟨W * H, 2 ^ (W * H), 2 ^ (W * H) - 1, rfl, h25, rfl, hp, rfl, by omega, by norm_cast, ?_, by omega⟩
  have h1 : ((2 : Int) ^ (W * H)) = ((2 ^ (W * H) : Nat) : Int) := by norm_cast
  rw [h1]
  exact wrap_nat (by omega)
theorem tor_all2 {W H : Nat} (hW : 1 ≤ W ∧ W ≤ 5) (hH : 1 ≤ H ∧ H ≤ 5) : ∃ n pn n1 : Nat, (n1 = 2 ^ (W * H) - 1 ∧ n ≤ 25 ∧ pn ≤ 33554432 ∧ n1 + 1 = pn) ∧ (W : Int) * (H : Int) = (n : Int) ∧ wrap64 (2 ^ n) = (pn : Int) ∧ (pn : Int) - 1 = (n1 : Int) ∧
    IntKind.i64.wrap (n : Int) = (n : Int) ∧ IntKind.i64.wrap (2 ^ n) = (pn : Int) ∧ IntKind.i64.wrap (n1 : Int) = (n1 : Int) ∧ (n : Int) < 64 := by
  obtain ⟨n, pn, n1, _, hn25, _, hpn, hn1, hn1p, t1, t2, t3⟩ := tor_all hW hH
  exact ⟨n, pn, n1, ⟨hn1, hn25, hpn, hn1p⟩, t1, t2, t3, IntWalk.i64_in _ (by omega), by rw [IntWalk.i64_left]; exact t2, IntWalk.i64_in _ (by omega), by omega⟩
/-- A valid torus and valid pieces. -/
def TorOk (x y : Int) (ps : List (List Cl)) : Prop := (1 ≤ x ∧ x ≤ 5 ∧ 1 ≤ y ∧ y ≤ 5) ∧ Pcs ps
instance (x y : Int) (ps : List (List Cl)) : Decidable (TorOk x y ps) := by unfold TorOk; infer_instance
/-- The tilings of a torus. -/
def torF (x y : Int) (ps : List (List Cl)) : List (List Int) := if TorOk x y ps then srchF (torAll x.toNat y.toNat ps) (2 ^ (x.toNat * y.toNat) - 1) (2 ^ (x.toNat * y.toNat) - 1) else []
theorem torF_yes {W H : Nat} {ps : List (List Cl)} (hW : 1 ≤ W ∧ W ≤ 5) (hH : 1 ≤ H ∧ H ≤ 5) (hp : Pcs ps) : torF W H ps = srchF (torAll W H ps) (2 ^ (W * H) - 1) (2 ^ (W * H) - 1) := by
  unfold torF
  rw [if_pos ⟨⟨by omega, by omega, by omega, by omega⟩, hp⟩, Int.toNat_natCast, Int.toNat_natCast]
theorem torF_no {x y : Int} {ps : List (List Cl)} (h : ¬ TorOk x y ps) : torF x y ps = [] := if_neg h
theorem torF_len (x y : Int) (ps : List (List Cl)) : ∀ l ∈ torF x y ps, l.length ≤ 36 := by
  intro l hl
  unfold torF at hl
  split at hl
  · rename_i h
    obtain ⟨⟨h1, h2, h3, h4⟩, hp⟩ := h
    have h25 : x.toNat * y.toNat ≤ 5 * 5 := Nat.mul_le_mul (by omega) (by omega)
    have hq : 2 ^ (x.toNat * y.toNat) ≤ 2 ^ 25 := Nat.pow_le_pow_right (by decide) h25
    exact srchF_len36 (fun v hv => (torAll_mk (by omega) (by omega) ps v hv).mk (by omega)) (Nat.lt_of_le_of_lt (Nat.sub_le _ _) (Nat.lt_of_le_of_lt hq (by decide))) l hl
  · simp at hl
/-- How many, at most 2000; -1 where something is not valid. -/
def ctR (x y : Int) (ps : List (List Cl)) : Int := if TorOk x y ps then ((min 2000 (torF x y ps).length : Nat) : Int) else -1
end Go.Proofs.YtajmdgcnnipdoaaGreatDoor
