/- Block0: the masks of pieces are numbers below 2 ^ 36; what blocks; plain. -/
import Derived.Test.YtmpcmeeoiapbdaaGreatDoorAllReg
import Derived.Test.YtmpcmeeoiapbdaaGreatDoorShapes
import Derived.Test.YtmpcmeeoiapbdaaGreatDoorPieces
namespace Go.Proofs.YtmpcmeeoiapbdaaGreatDoor
open Go.RowKit

def Small (v : Int) : Prop := 0 ≤ v ∧ v < 68719476736
theorem mocS_lt {B : Nat} {xs : List Int} (hr : Reg (B : Int) xs) : ∀ (s : List Cl) (m0 m : Nat), mocS B xs s m0 = some m → m0 < 68719476736 → m < 68719476736
  | [], m0, m, h, h0 => by
    rw [mocS] at h
    cases h
    exact h0
  | c :: r, m0, m, h, h0 => by
    rw [mocS] at h
    cases hin : inR B xs c.x.toNat c.y.toNat with
    | false => rw [hin] at h; simp at h
    | true =>
      cases htb : m0.testBit (pbit B c) with
      | true => rw [hin, htb] at h; simp at h
      | false =>
        rw [hin, htb] at h
        simp only [Bool.not_false, Bool.and_true, cond_true] at h
        refine mocS_lt hr r _ m h ?_
        have hb := (inR_bit hr hin).1
        rw [← or_two_pow htb]
        exact Nat.lt_of_lt_of_le (Nat.or_lt_two_pow (n := 36) (Nat.lt_of_lt_of_le h0 (by decide)) (Nat.pow_lt_pow_right (by decide) hb)) (by decide)
theorem plOne_small {B : Nat} {xs : List Int} (hr : Reg (B : Int) xs) (t : List Cl) (y x : Nat) : ∀ v ∈ plOne B xs t y x, Small v := by
  intro v hv
  unfold plOne at hv
  split at hv
  · rename_i m hm
    rw [List.mem_singleton] at hv
    subst hv
    have := mocS_lt hr _ _ _ hm (by decide)
    unfold Small
    omega
  · simp at hv
theorem plRow_small {B : Nat} {xs : List Int} (hr : Reg (B : Int) xs) (t : List Cl) (y : Nat) : ∀ x, ∀ v ∈ plRow B xs t y x, Small v
  | 0 => fun v hv => by simp [plRow] at hv
  | x + 1 => fun v hv => by
    unfold plRow at hv
    rcases List.mem_append.1 hv with hv | hv
    · exact plRow_small hr t y x v hv
    · exact plOne_small hr t y x v hv
theorem plGrid_small {B : Nat} {xs : List Int} (hr : Reg (B : Int) xs) (t : List Cl) : ∀ y, ∀ v ∈ plGrid B xs t y, Small v
  | 0 => fun v hv => by simp [plGrid] at hv
  | y + 1 => fun v hv => by
    unfold plGrid at hv
    rcases List.mem_append.1 hv with hv | hv
    · exact plGrid_small hr t y v hv
    · exact plRow_small hr t y B v hv
theorem plTo_small {B : Nat} {xs : List Int} (hr : Reg (B : Int) xs) (rows : List (List Cl)) : ∀ i, ∀ v ∈ plTo B xs rows i, Small v
  | 0 => fun v hv => by simp [plTo] at hv
  | i + 1 => fun v hv => by
    unfold plTo at hv
    rcases List.mem_append.1 hv with hv | hv
    · exact plTo_small hr rows i v hv
    · exact plGrid_small hr _ _ v hv
theorem allTo_small {B : Nat} {xs : List Int} (hr : Reg (B : Int) xs) (ps : List (List Cl)) : ∀ i, ∀ v ∈ allTo B xs ps i, Small v
  | 0 => fun v hv => by simp [allTo] at hv
  | i + 1 => fun v hv => by
    unfold allTo at hv
    rcases List.mem_append.1 hv with hv | hv
    · exact allTo_small hr ps i v hv
    · unfold placL at hv
      exact plTo_small hr _ _ v ((mem_putAllG wholeI _ v).1 hv)
theorem allL_small {B : Nat} {xs : List Int} (hr : Reg (B : Int) xs) (ps : List (List Cl)) : ∀ v ∈ allL B xs ps, Small v := fun v hv => by
  unfold allL at hv
  exact allTo_small hr ps _ v ((mem_putAllG wholeI _ v).1 hv)
theorem allL_length {B : Nat} {xs : List Int} (hr : Reg (B : Int) xs) {ps : List (List Cl)} (hp : Pcs ps) : (allL B xs ps).length ≤ 1500 := by
  have h1 := putAllG_length (lt := ltI) (allTo B xs ps ps.length)
  have h2 := allTo_length hr ps ps.length
  have h3 := hp.2.2
  unfold allL
  omega
/-- Whether a mask meets each of some masks. -/
def blocksL (l : List Int) (m : Nat) : Bool := decide (∀ v ∈ l, v.toNat &&& m ≠ 0)
def isMk (b : Int) (xs : List Int) (v : Int) : Bool := decide (0 ≤ v) && decide (v.toNat &&& regMask b xs = v.toNat)
def blkR (b : Int) (xs : List Int) (ps : List (List Cl)) (v : Int) : Bool := decide (Reg b xs) && (decide (Pcs ps) && (isMk b xs v && blocksL (allL b.toNat xs ps) v.toNat))
end Go.Proofs.YtmpcmeeoiapbdaaGreatDoor
