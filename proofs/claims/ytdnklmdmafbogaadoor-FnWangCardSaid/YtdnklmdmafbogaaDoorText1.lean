/- Text1: the text of tiles, by the reference and by the program; plain part. -/
import Derived.Test.YtdnklmdmafbogaaDoorText0
import Derived.Test.YtdnklmdmafbogaaDoorAreWang
import Derived.Lib.Join
namespace Go.Proofs.YtdnklmdmafbogaaDoor
open Go.RowKit

def tileTo (s : ByteArray) (x : Tile) : ByteArray := (((s ++ numB x.t.toNat) ++ numB x.r.toNat) ++ numB x.b.toNat) ++ numB x.l.toNat
def tileB (x : Tile) : ByteArray := ((numB x.t.toNat ++ numB x.r.toNat) ++ numB x.b.toNat) ++ numB x.l.toNat
def fmtTo (ts : List Tile) : Nat → ByteArray
  | 0 => ⟨#[]⟩
  | k + 1 => tileTo (if 0 < k then fmtTo ts k ++ ⟨#[32]⟩ else fmtTo ts k) (ts.getD k ⟨0, 0, 0, 0⟩)
/-- The text of tiles. -/
def fmtW (ts : List Tile) : ByteArray := if Wangs ts then fmtTo ts ts.length else ⟨#[]⟩
def strs (xs : List ByteArray) : List Value := xs.map Value.string
theorem ba_list (a b : ByteArray) : (a ++ b).data.toList = a.data.toList ++ b.data.toList := by
  rw [ByteArray.data_append, Array.toList_append]
theorem tileTo_list (s : ByteArray) (x : Tile) : (tileTo s x).data.toList = s.data.toList ++ (tileB x).data.toList := by
  unfold tileTo tileB
  simp only [ba_list, List.append_assoc]
theorem fmtTo_zero (ts : List Tile) : fmtTo ts 0 = ⟨#[]⟩ := rfl
theorem fmtTo_succ {ts : List Tile} {k : Nat} (h : k < ts.length) : fmtTo ts (k + 1) = tileTo (if 0 < k then fmtTo ts k ++ ⟨#[32]⟩ else fmtTo ts k) ts[k] := by
  rw [fmtTo, List.getD_eq_getElem?_getD, List.getElem?_eq_getElem h]
  rfl
theorem join_snoc (x : List UInt8) (xs : List (List UInt8)) (y sep : List UInt8) : Lib.join ((x :: xs) ++ [y]) sep = Lib.join (x :: xs) sep ++ sep ++ y := by
  rw [List.cons_append, Lib.join_cons, Lib.join_cons]
  unfold Lib.joinTail
  rw [List.map_append, List.flatten_append]
  simp
theorem fmtTo_join (ts : List Tile) : ∀ k, k ≤ ts.length → (fmtTo ts k).data.toList = Lib.join ((ts.take k).map fun x => (tileB x).data.toList) [32]
  | 0, _ => by
    rw [List.take_zero]
    rfl
  | k + 1, h => by
    have ih := fmtTo_join ts k (by omega)
    rw [fmtTo_succ (by omega), tileTo_list, List.take_succ_eq_append_getElem (by omega), List.map_append, List.map_singleton]
    by_cases hk : 0 < k
    · rw [if_pos hk, ba_list, ih]
      obtain ⟨x, xs, hx⟩ : ∃ x xs, ts.take k = x :: xs := by
        cases hq : ts.take k with
        | nil =>
          have := congrArg List.length hq
          rw [List.length_take, List.length_nil] at this
          omega
        | cons x xs => exact ⟨x, xs, rfl⟩
      rw [hx, List.map_cons, join_snoc]
    · obtain rfl : k = 0 := by omega
      rw [if_neg (by omega)]
      simp [Lib.join_one, fmtTo_zero]
theorem numB_size {n : Nat} (h : n < 10) : (numB n).data.toList.length = 1 := by
  rw [numB_small h]
  rfl
theorem fmtTo_length {ts : List Tile} (h : ∀ x ∈ ts, TileFine x) : ∀ k, k ≤ ts.length → (fmtTo ts k).data.toList.length ≤ 5 * k
  | 0, _ => by rw [fmtTo_zero]; exact Nat.le_refl _
  | k + 1, hk => by
    have ih := fmtTo_length h k (by omega)
    obtain ⟨h1, h2, h3, h4⟩ := h ts[k] (List.getElem_mem _)
    unfold Col at h1 h2 h3 h4
    rw [fmtTo_succ (by omega), tileTo_list, List.length_append]
    have e : (tileB ts[k]).data.toList.length = 4 := by
      unfold tileB
      rw [ba_list, ba_list, ba_list, List.length_append, List.length_append, List.length_append, numB_size (by omega), numB_size (by omega), numB_size (by omega), numB_size (by omega)]
    rw [e]
    by_cases hq : 0 < k
    · rw [if_pos hq, ba_list, List.length_append]
      show _ + 1 + 4 ≤ _
      omega
    · rw [if_neg hq]
      omega
theorem numB_sz {n : Nat} (h : n < 10) : (numB n).size = 1 := by
  rw [numB_small h]
  rfl
theorem fmtTo_sz {ts : List Tile} (h : ∀ x ∈ ts, TileFine x) (h6 : ts.length ≤ 6) {k : Nat} (hk : k ≤ ts.length) : (fmtTo ts k).size ≤ 30 := by
  have q := fmtTo_length h k hk
  have e : (fmtTo ts k).size = (fmtTo ts k).data.toList.length := rfl
  omega
theorem ba_eq (r : ByteArray) : (r == r) = true := by
  obtain ⟨d⟩ := r
  exact beq_self_eq_true d
theorem ba_ne (r : ByteArray) : (r != r) = false := by
  simp [bne, ba_eq r]
theorem ba_neq {a b : ByteArray} (h : a ≠ b) : (a != b) = true := by
  have q : (a == b) = false := by
    obtain ⟨x⟩ := a
    obtain ⟨y⟩ := b
    show (x == y) = false
    exact beq_false_of_ne (fun e => h (by rw [e]))
  simp [bne, q]
theorem ba_of_list {a b : ByteArray} (h : a.data.toList = b.data.toList) : a = b := by
  apply ByteArray.ext
  exact Array.toList_inj.1 h
theorem ownsRow_capS {w : World} {base e size n cap : Nat} {ad : Option Addr} {xs : List Value} (h : w.ownsRow base e size (.slice ad n cap) n xs) : n ≤ cap := by
  rcases h.2 with ⟨h1, h2⟩ | ⟨g, c', cur, h1, _, _, h2, _⟩
  · cases h1; omega
  · cases h1; exact h2
theorem strs_length (xs : List ByteArray) : (strs xs).length = xs.length := by simp [strs]
theorem strs_append (xs ys : List ByteArray) : strs (xs ++ ys) = strs xs ++ strs ys := by simp [strs]
theorem strs_at {xs : List ByteArray} {j : Nat} {x : ByteArray} (h : xs[j]? = some x) : (strs xs)[j]? = some (.string x) := by simp [strs, h]
theorem Tryd.infoStr : (Tryd.prog.info? 9).map (fun i => (i.zero, i.size, i.bytes)) = some (some (.string ⟨#[]⟩), 1, 16) := by kernel_rfl
theorem Tryd.elemStr : ElemT Tryd.prog 67 9 (.string ⟨#[]⟩) 1 16 := ⟨Tryd.underlying67, info_parts Tryd.infoStr, rfl, by decide⟩
end Go.Proofs.YtdnklmdmafbogaaDoor
