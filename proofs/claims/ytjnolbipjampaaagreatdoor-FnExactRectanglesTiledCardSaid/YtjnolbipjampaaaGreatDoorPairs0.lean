/- Pairs0: lists of pairs of sides, by rows; how they lie in memory, pair by pair. -/
import Derived.Test.YtjnolbipjampaaaGreatDoorLeast0
import Derived.Test.YtjnolbipjampaaaGreatDoorIntRows
import Derived.Test.YtjnolbipjampaaaGreatDoorAllSS
namespace Go.Proofs.YtjnolbipjampaaaGreatDoor
open Go.RowKit

/-- The pairs of one width, up to some height. -/
def rtRow (ok : Nat → Nat → Bool) (w0 w : Nat) : Nat → List (Nat × Nat)
  | 0 => []
  | h + 1 => rtRow ok w0 w h ++ (if w0 ≤ h + 1 ∧ ok w (h + 1) = true then [(w, h + 1)] else [])
/-- The pairs of the first widths; first heights by f. -/
def rtTo (ok : Nat → Nat → Bool) (f : Nat → Nat) : Nat → List (Nat × Nat)
  | 0 => []
  | w + 1 => rtTo ok f w ++ rtRow ok (f (w + 1)) (w + 1) 5
theorem rtRow_start {ok : Nat → Nat → Bool} {w0 w : Nat} : ∀ {h : Nat}, h < w0 → rtRow ok w0 w h = []
  | 0, _ => rfl
  | h + 1, hh => by rw [rtRow, rtRow_start (by omega), if_neg (by omega)]; rfl
theorem rtRow_yes {ok : Nat → Nat → Bool} {w0 w h : Nat} (h0 : w0 ≤ h + 1) (h1 : ok w (h + 1) = true) : rtRow ok w0 w (h + 1) = rtRow ok w0 w h ++ [(w, h + 1)] := by rw [rtRow, if_pos ⟨h0, h1⟩]
theorem rtRow_no {ok : Nat → Nat → Bool} {w0 w h : Nat} (h1 : ok w (h + 1) = false) : rtRow ok w0 w (h + 1) = rtRow ok w0 w h := by rw [rtRow, if_neg (by rw [h1]; simp), List.append_nil]
theorem rtRow_length (ok : Nat → Nat → Bool) (w0 w : Nat) : ∀ h, (rtRow ok w0 w h).length ≤ h
  | 0 => Nat.le_refl _
  | h + 1 => by
    have := rtRow_length ok w0 w h
    rw [rtRow, List.length_append]
    split
    · simp; omega
    · simp; omega
theorem rtTo_length (ok : Nat → Nat → Bool) (f : Nat → Nat) : ∀ w, (rtTo ok f w).length ≤ w * 5
  | 0 => Nat.le_refl _
  | w + 1 => by
    have h1 := rtTo_length ok f w
    have h2 := rtRow_length ok (f (w + 1)) (w + 1) 5
    rw [rtTo, List.length_append]
    omega
theorem rtRow_mem {ok : Nat → Nat → Bool} {w0 w : Nat} {p : Nat × Nat} : ∀ {h : Nat}, p ∈ rtRow ok w0 w h ↔ p.1 = w ∧ w0 ≤ p.2 ∧ 1 ≤ p.2 ∧ p.2 ≤ h ∧ ok p.1 p.2 = true
  | 0 => by simp [rtRow]; omega
  | h + 1 => by
    rw [rtRow, List.mem_append, rtRow_mem]
    constructor
    · rintro (⟨h1, h2, h3, h4, h5⟩ | q)
      · exact ⟨h1, h2, h3, by omega, h5⟩
      · split at q
        · rename_i hc
          rw [List.mem_singleton] at q
          subst q
          exact ⟨rfl, hc.1, by show 1 ≤ h + 1; omega, Nat.le_refl _, hc.2⟩
        · simp at q
    · rintro ⟨h1, h2, h3, h4, h5⟩
      by_cases e : p.2 = h + 1
      · right
        have hp : p = (w, h + 1) := Prod.ext h1 e
        subst hp
        rw [if_pos ⟨h2, h5⟩]
        simp
      · left
        exact ⟨h1, h2, h3, by omega, h5⟩
theorem rtTo_mem {ok : Nat → Nat → Bool} {f : Nat → Nat} {p : Nat × Nat} : ∀ {w : Nat}, p ∈ rtTo ok f w ↔ 1 ≤ p.1 ∧ p.1 ≤ w ∧ f p.1 ≤ p.2 ∧ 1 ≤ p.2 ∧ p.2 ≤ 5 ∧ ok p.1 p.2 = true
  | 0 => by simp [rtTo]; omega
  | w + 1 => by
    rw [rtTo, List.mem_append, rtTo_mem, rtRow_mem]
    constructor
    · rintro (⟨h1, h2, h3, h4, h5, h6⟩ | ⟨h1, h2, h3, h4, h5⟩)
      · exact ⟨h1, by omega, h3, h4, h5, h6⟩
      · exact ⟨by omega, by omega, by rw [h1]; exact h2, h3, h4, h5⟩
    · rintro ⟨h1, h2, h3, h4, h5, h6⟩
      by_cases e : p.1 = w + 1
      · right
        exact ⟨e, by rw [← e]; exact h3, h4, h5, h6⟩
      · left
        exact ⟨h1, by omega, h3, h4, h5, h6⟩
theorem rtRow_sorted (ok : Nat → Nat → Bool) (w0 w : Nat) : ∀ h, (rtRow ok w0 w h).Pairwise (fun p q => p.1 ≤ q.1)
  | 0 => List.Pairwise.nil
  | h + 1 => by
    rw [rtRow]
    refine List.pairwise_append.2 ⟨rtRow_sorted ok w0 w h, ?_, fun a ha b hb => ?_⟩
    · split
      · exact List.pairwise_singleton _ _
      · exact List.Pairwise.nil
    · have h1 := (rtRow_mem.1 ha).1
      split at hb
      · rw [List.mem_singleton.1 hb, h1]; exact Nat.le_refl _
      · simp at hb
theorem rtTo_sorted (ok : Nat → Nat → Bool) (f : Nat → Nat) : ∀ w, (rtTo ok f w).Pairwise (fun p q => p.1 ≤ q.1)
  | 0 => List.Pairwise.nil
  | w + 1 => by
    rw [rtTo]
    refine List.pairwise_append.2 ⟨rtTo_sorted ok f w, rtRow_sorted ok _ _ 5, fun a ha b hb => ?_⟩
    have h1 := (rtTo_mem.1 ha).2.1
    have h2 := (rtRow_mem.1 hb).1
    omega
theorem rtTo_none {ok : Nat → Nat → Bool} {f : Nat → Nat} (h : ∀ a b, ok a b = false) (n : Nat) : rtTo ok f n = [] := by
  cases hr : rtTo ok f n with
  | nil => rfl
  | cons p ps =>
    have hp : p ∈ rtTo ok f n := by rw [hr]; simp
    have := (rtTo_mem.1 hp).2.2.2.2.2
    rw [h] at this
    cases this
def rowP (p : Nat × Nat) : List Int := [(p.1 : Int), (p.2 : Int)]
def rowsP (ps : List (Nat × Nat)) : List (List Int) := ps.map rowP
theorem rowsP_length (ps : List (Nat × Nat)) : (rowsP ps).length = ps.length := by simp [rowsP]
theorem rowsP_snoc (ps : List (Nat × Nat)) (p : Nat × Nat) : rowsP (ps ++ [p]) = rowsP ps ++ [[(p.1 : Int), (p.2 : Int)]] := by simp [rowsP, rowP]
theorem rowsP_at (ps : List (Nat × Nat)) (k : Nat) (hk : k < ps.length) : (rowsP ps)[k]'(by rw [rowsP_length]; exact hk) = [(ps[k].1 : Int), (ps[k].2 : Int)] := by simp [rowsP, rowP]
/-- A slice of two elements that the statement has built. -/
theorem two_built {w W : World} {e : Nat} {x y : Value} (h : W.heap = w.heap.push (.cells #[x, y] e (0, 0))) : W.ownsRow w.heap.size e 1 (.slice (some ⟨w.heap.size, 0, none⟩) 2 2) 2 [x, y] := by
  refine ⟨by simp, .inr ⟨w.heap.size, 2, #[x, y], rfl, Nat.le_refl _, ?_, Nat.le_refl _, by decide, by simp, by simp⟩⟩
  rw [h]; simp
/-- One pair more. -/
theorem pair_push {w w2 : World} {base : Nat} {ps : List (Nat × Nat)} {a b n : Nat} {v : Value} {vals : List Value} {g cap : Nat} (hn : n = ps.length) (hrows : RowsIn w base vals (rowsP ps)) (hbase : base ≤ w.heap.size)
    (hown : (w.alloc (.cells #[.int .i64 (a : Int), .int .i64 (b : Int)] 3)).ownsRow base 35 1 v n vals)
    (q1 : w2.ownsRow base 35 1 (.slice (some ⟨g, 0, none⟩) (n + 1) cap) (n + 1) (vals ++ [.slice (some ⟨w.heap.size, 0, none⟩) 2 2])) (q3 : (w.alloc (.cells #[.int .i64 (a : Int), .int .i64 (b : Int)] 3)).grownBy w2 v.ownBlock) :
    OwnMat w2 base (.slice (some ⟨g, 0, none⟩) (n + 1) cap) (rowsP (ps ++ [(a, b)])) := by
  have hb1 : Below w.heap.size w (w.alloc (.cells #[.int .i64 (a : Int), .int .i64 (b : Int)] 3)) := (Below.refl _ _).alloc (Nat.le_refl _) _
  have hro : (w.alloc (.cells #[.int .i64 (a : Int), .int .i64 (b : Int)] 3)).ownsRow w.heap.size 3 1 (.slice (some ⟨w.heap.size, 0, none⟩) [(a : Int), (b : Int)].length 2) [(a : Int), (b : Int)].length (ints [(a : Int), (b : Int)]) := two_built rfl
  have h1 := RowsIn.snoc (xs := [(a : Int), (b : Int)]) (ai := some ⟨w.heap.size, 0, none⟩) (ci := 2) hrows hb1 hbase hro
  rw [rowsP_snoc]
  refine ⟨_, ?_, h1.grown hown (by decide) q3⟩
  rw [List.length_append, rowsP_length, ← hn]
  exact q1
end Go.Proofs.YtjnolbipjampaaaGreatDoor
