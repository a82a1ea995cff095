/- AllShift: parts laid together: Shift0, Places. -/
import Derived.Test.YtcoggnoeafpgbaaGreatAllBase

/- Shift0: plain facts on moving the set bits of a mask on a torus. -/
namespace Go.Proofs.YtcoggnoeafpgbaaGreat

def smPos (a b x y i : Nat) : Nat := (i / a + y) % b * a + (i % a + x) % a
def smBits (n m : Nat) : List Nat := (List.range n).filter fun i => m.testBit i
def smSum (a b x y : Nat) (l : List Nat) : Nat := l.foldl (fun s i => s + 2 ^ smPos a b x y i) 0
def smOr (a b x y : Nat) (l : List Nat) : Nat := l.foldl (fun s i => s ||| 2 ^ smPos a b x y i) 0

theorem smBits_succ (n m : Nat) : smBits (n + 1) m = smBits n m ++ if m.testBit n then [n] else [] := by
  unfold smBits
  rw [List.range_succ, List.filter_append]
  congr 1
  simp only [List.filter_cons, List.filter_nil]
theorem smBits_of_zero (n m k : Nat) (hk : n ≤ k) (h : m / 2 ^ n = 0) : smBits k m = smBits n m := by
  induction k with
  | zero => obtain rfl : n = 0 := by omega
            rfl
  | succ k ih =>
    by_cases e : n = k + 1
    · rw [e]
    · rw [smBits_succ, ih (by omega)]
      have hb : m.testBit k = false := by
        apply Nat.testBit_lt_two_pow
        have h1 : m < 2 ^ n := by
          rcases Nat.lt_or_ge m (2 ^ n) with h1 | h1
          · exact h1
          · have := Nat.div_pos h1 (Nat.two_pow_pos n); omega
        exact Nat.lt_of_lt_of_le h1 (Nat.pow_le_pow_right (by decide) (by omega))
      simp [hb]
theorem smBits_lt {n m i : Nat} (h : i ∈ smBits n m) : i < n := by
  unfold smBits at h
  exact List.mem_range.1 (List.mem_filter.1 h).1
theorem smBits_nodup (n m : Nat) : (smBits n m).Nodup := by
  unfold smBits
  exact List.Nodup.sublist List.filter_sublist List.nodup_range

theorem mod_once {n b : Nat} (h : n < 2 * b) : n % b = if n < b then n else n - b := by
  split
  · exact Nat.mod_eq_of_lt ‹_›
  · rw [Nat.mod_eq_sub_mod (by omega), Nat.mod_eq_of_lt (by omega)]
theorem mod_add_inj {u v y b : Nat} (hu : u < b) (hv : v < b) (hy : y < b) (h : (u + y) % b = (v + y) % b) : u = v := by
  rw [mod_once (by omega), mod_once (by omega)] at h
  split at h <;> split at h <;> omega
theorem smPos_inj {a b x y i j : Nat} (ha : 0 < a) (hx : x < a) (hy : y < b) (hi : i < a * b) (hj : j < a * b) (h : smPos a b x y i = smPos a b x y j) : i = j := by
  unfold smPos at h
  have h1 : (i % a + x) % a = (j % a + x) % a := by
    have := congrArg (· % a) h
    simpa [Nat.mul_add_mod, Nat.mul_comm] using this
  have h2 : (i / a + y) % b = (j / a + y) % b := by
    have := congrArg (· / a) h
    simp only [Nat.mul_comm _ a, Nat.mul_add_div ha] at this
    rw [Nat.div_eq_of_lt (Nat.mod_lt _ ha), Nat.div_eq_of_lt (Nat.mod_lt _ ha)] at this
    exact this
  have e1 := mod_add_inj (Nat.mod_lt i ha) (Nat.mod_lt j ha) hx h1
  have e2 := mod_add_inj (Nat.div_lt_of_lt_mul hi) (Nat.div_lt_of_lt_mul hj) hy h2
  rw [← Nat.div_add_mod i a, ← Nat.div_add_mod j a, e1, e2]
theorem smPos_lt {a b x y i : Nat} (ha : 0 < a) (hb : 0 < b) : smPos a b x y i < a * b := by
  unfold smPos
  have h1 := Nat.mod_lt (i % a + x) ha
  have h2 : (i / a + y) % b + 1 ≤ b := Nat.mod_lt (i / a + y) hb
  have h3 := Nat.mul_le_mul_left a h2
  rw [Nat.mul_add, Nat.mul_one, Nat.mul_comm] at h3
  omega

theorem fold_or_add (f : Nat → Nat) : ∀ (l : List Nat) (s : Nat), l.Pairwise (fun i j => f i ≠ f j) → (∀ i ∈ l, s.testBit (f i) = false) →
    l.foldl (fun s i => s ||| 2 ^ f i) s = l.foldl (fun s i => s + 2 ^ f i) s := by
  intro l
  induction l with
  | nil => intro s _ _; rfl
  | cons i l ih =>
    intro s hp hs
    obtain ⟨h1, h2⟩ := List.pairwise_cons.1 hp
    have e := or_two_pow (hs i (by simp))
    simp only [List.foldl_cons]
    rw [ih _ h2, e]
    intro j hj
    rw [Nat.testBit_or, hs j (by simp [hj]), Nat.testBit_two_pow]
    simp [h1 j hj]
theorem smOr_eq {a b x y n m : Nat} (ha : 0 < a) (hx : x < a) (hy : y < b) (hn : n ≤ a * b) : smOr a b x y (smBits n m) = smSum a b x y (smBits n m) := by
  unfold smOr smSum
  apply fold_or_add
  · have hnd : (smBits n m).Pairwise (· ≠ ·) := smBits_nodup n m
    refine List.Pairwise.imp_of_mem ?_ hnd
    intro i j hi hj hne he
    exact hne (smPos_inj ha hx hy (Nat.lt_of_lt_of_le (smBits_lt hi) hn) (Nat.lt_of_lt_of_le (smBits_lt hj) hn) he)
  · intro i _; simp
theorem smSum_le {a b x y : Nat} (ha : 0 < a) (hb : 0 < b) (hab : a * b ≤ 25) (l : List Nat) : smSum a b x y l ≤ l.length * 16777216 := by
  unfold smSum
  have key : ∀ (l : List Nat) (s : Nat), l.foldl (fun s i => s + 2 ^ smPos a b x y i) s ≤ s + l.length * 16777216 := by
    intro l
    induction l with
    | nil => intro s; simp
    | cons i l ih =>
      intro s
      have h1 := ih (s + 2 ^ smPos a b x y i)
      have h2 : smPos a b x y i ≤ 24 := by have := smPos_lt (x := x) (y := y) (i := i) ha hb; omega
      have h3 : 2 ^ smPos a b x y i ≤ 2 ^ 24 := Nat.pow_le_pow_right (by decide) h2
      simp only [List.foldl_cons, List.length_cons]
      omega
  have := key l 0
  omega
theorem smBits_length_le (n m : Nat) : (smBits n m).length ≤ n := by
  unfold smBits
  have := List.length_filter_le (fun i => m.testBit i) (List.range n)
  simpa using this
theorem smSum_snoc (a b x y : Nat) (l : List Nat) (i : Nat) : smSum a b x y (l ++ [i]) = smSum a b x y l + 2 ^ smPos a b x y i := by
  simp [smSum]
theorem smOr_snoc (a b x y : Nat) (l : List Nat) (i : Nat) : smOr a b x y (l ++ [i]) = smOr a b x y l ||| 2 ^ smPos a b x y i := by
  simp [smOr]

end Go.Proofs.YtcoggnoeafpgbaaGreat
