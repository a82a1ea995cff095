/- AllShift: parts laid together: Shift0, Places. -/
import Derived.Test.YtcoggnoeafpgbaaAllBase

/- Shift0: plain facts on moving the set bits of a mask on a torus. -/
namespace Go.Proofs.Ytcoggnoeafpgbaa

def smPos (a b x y i : Nat) : Nat := (i / a + y) % b * a + (i % a + x) % a
def smBits (n m : Nat) : List Nat := (List.range n).filter fun i => m.testBit i
def smSum (a b x y : Nat) (l : List Nat) : Nat := l.foldl (fun s i => s + 2 ^ smPos a b x y i) 0
def smOr (a b x y : Nat) (l : List Nat) : Nat := l.foldl (fun s i => s ||| 2 ^ smPos a b x y i) 0

theorem smBits_succ (n m : Nat) : smBits (n + 1) m = smBits n m ++ if m.testBit n then [n] else [] := by
  unfold smBits
  rw [List.range_succ, List.filter_append]
  congr 1
  simp only [List.filter_cons, List.filter_nil]
theorem smBits_of_zero (n m k : Nat) (hk : n ≤ k) (h : m / 2 ^ n = 0) : smBits k m = smBits n m := by
  induction k with
  | zero => obtain rfl : n = 0 := by omega
            rfl
  | succ k ih =>
    by_cases e : n = k + 1
    · rw [e]
    · rw [smBits_succ, ih (by omega)]
      have hb : m.testBit k = false := by
        apply Nat.testBit_lt_two_pow
        have h1 : m < 2 ^ n := by
          rcases Nat.lt_or_ge m (2 ^ n) with h1 | h1
          · exact h1
          · have := Nat.div_pos h1 (Nat.two_pow_pos n); omega
        exact Nat.lt_of_lt_of_le h1 (Nat.pow_le_pow_right (by decide) (by omega))
      simp [hb]
theorem smBits_lt {n m i : Nat} (h : i ∈ smBits n m) : i < n := by
  unfold smBits at h
  exact List.mem_range.1 (List.mem_filter.1 h).1
theorem smBits_nodup (n m : Nat) : (smBits n m).Nodup := by
  unfold smBits
  exact List.Nodup.sublist List.filter_sublist List.nodup_range

theorem mod_once {n b : Nat} (h : n < 2 * b) : n % b = if n < b then n else n - b := by
  split
  · exact Nat.mod_eq_of_lt ‹_›
  · rw [Nat.mod_eq_sub_mod (by omega), Nat.mod_eq_of_lt (by omega)]
theorem mod_add_inj {u v y b : Nat} (hu : u < b) (hv : v < b) (hy : y < b) (h : (u + y) % b = (v + y) % b) : u = v := by
  rw [mod_once (by omega), mod_once (by omega)] at h
  split at h <;> split at h <;> omega
theorem smPos_inj {a b x y i j : Nat} (ha : 0 < a) (hx : x < a) (hy : y < b) (hi : i < a * b) (hj : j < a * b) (h : smPos a b x y i = smPos a b x y j) : i = j := by
  unfold smPos at h
  have h1 : (i % a + x) % a = (j % a + x) % a := by
    have := congrArg (· % a) h
    simpa [Nat.mul_add_mod, Nat.mul_comm] using this
  have h2 : (i / a + y) % b = (j / a + y) % b := by
    have := congrArg (· / a) h
    simp only [Nat.mul_comm _ a, Nat.mul_add_div ha] at this
    rw [Nat.div_eq_of_lt (Nat.mod_lt _ ha), Nat.div_eq_of_lt (Nat.mod_lt _ ha)] at this
    exact this
  have e1 := mod_add_inj (Nat.mod_lt i ha) (Nat.mod_lt j ha) hx h1
  have e2 := mod_add_inj (Nat.div_lt_of_lt_mul hi) (Nat.div_lt_of_lt_mul hj) hy h2
  rw [← Nat.div_add_mod i a, ← Nat.div_add_mod j a, e1, e2]
theorem smPos_lt {a b x y i : Nat} (ha : 0 < a) (hb : 0 < b) : smPos a b x y i < a * b := by
  unfold smPos
  have h1 := Nat.mod_lt (i % a + x) ha
  have h2 : (i / a + y) % b + 1 ≤ b := Nat.mod_lt (i / a + y) hb
  have h3 := Nat.mul_le_mul_left a h2
  rw [Nat.mul_add, Nat.mul_one, Nat.mul_comm] at h3
  omega

theorem fold_or_add (f : Nat → Nat) : ∀ (l : List Nat) (s : Nat), l.Pairwise (fun i j => f i ≠ f j) → (∀ i ∈ l, s.testBit (f i) = false) →
    l.foldl (fun s i => s ||| 2 ^ f i) s = l.foldl (fun s i => s + 2 ^ f i) s := by
  intro l
  induction l with
  | nil => intro s _ _; rfl
  | cons i l ih =>
    intro s hp hs
    obtain ⟨h1, h2⟩ := List.pairwise_cons.1 hp
    have e := or_two_pow (hs i (by simp))
    simp only [List.foldl_cons]
    rw [ih _ h2, e]
    intro j hj
    rw [Nat.testBit_or, hs j (by simp [hj]), Nat.testBit_two_pow]
    simp [h1 j hj]
theorem smOr_eq {a b x y n m : Nat} (ha : 0 < a) (hx : x < a) (hy : y < b) (hn : n ≤ a * b) : smOr a b x y (smBits n m) = smSum a b x y (smBits n m) := by
  unfold smOr smSum
  apply fold_or_add
  · have hnd : (smBits n m).Pairwise (· ≠ ·) := smBits_nodup n m
    refine List.Pairwise.imp_of_mem ?_ hnd
    intro i j hi hj hne he
    exact hne (smPos_inj ha hx hy (Nat.lt_of_lt_of_le (smBits_lt hi) hn) (Nat.lt_of_lt_of_le (smBits_lt hj) hn) he)
  · intro i _; simp
theorem smSum_le {a b x y : Nat} (ha : 0 < a) (hb : 0 < b) (hab : a * b ≤ 25) (l : List Nat) : smSum a b x y l ≤ l.length * 16777216 := by
  unfold smSum
  have key : ∀ (l : List Nat) (s : Nat), l.foldl (fun s i => s + 2 ^ smPos a b x y i) s ≤ s + l.length * 16777216 := by
    intro l
    induction l with
    | nil => intro s; simp
    | cons i l ih =>
      intro s
      have h1 := ih (s + 2 ^ smPos a b x y i)
      have h2 : smPos a b x y i ≤ 24 := by have := smPos_lt (x := x) (y := y) (i := i) ha hb; omega
      have h3 : 2 ^ smPos a b x y i ≤ 2 ^ 24 := Nat.pow_le_pow_right (by decide) h2
      simp only [List.foldl_cons, List.length_cons]
      omega
  have := key l 0
  omega
theorem smBits_length_le (n m : Nat) : (smBits n m).length ≤ n := by
  unfold smBits
  have := List.length_filter_le (fun i => m.testBit i) (List.range n)
  simpa using this
theorem smSum_snoc (a b x y : Nat) (l : List Nat) (i : Nat) : smSum a b x y (l ++ [i]) = smSum a b x y l + 2 ^ smPos a b x y i := by
  simp [smSum]
theorem smOr_snoc (a b x y : Nat) (l : List Nat) (i : Nat) : smOr a b x y (l ++ [i]) = smOr a b x y l ||| 2 ^ smPos a b x y i := by
  simp [smOr]

end Go.Proofs.Ytcoggnoeafpgbaa

/- Places: the walk of the program's 'places': the cells of a mask's set bits. -/
namespace Go.Proofs.Ytcoggnoeafpgbaa
open Go.RowKit

def placeCells (a : Nat) (l : List Nat) : List Value := l.flatMap fun i => [.int .i64 ((i % a : Nat) : Int), .int .i64 ((i / a : Nat) : Int)]
theorem placeCells_length (a : Nat) (l : List Nat) : (placeCells a l).length = l.length * 2 := by
  unfold placeCells
  induction l with
  | nil => rfl
  | cons i l ih => simp only [List.flatMap_cons, List.length_append, ih, List.length_cons, List.length_nil]; omega
theorem placeCells_snoc (a : Nat) (l : List Nat) (i : Nat) : placeCells a (l ++ [i]) = placeCells a l ++ [.int .i64 ((i % a : Nat) : Int), .int .i64 ((i / a : Nat) : Int)] := by
  simp [placeCells]

theorem Try.infoCell : (Try.prog.info? 39).map (fun i => (i.zero, i.size, i.bytes)) = some (some (.agg #[.int .i64 0, .int .i64 0]), 2, 16) := by kernel_rfl
theorem Try.elemCell : ElemT Try.prog 36 39 (.agg #[.int .i64 0, .int .i64 0]) 2 16 :=
  ⟨Try.underlying36, info_parts Try.infoCell, rfl, by decide⟩

set_option maxHeartbeats 400000 in
theorem places_any (a m n : Nat) (w : World) (ha : 1 ≤ a ∧ a ≤ 1000) (hm : m < 2 ^ n) (hn : n ≤ 60) :
    Calls Try.prog 25 #[.int .i64 a, .int .i64 m] w fun e w' => ∃ v, e = .returned v ∧ w'.ownsRow w.heap.size 39 2 v (smBits n m).length (placeCells a (smBits n m)) ∧ Below w.heap.size w w' := by
  obtain ⟨ha1, ha2⟩ := ha
  have hm' : m < 1152921504606846976 := Nat.lt_of_lt_of_le hm (Nat.pow_le_pow_right (by decide) hn)
  have HM := Lib.hid hm
  clear hm
  go_enter Try.func25, Try.ntmps25
  go_wp2
  go_loopw [5, 6] (fun v i wr => ∃ k : Nat, k ≤ n ∧ i = .int .i64 k ∧ wr.ownsRow w.heap.size 39 2 v (smBits k m).length (placeCells a (smBits k m)) ∧ Below w.heap.size w wr) (fun _ i _ => n - (intOf i).toNat)
  case atStart => exact ⟨0, by omega, rfl, World.ownsRow_nil _ _ _ _, Below.refl _ _⟩
  case round =>
    obtain ⟨k, hk, rfl, hown, hb⟩ := hrel
    have HSB := Lib.hid (smBits_succ k m)
    have hlen := smBits_length_le k m
    by_cases hz : m / 2 ^ k = 0
    · have hz1 : ((m : Int) / 2 ^ k != 0) = false := by
        have e : ((m : Int) / 2 ^ k) = ((m / 2 ^ k : Nat) : Int) := by norm_cast
        rw [e, hz]; rfl
      have HZ := Lib.hid hz
      clear hz
      go_wp2
      go_ret
      have he : smBits n m = smBits k m := smBits_of_zero k m n hk HZ.out
      rw [he]
      exact ⟨_, rfl, hown, hb⟩
    · have hlt : k < n := by
        rcases Nat.lt_or_ge k n with h | h
        · exact h
        · exact absurd (Nat.div_eq_of_lt (Nat.lt_of_lt_of_le HM.out (Nat.pow_le_pow_right (by decide) h))) hz
      have hz1 : ((m : Int) / 2 ^ k != 0) = true := by
        have e : ((m : Int) / 2 ^ k) = ((m / 2 ^ k : Nat) : Int) := by norm_cast
        rw [e]; simp; omega
      have HZ := Lib.hid hz
      clear hz
      by_cases hbit : m.testBit k = true
      · have hb1 : bits .and .i64 ((m : Int) / 2 ^ k) 1 = 1 := by rw [and_shr_one m k (by omega), if_pos hbit]
        have a0 : ¬ a = 0 := by omega
        have d0 : 0 ≤ (k : Int) / (a : Int) := Int.ediv_nonneg (by omega) (by omega)
        have d1 : (k : Int) / (a : Int) ≤ 60 := Int.le_trans (Int.ediv_le_self _ (by omega)) (by omega)
        have r0 : 0 ≤ (k : Int) % (a : Int) := Int.emod_nonneg _ (by omega)
        have r1 : (k : Int) % (a : Int) < (a : Int) := Int.emod_lt_of_pos _ (by omega)
        go_wp2
        have t1 : IntKind.i64.wrap ((k : Int) / (a : Int)) = (k : Int) / (a : Int) := IntWalk.i64_in _ (by omega)
        have t2 : (k : Int).tmod (a : Int) = (k : Int) % (a : Int) := Int.tmod_eq_emod_of_nonneg (by omega)
        have hcl := placeCells_length a (smBits k m)
        go_region_law (refine step_app1 rfl (.tmp 18) (.tmp 26) 36 rfl w.heap.size 39 _ 2 16 Try.elemCell _ _ _ _ _ _ rfl rfl rfl hown (by rfl) (by simp [Value.oneCell']) (by unfold maxLen; omega) (by omega) (by have := hb.size; omega) ?_; intro g cap w1 q1 q2 q3 q4 q5 q6)
        go_wp2
        go_roundw
        case rel =>
          refine ⟨k + 1, by omega, by go_num, ?_, hb.trans (q2.mono (Nat.le_refl _))⟩
          rw [HSB.out, if_pos hbit, placeCells_snoc]
          simpa using q1
        case measure => simp [intOf]; omega
      · have hb1 : bits .and .i64 ((m : Int) / 2 ^ k) 1 = 0 := by rw [and_shr_one m k (by omega), if_neg hbit]
        go_wp2
        go_roundw
        case rel => exact ⟨k + 1, by omega, by go_num, by rw [HSB.out, if_neg hbit, List.append_nil]; exact hown, hb⟩
        case measure => simp [intOf]; omega
theorem places_view (a m n : Nat) (w : World) (ha : 1 ≤ a ∧ a ≤ 1000) (hm : m < 2 ^ n) (hn : n ≤ 60) :
    Calls Try.prog 25 #[.int .i64 a, .int .i64 m] w fun e w' => ∃ ad cap, e = .returned (.slice ad (smBits n m).length cap) ∧ Below w.heap.size w w' ∧
      (0 < (smBits n m).length → ∃ g, ad = some ⟨g, 0, none⟩ ∧ w.heap.size ≤ g ∧ g < w'.heap.size ∧ ∀ j u, (placeCells a (smBits n m))[j]? = some u → w'.cell? ⟨g, j, none⟩ = some u) := by
  refine (places_any a m n w ha hm hn).mono ?_
  rintro e w' ⟨v, rfl, hown, hb⟩
  obtain ⟨ad, cap, rfl, h⟩ := ownsRow_view hown
  exact ⟨ad, cap, rfl, hb, h⟩

end Go.Proofs.Ytcoggnoeafpgbaa
