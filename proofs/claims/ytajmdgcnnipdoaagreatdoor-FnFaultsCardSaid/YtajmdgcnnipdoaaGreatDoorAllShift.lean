/- AllShift: parts laid together: Shift0, Places, Shift, Shift2, ShiftB. -/
import Derived.Test.YtajmdgcnnipdoaaGreatDoorAllBase

/- Shift0: plain facts on moving the set bits of a mask on a torus. -/
namespace Go.Proofs.YtajmdgcnnipdoaaGreatDoor

def smPos (a b x y i : Nat) : Nat := (i / a + y) % b * a + (i % a + x) % a
def smBits (n m : Nat) : List Nat := (List.range n).filter fun i => m.testBit i
def smSum (a b x y : Nat) (l : List Nat) : Nat := l.foldl (fun s i => s + 2 ^ smPos a b x y i) 0
def smOr (a b x y : Nat) (l : List Nat) : Nat := l.foldl (fun s i => s ||| 2 ^ smPos a b x y i) 0

theorem smBits_succ (n m : Nat) : smBits (n + 1) m = smBits n m ++ if m.testBit n then [n] else [] := by
  unfold smBits
  rw [List.range_succ, List.filter_append]
  congr 1
  simp only [List.filter_cons, List.filter_nil]
theorem smBits_of_zero (n m k : Nat) (hk : n ≤ k) (h : m / 2 ^ n = 0) : smBits k m = smBits n m := by
  induction k with
  | zero => obtain rfl : n = 0 := by omega
            rfl
  | succ k ih =>
    by_cases e : n = k + 1
    · rw [e]
    · rw [smBits_succ, ih (by omega)]
      have hb : m.testBit k = false := by
        apply Nat.testBit_lt_two_pow
        have h1 : m < 2 ^ n := by
          rcases Nat.lt_or_ge m (2 ^ n) with h1 | h1
          · exact h1
          · have := Nat.div_pos h1 (Nat.two_pow_pos n); omega
        exact Nat.lt_of_lt_of_le h1 (Nat.pow_le_pow_right (by decide) (by omega))
      simp [hb]
theorem smBits_lt {n m i : Nat} (h : i ∈ smBits n m) : i < n := by
  unfold smBits at h
  exact List.mem_range.1 (List.mem_filter.1 h).1
theorem smBits_nodup (n m : Nat) : (smBits n m).Nodup := by
  unfold smBits
  exact List.Nodup.sublist List.filter_sublist List.nodup_range

theorem mod_once {n b : Nat} (h : n < 2 * b) : n % b = if n < b then n else n - b := by
  split
  · exact Nat.mod_eq_of_lt ‹_›
  · rw [Nat.mod_eq_sub_mod (by omega), Nat.mod_eq_of_lt (by omega)]
theorem mod_add_inj {u v y b : Nat} (hu : u < b) (hv : v < b) (hy : y < b) (h : (u + y) % b = (v + y) % b) : u = v := by
  rw [mod_once (by omega), mod_once (by omega)] at h
  split at h <;> split at h <;> omega
theorem smPos_inj {a b x y i j : Nat} (ha : 0 < a) (hx : x < a) (hy : y < b) (hi : i < a * b) (hj : j < a * b) (h : smPos a b x y i = smPos a b x y j) : i = j := by
  unfold smPos at h
  have h1 : (i % a + x) % a = (j % a + x) % a := by
    have := congrArg (· % a) h
    simpa [Nat.mul_add_mod, Nat.mul_comm] using this
  have h2 : (i / a + y) % b = (j / a + y) % b := by
    have := congrArg (· / a) h
    simp only [Nat.mul_comm _ a, Nat.mul_add_div ha] at this
    rw [Nat.div_eq_of_lt (Nat.mod_lt _ ha), Nat.div_eq_of_lt (Nat.mod_lt _ ha)] at this
    exact this
  have e1 := mod_add_inj (Nat.mod_lt i ha) (Nat.mod_lt j ha) hx h1
  have e2 := mod_add_inj (Nat.div_lt_of_lt_mul hi) (Nat.div_lt_of_lt_mul hj) hy h2
  rw [← Nat.div_add_mod i a, ← Nat.div_add_mod j a, e1, e2]
theorem smPos_lt {a b x y i : Nat} (ha : 0 < a) (hb : 0 < b) : smPos a b x y i < a * b := by
  unfold smPos
  have h1 := Nat.mod_lt (i % a + x) ha
  have h2 : (i / a + y) % b + 1 ≤ b := Nat.mod_lt (i / a + y) hb
  have h3 := Nat.mul_le_mul_left a h2
  rw [Nat.mul_add, Nat.mul_one, Nat.mul_comm] at h3
  omega

theorem fold_or_add (f : Nat → Nat) : ∀ (l : List Nat) (s : Nat), l.Pairwise (fun i j => f i ≠ f j) → (∀ i ∈ l, s.testBit (f i) = false) →
    l.foldl (fun s i => s ||| 2 ^ f i) s = l.foldl (fun s i => s + 2 ^ f i) s := by
  intro l
  induction l with
  | nil => intro s _ _; rfl
  | cons i l ih =>
    intro s hp hs
    obtain ⟨h1, h2⟩ := List.pairwise_cons.1 hp
    have e := or_two_pow (hs i (by simp))
    simp only [List.foldl_cons]
    rw [ih _ h2, e]
    intro j hj
    rw [Nat.testBit_or, hs j (by simp [hj]), Nat.testBit_two_pow]
    simp [h1 j hj]
theorem smOr_eq {a b x y n m : Nat} (ha : 0 < a) (hx : x < a) (hy : y < b) (hn : n ≤ a * b) : smOr a b x y (smBits n m) = smSum a b x y (smBits n m) := by
  unfold smOr smSum
  apply fold_or_add
  · have hnd : (smBits n m).Pairwise (· ≠ ·) := smBits_nodup n m
    refine List.Pairwise.imp_of_mem ?_ hnd
    intro i j hi hj hne he
    exact hne (smPos_inj ha hx hy (Nat.lt_of_lt_of_le (smBits_lt hi) hn) (Nat.lt_of_lt_of_le (smBits_lt hj) hn) he)
  · intro i _; simp
theorem smSum_le {a b x y : Nat} (ha : 0 < a) (hb : 0 < b) (hab : a * b ≤ 25) (l : List Nat) : smSum a b x y l ≤ l.length * 16777216 := by
  unfold smSum
  have key : ∀ (l : List Nat) (s : Nat), l.foldl (fun s i => s + 2 ^ smPos a b x y i) s ≤ s + l.length * 16777216 := by
    intro l
    induction l with
    | nil => intro s; simp
    | cons i l ih =>
      intro s
      have h1 := ih (s + 2 ^ smPos a b x y i)
      have h2 : smPos a b x y i ≤ 24 := by have := smPos_lt (x := x) (y := y) (i := i) ha hb; omega
      have h3 : 2 ^ smPos a b x y i ≤ 2 ^ 24 := Nat.pow_le_pow_right (by decide) h2
      simp only [List.foldl_cons, List.length_cons]
      omega
  have := key l 0
  omega
theorem smBits_length_le (n m : Nat) : (smBits n m).length ≤ n := by
  unfold smBits
  have := List.length_filter_le (fun i => m.testBit i) (List.range n)
  simpa using this
theorem smSum_snoc (a b x y : Nat) (l : List Nat) (i : Nat) : smSum a b x y (l ++ [i]) = smSum a b x y l + 2 ^ smPos a b x y i := by
  simp [smSum]
theorem smOr_snoc (a b x y : Nat) (l : List Nat) (i : Nat) : smOr a b x y (l ++ [i]) = smOr a b x y l ||| 2 ^ smPos a b x y i := by
  simp [smOr]

end Go.Proofs.YtajmdgcnnipdoaaGreatDoor

/- Places: the walk of the program's 'places': the cells of a mask's set bits. -/
namespace Go.Proofs.YtajmdgcnnipdoaaGreatDoor
open Go.RowKit

def placeCells (a : Nat) (l : List Nat) : List Value := l.flatMap fun i => [.int .i64 ((i % a : Nat) : Int), .int .i64 ((i / a : Nat) : Int)]
theorem placeCells_length (a : Nat) (l : List Nat) : (placeCells a l).length = l.length * 2 := by
  unfold placeCells
  induction l with
  | nil => rfl
  | cons i l ih => simp only [List.flatMap_cons, List.length_append, ih, List.length_cons, List.length_nil]; omega
theorem placeCells_snoc (a : Nat) (l : List Nat) (i : Nat) : placeCells a (l ++ [i]) = placeCells a l ++ [.int .i64 ((i % a : Nat) : Int), .int .i64 ((i / a : Nat) : Int)] := by
  simp [placeCells]

theorem Tryz.infoCell : (Tryz.prog.info? 91).map (fun i => (i.zero, i.size, i.bytes)) = some (some (.agg #[.int .i64 0, .int .i64 0]), 2, 16) := by kernel_rfl
theorem Tryz.elemCell : ElemT Tryz.prog 40 91 (.agg #[.int .i64 0, .int .i64 0]) 2 16 :=
  ⟨Tryz.underlying40, info_parts Tryz.infoCell, rfl, by decide⟩

set_option maxHeartbeats 400000 in
theorem places_any (a m n : Nat) (w : World) (ha : 1 ≤ a ∧ a ≤ 1000) (hm : m < 2 ^ n) (hn : n ≤ 60) :
    Calls Tryz.prog 99 #[.int .i64 a, .int .i64 m] w fun e w' => ∃ v, e = .returned v ∧ w'.ownsRow w.heap.size 91 2 v (smBits n m).length (placeCells a (smBits n m)) ∧ Below w.heap.size w w' := by
  obtain ⟨ha1, ha2⟩ := ha
  have hm' : m < 1152921504606846976 := Nat.lt_of_lt_of_le hm (Nat.pow_le_pow_right (by decide) hn)
  have HM := Lib.hid hm
  clear hm
  go_enter Tryz.func99, Tryz.ntmps99
  go_wp2
  go_loopw [5, 6] (fun v i wr => ∃ k : Nat, k ≤ n ∧ i = .int .i64 k ∧ wr.ownsRow w.heap.size 91 2 v (smBits k m).length (placeCells a (smBits k m)) ∧ Below w.heap.size w wr) (fun _ i _ => n - (intOf i).toNat)
  case atStart => exact ⟨0, by omega, rfl, World.ownsRow_nil _ _ _ _, Below.refl _ _⟩
  case round =>
    obtain ⟨k, hk, rfl, hown, hb⟩ := hrel
    have HSB := Lib.hid (smBits_succ k m)
    have hlen := smBits_length_le k m
    by_cases hz : m / 2 ^ k = 0
    · have hz1 : ((m : Int) / 2 ^ k != 0) = false := by
        have e : ((m : Int) / 2 ^ k) = ((m / 2 ^ k : Nat) : Int) := by norm_cast
        rw [e, hz]; rfl
      have HZ := Lib.hid hz
      clear hz
      go_wp2
      go_ret
      have he : smBits n m = smBits k m := smBits_of_zero k m n hk HZ.out
      rw [he]
      exact ⟨_, rfl, hown, hb⟩
    · have hlt : k < n := by
        rcases Nat.lt_or_ge k n with h | h
        · exact h
        · exact absurd (Nat.div_eq_of_lt (Nat.lt_of_lt_of_le HM.out (Nat.pow_le_pow_right (by decide) h))) hz
      have hz1 : ((m : Int) / 2 ^ k != 0) = true := by
        have e : ((m : Int) / 2 ^ k) = ((m / 2 ^ k : Nat) : Int) := by norm_cast
        rw [e]; simp; omega
      have HZ := Lib.hid hz
      clear hz
      by_cases hbit : m.testBit k = true
      · have hb1 : bits .and .i64 ((m : Int) / 2 ^ k) 1 = 1 := by rw [and_shr_one m k (by omega), if_pos hbit]
        have a0 : ¬ a = 0 := by omega
        have d0 : 0 ≤ (k : Int) / (a : Int) := Int.ediv_nonneg (by omega) (by omega)
        have d1 : (k : Int) / (a : Int) ≤ 60 := Int.le_trans (Int.ediv_le_self _ (by omega)) (by omega)
        have r0 : 0 ≤ (k : Int) % (a : Int) := Int.emod_nonneg _ (by omega)
        have r1 : (k : Int) % (a : Int) < (a : Int) := Int.emod_lt_of_pos _ (by omega)
        go_wp2
        have t1 : IntKind.i64.wrap ((k : Int) / (a : Int)) = (k : Int) / (a : Int) := IntWalk.i64_in _ (by omega)
        have t2 : (k : Int).tmod (a : Int) = (k : Int) % (a : Int) := Int.tmod_eq_emod_of_nonneg (by omega)
        have hcl := placeCells_length a (smBits k m)
        go_region_law (refine step_app1 rfl (.tmp 18) (.tmp 26) 40 rfl w.heap.size 91 _ 2 16 Tryz.elemCell _ _ _ _ _ _ rfl rfl rfl hown (by rfl) (by simp [Value.oneCell']) (by unfold maxLen; omega) (by omega) (by have := hb.size; omega) ?_; intro g cap w1 q1 q2 q3 q4 q5 q6)
        go_wp2
        go_roundw
        case rel =>
          refine ⟨k + 1, by omega, by go_num, ?_, hb.trans (q2.mono (Nat.le_refl _))⟩
          rw [HSB.out, if_pos hbit, placeCells_snoc]
          simpa using q1
        case measure => simp [intOf]; omega
      · have hb1 : bits .and .i64 ((m : Int) / 2 ^ k) 1 = 0 := by rw [and_shr_one m k (by omega), if_neg hbit]
        go_wp2
        go_roundw
        case rel => exact ⟨k + 1, by omega, by go_num, by rw [HSB.out, if_neg hbit, List.append_nil]; exact hown, hb⟩
        case measure => simp [intOf]; omega
theorem places_view (a m n : Nat) (w : World) (ha : 1 ≤ a ∧ a ≤ 1000) (hm : m < 2 ^ n) (hn : n ≤ 60) :
    Calls Tryz.prog 99 #[.int .i64 a, .int .i64 m] w fun e w' => ∃ ad cap, e = .returned (.slice ad (smBits n m).length cap) ∧ Below w.heap.size w w' ∧
      (0 < (smBits n m).length → ∃ g, ad = some ⟨g, 0, none⟩ ∧ w.heap.size ≤ g ∧ g < w'.heap.size ∧ ∀ j u, (placeCells a (smBits n m))[j]? = some u → w'.cell? ⟨g, j, none⟩ = some u) := by
  refine (places_any a m n w ha hm hn).mono ?_
  rintro e w' ⟨v, rfl, hown, hb⟩
  obtain ⟨ad, cap, rfl, h⟩ := ownsRow_view hown
  exact ⟨ad, cap, rfl, hb, h⟩

end Go.Proofs.YtajmdgcnnipdoaaGreatDoor

/- Shift: the walks of ShiftMask, the reference's and the program's. -/
namespace Go.Proofs.YtajmdgcnnipdoaaGreatDoor
open Go.RowKit

theorem l16Fine_yes (a b : Int) (w : World) (ha1 : 1 ≤ a) (ha2 : a ≤ 5) (hb1 : 1 ≤ b) (hb2 : b ≤ 5) :
    Calls Tryz.prog 95 #[.int .i64 a, .int .i64 b] w fun e w' => e = .returned (.bool true) ∧ w = w' := by
  go_enter Tryz.func95, Tryz.ntmps95
  go_wp2_with (go_at_call 82; refine (l1In_yes _ _ _ _ (by omega) (by omega)).mono ?_; rintro e w' ⟨rfl, rfl⟩)
  all_goals go_ret
  all_goals exact ⟨rfl, rfl⟩
theorem l16Fine_no (a b : Int) (w : World) (h : ¬ (1 ≤ a ∧ a ≤ 5 ∧ 1 ≤ b ∧ b ≤ 5)) :
    Calls Tryz.prog 95 #[.int .i64 a, .int .i64 b] w fun e w' => e = .returned (.bool false) ∧ w = w' := by
  go_enter Tryz.func95, Tryz.ntmps95
  by_cases h1 : 1 ≤ a ∧ a ≤ 5
  · go_wp2_with (go_at_call 82; first | (refine (l1In_yes _ _ _ _ (by omega) (by omega)).mono ?_; rintro e w' ⟨rfl, rfl⟩) | (refine (l1In_no _ _ _ _ (by omega)).mono ?_; rintro e w' ⟨rfl, rfl⟩))
    all_goals go_ret
    all_goals exact ⟨rfl, rfl⟩
  · go_wp2_with (go_at_call 82; refine (l1In_no _ _ _ _ (by omega)).mono ?_; rintro e w' ⟨rfl, rfl⟩)
    all_goals go_ret
    all_goals exact ⟨rfl, rfl⟩

set_option maxHeartbeats 400000 in
theorem specShift (a b m x y p : Nat) (w : World) (ha : 1 ≤ a ∧ a ≤ 5) (hb : 1 ≤ b ∧ b ≤ 5) (hp : wrap64 (2 ^ (a * b)) = (p : Int)) (hp1 : p ≤ 33554432) (hm : m < p) (hx : x < a) (hy : y < b) :
    Calls Tryz.prog 59 #[.int .i64 a, .int .i64 b, .int .i64 m, .int .i64 x, .int .i64 y] w fun e w' => e = .returned (.int .i64 (smSum a b x y (smBits (a * b) m))) ∧ ∃ n, w' = w.drewN n := by
  obtain ⟨ha1, ha2⟩ := ha
  obtain ⟨hb1, hb2⟩ := hb
  have q0 : a * b ≤ 25 := Nat.mul_le_mul ha2 hb2
  have q1 : 0 ≤ (a : Int) * (b : Int) := by exact Int.mul_nonneg (by omega) (by omega)
  have q2 : (a : Int) * (b : Int) ≤ 25 := by exact_mod_cast q0
  go_enter Tryz.func59, Tryz.ntmps59
  go_wp2_with (first | (go_at_call 95; refine (l16Fine_yes _ _ _ (by omega) (by omega) (by omega) (by omega)).mono ?_; rintro e w' ⟨rfl, rfl⟩) | (go_at_call 82; refine (l1In_yes _ _ _ _ (by omega) (by omega)).mono ?_; rintro e w' ⟨rfl, rfl⟩))
  go_loopw [11, 12] (fun s i wr => ∃ k : Nat, k ≤ a * b ∧ i = .int .i64 k ∧ s = .int .i64 (smSum a b x y (smBits k m)) ∧ ∃ n, wr = w.drewN n) (fun _ i _ => a * b - (intOf i).toNat)
  case atStart => exact ⟨0, by omega, rfl, rfl, 0, rfl⟩
  case round =>
    obtain ⟨k, hk, rfl, rfl, n, rfl⟩ := hrel
    have q3 : (k : Int) ≤ (a : Int) * (b : Int) := by exact_mod_cast hk
    have hsb := smBits_succ k m
    have HSB := Lib.hid hsb
    clear hsb
    have hle := smSum_le (a := a) (b := b) (x := x) (y := y) (by omega) (by omega) q0 (smBits k m)
    have hlen := smBits_length_le k m
    by_cases hlt : k < a * b
    · have q4 : (k : Int) < (a : Int) * (b : Int) := by exact_mod_cast hlt
      by_cases hbit : m.testBit k = true
      · have hb1 : bits .and .i64 ((m : Int) / 2 ^ k) 1 = 1 := by rw [and_shr_one m k (by omega), if_pos hbit]
        have d0 : 0 ≤ (k : Int) / (a : Int) := Int.ediv_nonneg (by omega) (by omega)
        have d1 : (k : Int) / (a : Int) ≤ 25 := Int.le_trans (Int.ediv_le_self _ (by omega)) (by omega)
        have e0 : 0 ≤ ((k : Int) / (a : Int) + (y : Int)) % (b : Int) := Int.emod_nonneg _ (by omega)
        have e1 : ((k : Int) / (a : Int) + (y : Int)) % (b : Int) < (b : Int) := Int.emod_lt_of_pos _ (by omega)
        have g0 : 0 ≤ ((k : Int) / (a : Int) + (y : Int)) % (b : Int) * (a : Int) := Int.mul_nonneg e0 (by omega)
        have g1 : ((k : Int) / (a : Int) + (y : Int)) % (b : Int) * (a : Int) ≤ 20 := by
          have := Int.mul_le_mul (a := ((k : Int) / (a : Int) + (y : Int)) % (b : Int)) (b := (a : Int)) (c := 4) (d := 5) (by omega) (by omega) (by omega) (by omega)
          omega
        have r0 : 0 ≤ (k : Int) % (a : Int) := Int.emod_nonneg _ (by omega)
        have r1 : (k : Int) % (a : Int) < (a : Int) := Int.emod_lt_of_pos _ (by omega)
        have s0 : 0 ≤ ((k : Int) + (x : Int)) % (a : Int) := Int.emod_nonneg _ (by omega)
        have s1 : ((k : Int) + (x : Int)) % (a : Int) < (a : Int) := Int.emod_lt_of_pos _ (by omega)
        have hps : ((k : Int) / (a : Int) + (y : Int)) % (b : Int) * (a : Int) + ((k : Int) + (x : Int)) % (a : Int) = ((smPos a b x y k : Nat) : Int) := by simp [smPos]
        have hpl := smPos_lt (a := a) (b := b) (x := x) (y := y) (i := k) (by omega) (by omega)
        have a0 : ¬ a = 0 := by omega
        have b0 : ¬ b = 0 := by omega
        go_wp2
        have hv := wrap_add_pow (smSum a b x y (smBits k m)) (smPos a b x y k) (by omega) (by omega)
        have HV := Lib.hid hv
        clear hv
        go_big_quiet (fail)
        go_wp2
        go_roundw
        case rel => exact ⟨k + 1, by omega, by go_num, by rw [HV.out, HSB.out, if_pos hbit, smSum_snoc], _, rfl⟩
        case measure => simp [intOf]; omega
      · have hb1 : bits .and .i64 ((m : Int) / 2 ^ k) 1 = 0 := by rw [and_shr_one m k (by omega), if_neg hbit]
        go_wp2
        go_roundw
        case rel => exact ⟨k + 1, by omega, by go_num, by rw [HSB.out, if_neg hbit, List.append_nil], _, rfl⟩
        case measure => simp [intOf]; omega
    · obtain rfl : k = a * b := by omega
      go_wp2
      go_ret
      exact ⟨rfl, _, rfl⟩
end Go.Proofs.YtajmdgcnnipdoaaGreatDoor

/- Shift2: the walk of the program's ShiftMask. -/
namespace Go.Proofs.YtajmdgcnnipdoaaGreatDoor
open Go.RowKit

theorem isTorus_yes (a b : Int) (w : World) (ha1 : 1 ≤ a) (ha2 : a ≤ 5) (hb1 : 1 ≤ b) (hb2 : b ≤ 5) :
    Calls Tryz.prog 97 #[.int .i64 a, .int .i64 b] w fun e w' => e = .returned (.bool true) ∧ w = w' := by
  go_enter Tryz.func97, Tryz.ntmps97
  go_wp2_with (go_at_call 98; refine (between_yes _ _ _ _ (by omega) (by omega)).mono ?_; rintro e w' ⟨rfl, rfl⟩)
  all_goals go_ret
  all_goals exact ⟨rfl, rfl⟩
theorem isTorus_no (a b : Int) (w : World) (h : ¬ (1 ≤ a ∧ a ≤ 5 ∧ 1 ≤ b ∧ b ≤ 5)) :
    Calls Tryz.prog 97 #[.int .i64 a, .int .i64 b] w fun e w' => e = .returned (.bool false) ∧ w = w' := by
  go_enter Tryz.func97, Tryz.ntmps97
  by_cases h1 : 1 ≤ a ∧ a ≤ 5
  · go_wp2_with (go_at_call 98; first | (refine (between_yes _ _ _ _ (by omega) (by omega)).mono ?_; rintro e w' ⟨rfl, rfl⟩) | (refine (between_no _ _ _ _ (by omega)).mono ?_; rintro e w' ⟨rfl, rfl⟩))
    all_goals go_ret
    all_goals exact ⟨rfl, rfl⟩
  · go_wp2_with (go_at_call 98; refine (between_no _ _ _ _ (by omega)).mono ?_; rintro e w' ⟨rfl, rfl⟩)
    all_goals go_ret
    all_goals exact ⟨rfl, rfl⟩

theorem placeCells_at (a : Nat) (l : List Nat) (j : Nat) (hj : j < l.length) : (placeCells a l)[j * 2]? = some (.int .i64 ((l[j] % a : Nat) : Int)) ∧ (placeCells a l)[j * 2 + 1]? = some (.int .i64 ((l[j] / a : Nat) : Int)) := by
  induction l generalizing j with
  | nil => simp at hj
  | cons i l ih =>
    have e : placeCells a (i :: l) = [.int .i64 ((i % a : Nat) : Int), .int .i64 ((i / a : Nat) : Int)] ++ placeCells a l := rfl
    rw [e]
    match j with
    | 0 => simp
    | j + 1 =>
      have := ih j (by simpa using hj)
      rw [show (j + 1) * 2 = j * 2 + 2 from by omega, show j * 2 + 2 + 1 = j * 2 + 1 + 2 from by omega]
      simpa using this
theorem smOr_le {a b x y : Nat} (ha : 0 < a) (hb : 0 < b) (hab : a * b ≤ 25) (l : List Nat) : smOr a b x y l < 33554432 := by
  unfold smOr
  have key : ∀ (l : List Nat) (s : Nat), s < 2 ^ 25 → l.foldl (fun s i => s ||| 2 ^ smPos a b x y i) s < 2 ^ 25 := by
    intro l
    induction l with
    | nil => intro s hs; exact hs
    | cons i l ih =>
      intro s hs
      have h2 : smPos a b x y i ≤ 24 := by have := smPos_lt (x := x) (y := y) (i := i) ha hb; omega
      exact ih _ (Nat.or_lt_two_pow hs (Nat.pow_lt_pow_right (by decide) (by omega)))
  exact key l 0 (by decide)

set_option maxHeartbeats 400000 in
theorem implShift (a b m x y p : Nat) (w : World) (ha : 1 ≤ a ∧ a ≤ 5) (hb : 1 ≤ b ∧ b ≤ 5) (hp : wrap64 (2 ^ (a * b)) = (p : Int)) (hp1 : p ≤ 33554432) (hpm : m < 2 ^ (a * b)) (hm : m < p) (hx : x < a) (hy : y < b) :
    Calls Tryz.prog 44 #[.int .i64 a, .int .i64 b, .int .i64 m, .int .i64 x, .int .i64 y] w fun e w' => e = .returned (.int .i64 (smOr a b x y (smBits (a * b) m))) ∧ Below w.heap.size w w' := by
  obtain ⟨ha1, ha2⟩ := ha
  obtain ⟨hb1, hb2⟩ := hb
  have q0 : a * b ≤ 25 := Nat.mul_le_mul ha2 hb2
  have q1 : 0 ≤ (a : Int) * (b : Int) := by exact Int.mul_nonneg (by omega) (by omega)
  have q2 : (a : Int) * (b : Int) ≤ 25 := by exact_mod_cast q0
  have hplaces := Lib.hid (fun w => places_view a m (a * b) w ⟨by omega, by omega⟩ hpm (by omega))
  clear hpm
  go_enter Tryz.func44, Tryz.ntmps44
  go_wp2_with (first | (go_at_call 97; refine (isTorus_yes _ _ _ (by omega) (by omega) (by omega) (by omega)).mono ?_; rintro e w' ⟨rfl, rfl⟩) | (go_at_call 98; refine (between_yes _ _ _ _ (by omega) (by omega)).mono ?_; rintro e w' ⟨rfl, rfl⟩) | fail)
  refine (hplaces.out _).mono ?_
  have hlen := smBits_length_le (a * b) m
  have hlt : ∀ i ∈ smBits (a * b) m, i < a * b := fun i hi => smBits_lt hi
  have HLT := Lib.hid hlt
  clear hlt hplaces
  generalize hl : smBits (a * b) m = l at hlen HLT ⊢
  have HL := Lib.hid hl
  clear hl
  rintro e w1 ⟨ad, cap, rfl, hbw, hcells⟩
  have HC := Lib.hid hcells
  clear hcells
  go_wp2
  go_loopw [11, 46] (fun s i wr => ∃ k : Nat, k ≤ l.length ∧ i = .int .i64 k ∧ s = .int .i64 (smOr a b x y (l.take k)) ∧ Below w.heap.size w wr ∧ Below w1.heap.size w1 wr) (fun _ i _ => l.length - (intOf i).toNat)
  case atStart => exact ⟨0, by omega, rfl, by simp [smOr], hbw, Below.refl _ _⟩
  case round =>
    obtain ⟨k, hk, rfl, rfl, hB, hB1⟩ := hrel
    have hle := smOr_le (a := a) (b := b) (x := x) (y := y) (by omega) (by omega) q0 (l.take k)
    by_cases hlt : k < l.length
    · obtain ⟨g, rfl, hg1, hg2, hc⟩ := HC.out (by omega)
      have hcX := (hB1.cell (p := ⟨g, k * 2, none⟩) hg2).trans (hc _ _ (placeCells_at a l k hlt).1)
      have hcY := (hB1.cell (p := ⟨g, k * 2 + 1, none⟩) hg2).trans (hc _ _ (placeCells_at a l k hlt).2)
      have hi : l[k] < a * b := HLT.out _ (List.getElem_mem hlt)
      have htk : l.take (k + 1) = l.take k ++ [l[k]] := by rw [List.take_succ_eq_append_getElem hlt]
      have HTK := Lib.hid htk
      clear hc htk
      generalize l[k] = i at hcX hcY hi HTK
      have hu : i % a < a := Nat.mod_lt _ (by omega)
      have hv : i / a < b := Nat.div_lt_of_lt_mul hi
      have hpos : smPos a b x y i = (i / a + y) % b * a + (i % a + x) % a := rfl
      have hpl := smPos_lt (a := a) (b := b) (x := x) (y := y) (i := i) (by omega) (by omega)
      have hval := or_pow (smOr a b x y (l.take k)) (smPos a b x y i) (by omega) (by omega)
      have HV := Lib.hid hval
      clear hval hi
      generalize i % a = u at hcX hu hpos
      generalize i / a = v at hcY hv hpos
      have e0 : 0 ≤ ((v : Int) + (y : Int)) % (b : Int) := Int.emod_nonneg _ (by omega)
      have e1 : ((v : Int) + (y : Int)) % (b : Int) < (b : Int) := Int.emod_lt_of_pos _ (by omega)
      have g0 : 0 ≤ ((v : Int) + (y : Int)) % (b : Int) * (a : Int) := Int.mul_nonneg e0 (by omega)
      have g1 : ((v : Int) + (y : Int)) % (b : Int) * (a : Int) ≤ 20 := by
        have := Int.mul_le_mul (a := ((v : Int) + (y : Int)) % (b : Int)) (b := (a : Int)) (c := 4) (d := 5) (by omega) (by omega) (by omega) (by omega)
        omega
      have s0 : 0 ≤ ((u : Int) + (x : Int)) % (a : Int) := Int.emod_nonneg _ (by omega)
      have s1 : ((u : Int) + (x : Int)) % (a : Int) < (a : Int) := Int.emod_lt_of_pos _ (by omega)
      have hps : ((v : Int) + (y : Int)) % (b : Int) * (a : Int) + ((u : Int) + (x : Int)) % (a : Int) = ((smPos a b x y i : Nat) : Int) := by rw [hpos]; simp
      have a0 : ¬ a = 0 := by omega
      have b0 : ¬ b = 0 := by omega
      clear hpos
      go_wp2
      go_big_quiet (fail)
      go_wp2
      go_roundw
      case rel =>
        refine ⟨k + 1, by omega, by go_num, ?_, below_drewN (hB.alloc ?_ _) _, below_drewN (hB1.alloc hB1.size _) _⟩
        · rw [HV.out, HTK.out, smOr_snoc]
        · exact Nat.le_trans hbw.size hB1.size
      case measure => simp [intOf]; omega
    · obtain rfl : k = l.length := by omega
      go_wp2
      go_ret
      refine ⟨?_, hB⟩
      rw [HL.out, List.take_length]
      rfl
end Go.Proofs.YtajmdgcnnipdoaaGreatDoor

/- ShiftB: ShiftMask, the reference's and the program's, at any arguments. -/
namespace Go.Proofs.YtajmdgcnnipdoaaGreatDoor
open Go.RowKit

/-- When the arguments are in range. -/
def ShRange (a b m x y : Int) : Prop := (1 ≤ a ∧ a ≤ 5 ∧ 1 ≤ b ∧ b ≤ 5) ∧ (0 ≤ m ∧ m < 2 ^ (a.toNat * b.toNat)) ∧ (0 ≤ x ∧ x < a) ∧ (0 ≤ y ∧ y < b)

theorem pow_small {a b : Nat} (h : a * b ≤ 25) : wrap64 (2 ^ (a * b)) = ((2 ^ (a * b) : Nat) : Int) ∧ 2 ^ (a * b) ≤ 33554432 := by
  have h2 : 2 ^ (a * b) ≤ 2 ^ 25 := Nat.pow_le_pow_right (by decide) h
  have e : ((2 : Int) ^ (a * b)) = ((2 ^ (a * b) : Nat) : Int) := by norm_cast
  rw [e]
  generalize 2 ^ (a * b) = q at h2
  exact ⟨IntWalk.wrap64_in _ (by omega), h2⟩

set_option maxHeartbeats 400000 in
theorem specSh_bad (a b m x y : Int) (w : World) (h : ¬ ShRange a b m x y) :
    Calls Tryz.prog 59 #[.int .i64 a, .int .i64 b, .int .i64 m, .int .i64 x, .int .i64 y] w fun e w' => e = .returned (.int .i64 (-1)) ∧ w = w' := by
  by_cases hf : 1 ≤ a ∧ a ≤ 5 ∧ 1 ≤ b ∧ b ≤ 5
  · obtain ⟨A, rfl⟩ := Int.eq_ofNat_of_zero_le (show 0 ≤ a by omega)
    obtain ⟨B, rfl⟩ := Int.eq_ofNat_of_zero_le (show 0 ≤ b by omega)
    obtain ⟨ha1, ha2, hb1, hb2⟩ := hf
    have q0 : A * B ≤ 25 := Nat.mul_le_mul (show A ≤ 5 by omega) (show B ≤ 5 by omega)
    have q1 : 0 ≤ (A : Int) * (B : Int) := by exact Int.mul_nonneg (by omega) (by omega)
    have q2 : (A : Int) * (B : Int) ≤ 25 := by exact_mod_cast q0
    obtain ⟨hp, hp1⟩ := pow_small q0
    have hr : ¬ ((0 ≤ m ∧ m < ((2 ^ (A * B) : Nat) : Int)) ∧ (0 ≤ x ∧ x < (A : Int)) ∧ (0 ≤ y ∧ y < (B : Int))) := by
      intro hh
      refine h ⟨⟨ha1, ha2, hb1, hb2⟩, ?_, hh.2.1, hh.2.2⟩
      have := hh.1
      rw [Int.toNat_natCast, Int.toNat_natCast]
      norm_cast at this ⊢
    clear h
    generalize 2 ^ (A * B) = p at hp hp1 hr
    by_cases hm : 0 ≤ m ∧ m ≤ (p : Int) - 1
    · by_cases hx : 0 ≤ x ∧ x ≤ (A : Int) - 1
      · have hy : y < 0 ∨ (B : Int) - 1 < y := by omega
        clear hr
        go_enter Tryz.func59, Tryz.ntmps59
        go_wp2_with (first | (go_at_call 95; refine (l16Fine_yes _ _ _ (by omega) (by omega) (by omega) (by omega)).mono ?_; rintro e w' ⟨rfl, rfl⟩) | (go_at_call 82; first | (refine (l1In_yes _ _ _ _ (by omega) (by omega)).mono ?_; rintro e w' ⟨rfl, rfl⟩) | (refine (l1In_no _ _ _ _ (by omega)).mono ?_; rintro e w' ⟨rfl, rfl⟩)))
        go_ret
        exact ⟨rfl, rfl⟩
      · have hx' : x < 0 ∨ (A : Int) - 1 < x := by omega
        clear hr hx
        go_enter Tryz.func59, Tryz.ntmps59
        go_wp2_with (first | (go_at_call 95; refine (l16Fine_yes _ _ _ (by omega) (by omega) (by omega) (by omega)).mono ?_; rintro e w' ⟨rfl, rfl⟩) | (go_at_call 82; first | (refine (l1In_yes _ _ _ _ (by omega) (by omega)).mono ?_; rintro e w' ⟨rfl, rfl⟩) | (refine (l1In_no _ _ _ _ (by omega)).mono ?_; rintro e w' ⟨rfl, rfl⟩)))
        go_ret
        exact ⟨rfl, rfl⟩
    · have hm' : m < 0 ∨ (p : Int) - 1 < m := by omega
      clear hr hm
      go_enter Tryz.func59, Tryz.ntmps59
      go_wp2_with (first | (go_at_call 95; refine (l16Fine_yes _ _ _ (by omega) (by omega) (by omega) (by omega)).mono ?_; rintro e w' ⟨rfl, rfl⟩) | (go_at_call 82; first | (refine (l1In_yes _ _ _ _ (by omega) (by omega)).mono ?_; rintro e w' ⟨rfl, rfl⟩) | (refine (l1In_no _ _ _ _ (by omega)).mono ?_; rintro e w' ⟨rfl, rfl⟩)))
      go_ret
      exact ⟨rfl, rfl⟩
  · clear h
    go_enter Tryz.func59, Tryz.ntmps59
    go_wp2_with (go_at_call 95; refine (l16Fine_no _ _ _ (by omega)).mono ?_; rintro e w' ⟨rfl, rfl⟩)
    go_ret
    exact ⟨rfl, rfl⟩

set_option maxHeartbeats 400000 in
theorem implSh_bad (a b m x y : Int) (w : World) (h : ¬ ShRange a b m x y) :
    Calls Tryz.prog 44 #[.int .i64 a, .int .i64 b, .int .i64 m, .int .i64 x, .int .i64 y] w fun e w' => e = .returned (.int .i64 (-1)) ∧ w = w' := by
  by_cases hf : 1 ≤ a ∧ a ≤ 5 ∧ 1 ≤ b ∧ b ≤ 5
  · obtain ⟨A, rfl⟩ := Int.eq_ofNat_of_zero_le (show 0 ≤ a by omega)
    obtain ⟨B, rfl⟩ := Int.eq_ofNat_of_zero_le (show 0 ≤ b by omega)
    obtain ⟨ha1, ha2, hb1, hb2⟩ := hf
    have q0 : A * B ≤ 25 := Nat.mul_le_mul (show A ≤ 5 by omega) (show B ≤ 5 by omega)
    have q1 : 0 ≤ (A : Int) * (B : Int) := by exact Int.mul_nonneg (by omega) (by omega)
    have q2 : (A : Int) * (B : Int) ≤ 25 := by exact_mod_cast q0
    obtain ⟨hp, hp1⟩ := pow_small q0
    have hr : ¬ ((0 ≤ m ∧ m < ((2 ^ (A * B) : Nat) : Int)) ∧ (0 ≤ x ∧ x < (A : Int)) ∧ (0 ≤ y ∧ y < (B : Int))) := by
      intro hh
      refine h ⟨⟨ha1, ha2, hb1, hb2⟩, ?_, hh.2.1, hh.2.2⟩
      have := hh.1
      rw [Int.toNat_natCast, Int.toNat_natCast]
      norm_cast at this ⊢
    clear h
    generalize 2 ^ (A * B) = p at hp hp1 hr
    by_cases hm : 0 ≤ m ∧ m ≤ (p : Int) - 1
    · by_cases hx : 0 ≤ x ∧ x ≤ (A : Int) - 1
      · have hy : y < 0 ∨ (B : Int) - 1 < y := by omega
        clear hr
        go_enter Tryz.func44, Tryz.ntmps44
        go_wp2_with (first | (go_at_call 97; refine (isTorus_yes _ _ _ (by omega) (by omega) (by omega) (by omega)).mono ?_; rintro e w' ⟨rfl, rfl⟩) | (go_at_call 98; first | (refine (between_yes _ _ _ _ (by omega) (by omega)).mono ?_; rintro e w' ⟨rfl, rfl⟩) | (refine (between_no _ _ _ _ (by omega)).mono ?_; rintro e w' ⟨rfl, rfl⟩)))
        go_ret
        exact ⟨rfl, rfl⟩
      · have hx' : x < 0 ∨ (A : Int) - 1 < x := by omega
        clear hr hx
        go_enter Tryz.func44, Tryz.ntmps44
        go_wp2_with (first | (go_at_call 97; refine (isTorus_yes _ _ _ (by omega) (by omega) (by omega) (by omega)).mono ?_; rintro e w' ⟨rfl, rfl⟩) | (go_at_call 98; first | (refine (between_yes _ _ _ _ (by omega) (by omega)).mono ?_; rintro e w' ⟨rfl, rfl⟩) | (refine (between_no _ _ _ _ (by omega)).mono ?_; rintro e w' ⟨rfl, rfl⟩)))
        go_ret
        exact ⟨rfl, rfl⟩
    · have hm' : m < 0 ∨ (p : Int) - 1 < m := by omega
      clear hr hm
      go_enter Tryz.func44, Tryz.ntmps44
      go_wp2_with (first | (go_at_call 97; refine (isTorus_yes _ _ _ (by omega) (by omega) (by omega) (by omega)).mono ?_; rintro e w' ⟨rfl, rfl⟩) | (go_at_call 98; first | (refine (between_yes _ _ _ _ (by omega) (by omega)).mono ?_; rintro e w' ⟨rfl, rfl⟩) | (refine (between_no _ _ _ _ (by omega)).mono ?_; rintro e w' ⟨rfl, rfl⟩)))
      go_ret
      exact ⟨rfl, rfl⟩
  · clear h
    go_enter Tryz.func44, Tryz.ntmps44
    go_wp2_with (go_at_call 97; refine (isTorus_no _ _ _ (by omega)).mono ?_; rintro e w' ⟨rfl, rfl⟩)
    go_ret
    exact ⟨rfl, rfl⟩

instance (a b m x y : Int) : Decidable (ShRange a b m x y) := by unfold ShRange; infer_instance
/-- What ShiftMask returns. -/
def shR (a b m x y : Int) : Int := if ShRange a b m x y then ((smSum a.toNat b.toNat x.toNat y.toNat (smBits (a.toNat * b.toNat) m.toNat) : Nat) : Int) else -1
theorem shBoth (a b m x y : Int) : (∀ w, Calls Tryz.prog 59 #[.int .i64 a, .int .i64 b, .int .i64 m, .int .i64 x, .int .i64 y] w fun e w' => e = .returned (.int .i64 (shR a b m x y)) ∧ Below w.heap.size w w') ∧
    ∀ w, Calls Tryz.prog 44 #[.int .i64 a, .int .i64 b, .int .i64 m, .int .i64 x, .int .i64 y] w fun e w' => e = .returned (.int .i64 (shR a b m x y)) ∧ Below w.heap.size w w' := by
  by_cases h : ShRange a b m x y
  · rw [show shR a b m x y = ((smSum a.toNat b.toNat x.toNat y.toNat (smBits (a.toNat * b.toNat) m.toNat) : Nat) : Int) from if_pos h]
    obtain ⟨⟨ha1, ha2, hb1, hb2⟩, ⟨hm1, hm2⟩, ⟨hx1, hx2⟩, hy1, hy2⟩ := h
    obtain ⟨A, rfl⟩ := Int.eq_ofNat_of_zero_le (show 0 ≤ a by omega)
    obtain ⟨B, rfl⟩ := Int.eq_ofNat_of_zero_le (show 0 ≤ b by omega)
    obtain ⟨M, rfl⟩ := Int.eq_ofNat_of_zero_le hm1
    obtain ⟨X, rfl⟩ := Int.eq_ofNat_of_zero_le hx1
    obtain ⟨Y, rfl⟩ := Int.eq_ofNat_of_zero_le hy1
    have q0 : A * B ≤ 25 := Nat.mul_le_mul (show A ≤ 5 by omega) (show B ≤ 5 by omega)
    obtain ⟨hp, hp1⟩ := pow_small q0
    have hM : M < 2 ^ (A * B) := by
      rw [Int.toNat_natCast, Int.toNat_natCast] at hm2
      norm_cast at hm2
    rw [Int.toNat_natCast, Int.toNat_natCast, Int.toNat_natCast, Int.toNat_natCast, Int.toNat_natCast]
    refine ⟨fun w => ?_, fun w => ?_⟩
    · refine (specShift A B M X Y (2 ^ (A * B)) w ⟨by omega, by omega⟩ ⟨by omega, by omega⟩ hp hp1 hM (by omega) (by omega)).mono ?_
      rintro e w' ⟨rfl, n, rfl⟩
      exact ⟨rfl, below_drewN (Below.refl _ _) _⟩
    · refine (implShift A B M X Y (2 ^ (A * B)) w ⟨by omega, by omega⟩ ⟨by omega, by omega⟩ hp hp1 hM hM (by omega) (by omega)).mono ?_
      rintro e w' ⟨rfl, hb⟩
      rw [smOr_eq (by omega) (by omega) (by omega) (Nat.le_refl _)]
      exact ⟨rfl, hb⟩
  · rw [show shR a b m x y = -1 from if_neg h]
    refine ⟨fun w => ?_, fun w => ?_⟩
    · refine (specSh_bad a b m x y w h).mono ?_
      rintro e w' ⟨rfl, rfl⟩
      exact ⟨rfl, Below.refl _ _⟩
    · refine (implSh_bad a b m x y w h).mono ?_
      rintro e w' ⟨rfl, rfl⟩
      exact ⟨rfl, Below.refl _ _⟩
end Go.Proofs.YtajmdgcnnipdoaaGreatDoor
