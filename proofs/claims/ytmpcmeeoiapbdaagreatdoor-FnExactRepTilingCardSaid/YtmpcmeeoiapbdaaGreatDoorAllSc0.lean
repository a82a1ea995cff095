/- AllSc0: parts laid together: Scale0, Scale1, Scale2, Scale3. -/
import Derived.Test.YtmpcmeeoiapbdaaGreatDoorAllHead
import Derived.Test.YtmpcmeeoiapbdaaGreatDoorAllBase
import Derived.Test.YtmpcmeeoiapbdaaGreatDoorAllReg

/- Scale0: a shape's cells drawn larger, row by row, as numbers; plain. -/
namespace Go.Proofs.YtmpcmeeoiapbdaaGreatDoor
open Go.RowKit

/-- The bits of a cell in each of its k rows. -/
def scBit (k : Nat) (c : Cl) : Nat := (2 ^ k - 1) * 2 ^ (c.x.toNat * k)
def scRow (k : Nat) : List Cl → Nat → Nat
  | [], _ => 0
  | c :: P, y => (if c.y.toNat = y / k then scBit k c else 0) + scRow k P y
theorem scRow_snoc (k : Nat) (P : List Cl) (c : Cl) (y : Nat) : scRow k (P ++ [c]) y = scRow k P y + (if c.y.toNat = y / k then scBit k c else 0) := by
  induction P with
  | nil => simp [scRow]
  | cons d P ih => rw [List.cons_append, scRow, ih, scRow]; omega
theorem div_iff (k b x : Nat) (hk : 0 < k) : (x * k ≤ b ∧ b - x * k < k) ↔ b / k = x := by
  constructor
  · rintro ⟨h1, h2⟩
    rw [Nat.div_eq_iff hk]
    omega
  · intro h
    rw [Nat.div_eq_iff hk] at h
    omega
theorem scBit_test (k : Nat) (c : Cl) (b : Nat) (hk : 0 < k) : (scBit k c).testBit b = decide (b / k = c.x.toNat) := by
  unfold scBit
  rw [Nat.testBit_mul_two_pow, Nat.testBit_two_pow_sub_one, Bool.eq_iff_iff]
  simp only [Bool.and_eq_true, decide_eq_true_eq]
  exact div_iff k b c.x.toNat hk
def Pos (c : Cl) : Prop := 0 ≤ c.x ∧ 0 ≤ c.y
theorem scRow_test (k : Nat) (hk : 0 < k) (y b : Nat) : ∀ P : List Cl, P.Nodup → (∀ c ∈ P, Pos c) → (scRow k P y).testBit b = P.any fun c => decide (c.y.toNat = y / k) && decide (b / k = c.x.toNat) := by
  intro P
  induction P generalizing b with
  | nil => intro _ _; simp [scRow]
  | cons c P ih =>
    intro hnd hp
    obtain ⟨hc, hnd'⟩ := List.nodup_cons.1 hnd
    have hp' := fun d hd => hp d (List.mem_cons_of_mem _ hd)
    rw [scRow, List.any_cons]
    by_cases h : c.y.toNat = y / k
    · have hdis : scBit k c &&& scRow k P y = 0 := by
        apply Nat.eq_of_testBit_eq
        intro i
        rw [Nat.testBit_and, Nat.zero_testBit, scBit_test k c i hk, ih i hnd' hp']
        by_cases hx : i / k = c.x.toNat
        · simp only [hx, decide_true, Bool.true_and]
          rw [List.any_eq_false]
          intro d hd hq
          simp only [Bool.and_eq_true, decide_eq_true_eq] at hq
          have p1 := hp c List.mem_cons_self
          have p2 := hp' d hd
          unfold Pos at p1 p2
          refine hc ?_
          have e1 : c.x = d.x := by omega
          have e2 : c.y = d.y := by omega
          have : c = d := by cases c; cases d; simp_all
          rw [this]
          exact hd
        · simp [hx]
      rw [if_pos h, ← or_eq_add hdis, Nat.testBit_or, scBit_test k c b hk, ih b hnd' hp', h]
      simp
    · rw [if_neg h, Nat.zero_add, ih b hnd' hp']
      simp [h]
/-- A further cell's bits are free, so that 'or' adds them. -/
theorem scRow_or (k : Nat) (hk : 0 < k) (P : List Cl) (c : Cl) (y : Nat) (h : (P ++ [c]).Nodup) (hp : ∀ d ∈ P ++ [c], Pos d) (hy : c.y.toNat = y / k) : scRow k P y ||| scBit k c = scRow k (P ++ [c]) y := by
  rw [scRow_snoc, if_pos hy]
  apply or_eq_add
  have hnd := (List.nodup_append.1 h)
  apply Nat.eq_of_testBit_eq
  intro i
  rw [Nat.testBit_and, Nat.zero_testBit, scBit_test k c i hk, scRow_test k hk y i P hnd.1 (fun d hd => hp d (List.mem_append_left _ hd))]
  by_cases hx : i / k = c.x.toNat
  · simp only [hx, decide_true, Bool.and_true]
    rw [List.any_eq_false]
    intro d hd hq
    simp only [Bool.and_eq_true, decide_eq_true_eq] at hq
    have p1 := hp c (by simp)
    have p2 := hp d (List.mem_append_left _ hd)
    unfold Pos at p1 p2
    have e1 : d.x = c.x := by omega
    have e2 : d.y = c.y := by omega
    have e : d = c := by cases c; cases d; simp_all
    exact hnd.2.2 d hd c (by simp) e
  · simp [hx]
/-- k cells one beside the other are the cell's bits. -/
def upTo2 (s : Nat) : Nat → Nat
  | 0 => 0
  | i + 1 => upTo2 s i + 2 ^ (s + i)
theorem upTo2_eq (s : Nat) : ∀ i, upTo2 s i = (2 ^ i - 1) * 2 ^ s := by
  intro i
  induction i with
  | zero => simp [upTo2]
  | succ i ih =>
    have h1 : 1 ≤ 2 ^ i := Nat.one_le_two_pow
    rw [upTo2, ih, Nat.pow_succ, Nat.pow_add, show 2 ^ i * 2 - 1 = (2 ^ i - 1) + 2 ^ i by omega, Nat.add_mul, Nat.mul_comm (2 ^ s)]
theorem upTo2_bit (k : Nat) (c : Cl) : upTo2 (c.x.toNat * k) k = scBit k c := upTo2_eq _ _
end Go.Proofs.YtmpcmeeoiapbdaaGreatDoor

/- Scale1: the rows of the larger region while they are filled, as the program fills them and as the reference fills them; plain. -/
namespace Go.Proofs.YtmpcmeeoiapbdaaGreatDoor
open Go.RowKit

def tab (Y : Nat) (f : Nat → Nat) : List Int := (List.range Y).map fun y => ((f y : Nat) : Int)
theorem tab_length (Y : Nat) (f : Nat → Nat) : (tab Y f).length = Y := by simp [tab]
theorem tab_at {Y : Nat} {f : Nat → Nat} {y : Nat} (h : y < Y) : (tab Y f)[y]'(by rw [tab_length]; exact h) = ((f y : Nat) : Int) := by simp [tab]
theorem tab_congr {Y : Nat} {f g : Nat → Nat} (h : ∀ y, y < Y → f y = g y) : tab Y f = tab Y g := by
  unfold tab
  refine List.map_congr_left fun y hy => ?_
  rw [h y (List.mem_range.1 hy)]
theorem tab_set {Y : Nat} {f g : Nat → Nat} {y : Nat} {v : Int} (_h : y < Y) (hv : v = ((g y : Nat) : Int)) (hg : ∀ z, z < Y → z ≠ y → f z = g z) : (tab Y f).set y v = tab Y g := by
  apply List.ext_getElem
  · simp [tab]
  · intro i h1 h2
    rw [List.getElem_set]
    have hi : i < Y := by rw [tab_length] at h2; exact h2
    split
    · rename_i e
      subst e
      rw [tab_at hi, hv]
    · rename_i e
      rw [tab_at hi, tab_at hi, hg i hi (fun q => e q.symm)]
theorem tab_zero (Y : Nat) : tab Y (fun _ => 0) = List.replicate Y 0 := by
  apply List.ext_getElem
  · simp [tab]
  · intro i h1 h2
    rw [tab_at (by rw [tab_length] at h1; exact h1)]
    simp
/-- The rows when the cells P are drawn. -/
def scF (k : Nat) (P : List Cl) (y : Nat) : Nat := scRow k P y
theorem block_iff (k b y : Nat) (hk : 0 < k) : (b * k ≤ y ∧ y < b * k + k) ↔ b = y / k := by
  have h := div_iff k y b hk
  constructor
  · intro q; exact (h.1 ⟨q.1, by omega⟩).symm
  · intro q
    have := h.2 q.symm
    omega
/-- The program: j rows of the cell c are drawn. -/
def stI (k : Nat) (P : List Cl) (c : Cl) (j y : Nat) : Nat := if c.y.toNat * k ≤ y ∧ y < c.y.toNat * k + j then scRow k (P ++ [c]) y else scRow k P y
theorem stI_zero (k Y : Nat) (P : List Cl) (c : Cl) : tab Y (stI k P c 0) = tab Y (scF k P) := tab_congr fun y _ => by
  unfold stI scF
  rw [if_neg (by omega)]
theorem stI_full (k Y : Nat) (P : List Cl) (c : Cl) (hk : 0 < k) : tab Y (stI k P c k) = tab Y (scF k (P ++ [c])) := tab_congr fun y _ => by
  unfold stI scF
  split
  · rfl
  · rename_i h
    rw [block_iff k _ y hk] at h
    rw [scRow_snoc, if_neg h, Nat.add_zero]
theorem stI_at (k : Nat) (P : List Cl) (c : Cl) (j : Nat) : stI k P c j (c.y.toNat * k + j) = scRow k P (c.y.toNat * k + j) := by
  unfold stI
  rw [if_neg (by omega)]
theorem stI_set (k Y : Nat) (P : List Cl) (c : Cl) (j : Nat) (hy : c.y.toNat * k + j < Y) {v : Int} (hv : v = ((scRow k (P ++ [c]) (c.y.toNat * k + j) : Nat) : Int)) :
    (tab Y (stI k P c j)).set (c.y.toNat * k + j) v = tab Y (stI k P c (j + 1)) := by
  refine tab_set hy (hv.trans ?_) fun z _ hz => ?_
  · unfold stI
    rw [if_pos (by omega)]
  · unfold stI
    by_cases h : c.y.toNat * k ≤ z ∧ z < c.y.toNat * k + j
    · rw [if_pos h, if_pos (by omega)]
    · rw [if_neg h, if_neg (by omega)]
/-- The reference: i columns of the cell c are drawn, and j cells of the next. -/
def stS (k : Nat) (P : List Cl) (c : Cl) (i j y : Nat) : Nat :=
  scRow k P y + (if c.y.toNat * k ≤ y ∧ y < c.y.toNat * k + k then upTo2 (c.x.toNat * k) i + (if y < c.y.toNat * k + j then 2 ^ (c.x.toNat * k + i) else 0) else 0)
theorem stS_zero (k Y : Nat) (P : List Cl) (c : Cl) : tab Y (stS k P c 0 0) = tab Y (scF k P) := tab_congr fun y _ => by
  unfold stS scF
  split
  · rw [if_neg (by omega)]; rfl
  · rfl
theorem stS_next (k Y : Nat) (P : List Cl) (c : Cl) (i : Nat) : tab Y (stS k P c i k) = tab Y (stS k P c (i + 1) 0) := tab_congr fun y _ => by
  unfold stS
  split
  · rename_i h
    rw [if_pos h.2, if_neg (by omega), upTo2, Nat.add_zero]
  · rfl
theorem stS_full (k Y : Nat) (P : List Cl) (c : Cl) (hk : 0 < k) : tab Y (stS k P c k 0) = tab Y (scF k (P ++ [c])) := tab_congr fun y _ => by
  unfold stS scF
  rw [scRow_snoc]
  by_cases h : c.y.toNat = y / k
  · rw [if_pos h, if_pos ((block_iff k _ y hk).2 h), if_neg (by have := (block_iff k _ y hk).2 h; omega), upTo2_bit, Nat.add_zero]
  · rw [if_neg h, if_neg (fun q => h ((block_iff k _ y hk).1 q))]
theorem stS_set (k Y : Nat) (P : List Cl) (c : Cl) (i j : Nat) (hj : j < k) (hy : c.y.toNat * k + j < Y) {v : Int} (hv : v = ((stS k P c i j (c.y.toNat * k + j) + 2 ^ (c.x.toNat * k + i) : Nat) : Int)) :
    (tab Y (stS k P c i j)).set (c.y.toNat * k + j) v = tab Y (stS k P c i (j + 1)) := by
  refine tab_set hy (hv.trans ?_) fun z _ hz => ?_
  · unfold stS
    rw [if_pos (by omega), if_neg (by omega), if_pos (by omega), if_pos (by omega)]
    congr 1
    omega
  · unfold stS
    by_cases h : c.y.toNat * k ≤ z ∧ z < c.y.toNat * k + k
    · rw [if_pos h, if_pos h]
      by_cases h2 : z < c.y.toNat * k + j
      · rw [if_pos h2, if_pos (by omega)]
      · rw [if_neg h2, if_neg (by omega)]
    · rw [if_neg h, if_neg h]
end Go.Proofs.YtmpcmeeoiapbdaaGreatDoor

/- Scale2: when a shape may be drawn larger, its region, and the bounds of all numbers on the way; plain. -/
namespace Go.Proofs.YtmpcmeeoiapbdaaGreatDoor
open Go.RowKit

theorem scRow_lt {k : Nat} (hk : 0 < k) {P : List Cl} (h : P.Nodup) (hp : ∀ c ∈ P, Pos c) (hx : ∀ c ∈ P, (c.x.toNat + 1) * k ≤ 6) (y : Nat) : scRow k P y < 64 := by
  refine Nat.lt_pow_two_of_testBit (n := 6) _ fun i hi => ?_
  rw [scRow_test k hk y i P h hp, List.any_eq_false]
  intro c hc hq
  simp only [Bool.and_eq_true, decide_eq_true_eq] at hq
  have h1 := hx c hc
  have h2 := (div_iff k i c.x.toNat hk).2 hq.2
  rw [Nat.add_mul] at h1
  omega
theorem pow_le6 {n : Nat} (h : n ≤ 6) : 2 ^ n ≤ 64 := Nat.pow_le_pow_right (by omega) h
theorem upTo2_le {s i : Nat} (h : s + i ≤ 6) : upTo2 s i ≤ 64 := by
  rw [upTo2_eq]
  have h1 : (2 ^ i - 1) * 2 ^ s ≤ 2 ^ i * 2 ^ s := Nat.mul_le_mul_right _ (Nat.sub_le _ _)
  rw [← Nat.pow_add] at h1
  exact Nat.le_trans h1 (pow_le6 (by omega))
theorem stS_le {k : Nat} (hk : 0 < k) {P : List Cl} (h : P.Nodup) (hp : ∀ c ∈ P, Pos c) (hx : ∀ c ∈ P, (c.x.toNat + 1) * k ≤ 6) {c : Cl} (hc : (c.x.toNat + 1) * k ≤ 6) {i j : Nat} (hi : i < k) (y : Nat) : stS k P c i j y ≤ 192 := by
  have h1 := scRow_lt hk h hp hx y
  rw [Nat.add_mul] at hc
  have h2 := upTo2_le (s := c.x.toNat * k) (i := i) (by omega)
  have h3 := pow_le6 (n := c.x.toNat * k + i) (by omega)
  unfold stS
  split
  · split <;> omega
  · omega
/-- Whether a shape may be drawn k times as large. -/
def scOk (l : List Cl) (k : Int) : Bool := decide (Shape l) && (decide (1 ≤ k) && decide (k ≤ 6)) && decide (sizeX l * k ≤ 6) && decide (sizeY l * k ≤ 6)
theorem scOk_iff {l : List Cl} {k : Int} : scOk l k = true ↔ Shape l ∧ (1 ≤ k ∧ k ≤ 6) ∧ sizeX l * k ≤ 6 ∧ sizeY l * k ≤ 6 := by
  unfold scOk
  simp only [Bool.and_eq_true, decide_eq_true_eq, and_assoc]
theorem corn_nodup {l : List Cl} (h : Shape l) : (cornL l).Nodup := by
  have ha := asc_cornL h.1.1
  unfold AscG at ha
  unfold List.Nodup
  refine ha.imp fun {a b} q e => ?_
  subst e
  rw [ltC_iff] at q
  omega
theorem corn_pos {l : List Cl} (h : Shape l) : ∀ c ∈ cornL l, Pos c := fun c hc => by
  have := cornL_in h hc
  unfold Pos
  omega
theorem corn_size {l : List Cl} (h : Shape l) : ∀ c ∈ cornL l, c.x + 1 ≤ sizeX l ∧ c.y + 1 ≤ sizeY l := by
  intro c hc
  obtain ⟨i, hi, rfl⟩ := List.mem_iff_getElem.1 hc
  unfold sizeX sizeY
  have e : cornS l = cornL l := by unfold cornS; rw [if_pos h]
  rw [e]
  exact ⟨maxTo_ge (f := Cl.x) _ (Nat.le_refl _) i hi hi, maxTo_ge (f := Cl.y) _ (Nat.le_refl _) i hi hi⟩
/-- The numbers of a cell of a shape that may be drawn larger. -/
theorem corn_room {l : List Cl} {k : Nat} (h : scOk l k = true) : ∀ c ∈ cornL l, (c.x.toNat + 1) * k ≤ 6 ∧ (c.y.toNat + 1) * k ≤ (sizeY l).toNat * k := by
  obtain ⟨hs, hk, hx, hy⟩ := scOk_iff.1 h
  intro c hc
  have h1 := corn_size hs c hc
  have h2 := cornL_in hs hc
  constructor
  · have e1 : c.x.toNat + 1 ≤ (sizeX l).toNat := by omega
    have e2 : (sizeX l).toNat * k ≤ 6 := by
      have hb := (size_bd l).1.1
      have : (((sizeX l).toNat * k : Nat) : Int) ≤ 6 := by rw [Int.natCast_mul, Int.toNat_of_nonneg hb]; exact hx
      omega
    exact Nat.le_trans (Nat.mul_le_mul_right k e1) e2
  · exact Nat.mul_le_mul_right k (by omega)
end Go.Proofs.YtmpcmeeoiapbdaaGreatDoor

/- Scale3: the number that the program stores in a row. -/
namespace Go.Proofs.YtmpcmeeoiapbdaaGreatDoor
open Go.RowKit

theorem rowVal {k p rr : Nat} (hp : p + k ≤ 6) (hr : rr < 64) : bits .or .i64 (rr : Int) (IntKind.i64.wrap (IntKind.i64.wrap (IntKind.i64.wrap (2 ^ k) - 1) * 2 ^ p)) = ((rr ||| (2 ^ k - 1) * 2 ^ p : Nat) : Int) := by
  rw [show ((2 : Int) ^ k) = ((2 ^ k : Nat) : Int) by norm_cast]
  have h2 := pow_le6 (n := k) (by omega)
  have h3 := pow_le6 (n := p) (by omega)
  have h1 : 1 ≤ 2 ^ k := Nat.one_le_two_pow
  generalize 2 ^ k = t at h1 h2
  have hb : (t - 1) * 2 ^ p ≤ 64 * 64 := Nat.mul_le_mul (by omega) h3
  have e1 : (t : Int) - 1 = ((t - 1 : Nat) : Int) := by omega
  generalize t - 1 = r at hb e1
  rw [IntWalk.i64_in (t : Int) (by omega), e1, IntWalk.i64_in (r : Int) (by omega), IntWalk.i64_left]
  have hr1 : rr < 1073741824 := by omega
  have hb1 : r * 2 ^ p < 68719476736 := Nat.lt_of_le_of_lt hb (by decide)
  rw [or_shl hr1 hb1]
theorem ownsRow_far_set {w : World} {base e size n : Nat} {v : Value} {xs : List Value} (h : w.ownsRow base e size v n xs) {p : Addr} (u : Value) (hp : p.block < base) : (w.setCell p u).ownsRow base e size v n xs :=
  h.kept (row := some p.block) ⟨rfl, rfl, rfl, by simp [World.setCell], fun k hk hne => Below.heap_setCell _ _ _ _ (fun q => hne (by rw [q]))⟩ (.inr (fun e => by have := (h.lt _ e).1; omega))
end Go.Proofs.YtmpcmeeoiapbdaaGreatDoor
