/- AllLeast: parts laid together: Least0, Pairs0, Least. -/
import Derived.Test.YtajmdgcnnipdoaaGreatDoorAllBase
import Derived.Test.YtajmdgcnnipdoaaGreatDoorAllRows
import Derived.Test.YtajmdgcnnipdoaaGreatDoorAllSS
import Derived.BigQuiet
import Derived.IntWalk
import Derived.Deep.DrawnRows

/- Least0: of pairs of sides the one with the least product, and of these the least first number; plain. -/
namespace Go.Proofs.YtajmdgcnnipdoaaGreatDoor

def betterP (p q : Nat × Nat) : Bool := decide (p.1 * p.2 < q.1 * q.2) || (decide (p.1 * p.2 = q.1 * q.2) && decide (p.1 < q.1))
def leastTo (l : List (Nat × Nat)) : Nat → Nat × Nat
  | 0 => (0, 0)
  | k + 1 => if k = 0 ∨ betterP (l.getD k (0, 0)) (leastTo l k) = true then l.getD k (0, 0) else leastTo l k
def leastL (l : List (Nat × Nat)) : Nat × Nat := leastTo l l.length
theorem better_trans {p q r : Nat × Nat} (h1 : betterP p q = false) (h2 : betterP q r = false) : betterP p r = false := by
  unfold betterP at *
  generalize p.1 * p.2 = a at *
  generalize q.1 * q.2 = b at *
  generalize r.1 * r.2 = c at *
  simp only [Bool.or_eq_false_iff, Bool.and_eq_false_iff, decide_eq_false_iff_not] at *
  omega
theorem better_self (p : Nat × Nat) : betterP p p = false := by
  unfold betterP
  simp
theorem better_le {p q : Nat × Nat} (h : betterP p q = true) : betterP q p = false := by
  unfold betterP at *
  generalize p.1 * p.2 = a at *
  generalize q.1 * q.2 = b at *
  simp only [Bool.or_eq_true, Bool.and_eq_true, decide_eq_true_eq, Bool.or_eq_false_iff, Bool.and_eq_false_iff, decide_eq_false_iff_not] at *
  omega
theorem better_both {p q : Nat × Nat} (h1 : betterP p q = false) (h2 : betterP q p = false) (hp : 0 < p.1) : p = q := by
  unfold betterP at *
  simp only [Bool.or_eq_false_iff, Bool.and_eq_false_iff, decide_eq_false_iff_not] at *
  have e : p.1 * p.2 = q.1 * q.2 := by
    generalize p.1 * p.2 = a at *
    generalize q.1 * q.2 = b at *
    omega
  have e1 : p.1 = q.1 := by
    generalize p.1 * p.2 = a at *
    generalize q.1 * q.2 = b at *
    omega
  rw [← e1] at e
  have e2 : p.2 = q.2 := Nat.eq_of_mul_eq_mul_left hp e
  exact Prod.ext e1 e2
theorem leastTo_spec (l : List (Nat × Nat)) : ∀ k, k < l.length → leastTo l (k + 1) ∈ l.take (k + 1) ∧ ∀ p ∈ l.take (k + 1), betterP p (leastTo l (k + 1)) = false := by
  intro k
  induction k with
  | zero =>
    intro h
    have e : l.getD 0 (0, 0) = l[0] := by simp [List.getD_eq_getElem?_getD, h]
    rw [leastTo, if_pos (Or.inl rfl), e, List.take_succ_eq_append_getElem h]
    simp [better_self]
  | succ k ih =>
    intro h
    obtain ⟨h1, h2⟩ := ih (by omega)
    have e : l.getD (k + 1) (0, 0) = l[k + 1] := by simp [List.getD_eq_getElem?_getD, h]
    rw [leastTo, e, List.take_succ_eq_append_getElem h]
    by_cases hb : betterP l[k + 1] (leastTo l (k + 1)) = true
    · rw [if_pos (Or.inr hb)]
      refine ⟨List.mem_append.2 (Or.inr (List.mem_singleton.2 rfl)), fun p hp => ?_⟩
      rcases List.mem_append.1 hp with hp | hp
      · exact better_trans (h2 p hp) (better_le hb)
      · rw [List.mem_singleton.1 hp]; exact better_self _
    · rw [if_neg (by intro q; rcases q with q | q; · omega
                     · exact hb q)]
      refine ⟨List.mem_append.2 (Or.inl h1), fun p hp => ?_⟩
      rcases List.mem_append.1 hp with hp | hp
      · exact h2 p hp
      · rw [List.mem_singleton.1 hp]; simpa using hb
theorem leastL_spec {l : List (Nat × Nat)} (h : 0 < l.length) : leastL l ∈ l ∧ ∀ p ∈ l, betterP p (leastL l) = false := by
  have := leastTo_spec l (l.length - 1) (by omega)
  rw [show l.length - 1 + 1 = l.length by omega, List.take_length] at this
  exact this
/-- The least of a list is the one that none of the list is better than. -/
theorem leastL_eq {l : List (Nat × Nat)} {p : Nat × Nat} (hp : p ∈ l) (h : ∀ q ∈ l, betterP q p = false) (h0 : 0 < p.1) : leastL l = p := by
  have hl : 0 < l.length := List.length_pos_of_mem hp
  obtain ⟨h1, h2⟩ := leastL_spec hl
  exact (better_both (h2 p hp) (h _ h1) h0).symm
end Go.Proofs.YtajmdgcnnipdoaaGreatDoor

/- Pairs0: lists of pairs of sides, by rows; how they lie in memory, pair by pair. -/
namespace Go.Proofs.YtajmdgcnnipdoaaGreatDoor
open Go.RowKit

/-- The pairs of one width, up to some height. -/
def rtRow (ok : Nat → Nat → Bool) (w0 w : Nat) : Nat → List (Nat × Nat)
  | 0 => []
  | h + 1 => rtRow ok w0 w h ++ (if w0 ≤ h + 1 ∧ ok w (h + 1) = true then [(w, h + 1)] else [])
/-- The pairs of the first widths; first heights by f. -/
def rtTo (ok : Nat → Nat → Bool) (f : Nat → Nat) : Nat → List (Nat × Nat)
  | 0 => []
  | w + 1 => rtTo ok f w ++ rtRow ok (f (w + 1)) (w + 1) 5
theorem rtRow_start {ok : Nat → Nat → Bool} {w0 w : Nat} : ∀ {h : Nat}, h < w0 → rtRow ok w0 w h = []
  | 0, _ => rfl
  | h + 1, hh => by rw [rtRow, rtRow_start (by omega), if_neg (by omega)]; rfl
theorem rtRow_yes {ok : Nat → Nat → Bool} {w0 w h : Nat} (h0 : w0 ≤ h + 1) (h1 : ok w (h + 1) = true) : rtRow ok w0 w (h + 1) = rtRow ok w0 w h ++ [(w, h + 1)] := by rw [rtRow, if_pos ⟨h0, h1⟩]
theorem rtRow_no {ok : Nat → Nat → Bool} {w0 w h : Nat} (h1 : ok w (h + 1) = false) : rtRow ok w0 w (h + 1) = rtRow ok w0 w h := by rw [rtRow, if_neg (by rw [h1]; simp), List.append_nil]
theorem rtRow_length (ok : Nat → Nat → Bool) (w0 w : Nat) : ∀ h, (rtRow ok w0 w h).length ≤ h
  | 0 => Nat.le_refl _
  | h + 1 => by
    have := rtRow_length ok w0 w h
    rw [rtRow, List.length_append]
    split
    · simp; omega
    · simp; omega
theorem rtTo_length (ok : Nat → Nat → Bool) (f : Nat → Nat) : ∀ w, (rtTo ok f w).length ≤ w * 5
  | 0 => Nat.le_refl _
  | w + 1 => by
    have h1 := rtTo_length ok f w
    have h2 := rtRow_length ok (f (w + 1)) (w + 1) 5
    rw [rtTo, List.length_append]
    omega
theorem rtRow_mem {ok : Nat → Nat → Bool} {w0 w : Nat} {p : Nat × Nat} : ∀ {h : Nat}, p ∈ rtRow ok w0 w h ↔ p.1 = w ∧ w0 ≤ p.2 ∧ 1 ≤ p.2 ∧ p.2 ≤ h ∧ ok p.1 p.2 = true
  | 0 => by simp [rtRow]; omega
  | h + 1 => by
    rw [rtRow, List.mem_append, rtRow_mem]
    constructor
    · rintro (⟨h1, h2, h3, h4, h5⟩ | q)
      · exact ⟨h1, h2, h3, by omega, h5⟩
      · split at q
        · rename_i hc
          rw [List.mem_singleton] at q
          subst q
          exact ⟨rfl, hc.1, by show 1 ≤ h + 1; omega, Nat.le_refl _, hc.2⟩
        · simp at q
    · rintro ⟨h1, h2, h3, h4, h5⟩
      by_cases e : p.2 = h + 1
      · right
        have hp : p = (w, h + 1) := Prod.ext h1 e
        subst hp
        rw [if_pos ⟨h2, h5⟩]
        simp
      · left
        exact ⟨h1, h2, h3, by omega, h5⟩
theorem rtTo_mem {ok : Nat → Nat → Bool} {f : Nat → Nat} {p : Nat × Nat} : ∀ {w : Nat}, p ∈ rtTo ok f w ↔ 1 ≤ p.1 ∧ p.1 ≤ w ∧ f p.1 ≤ p.2 ∧ 1 ≤ p.2 ∧ p.2 ≤ 5 ∧ ok p.1 p.2 = true
  | 0 => by simp [rtTo]; omega
  | w + 1 => by
    rw [rtTo, List.mem_append, rtTo_mem, rtRow_mem]
    constructor
    · rintro (⟨h1, h2, h3, h4, h5, h6⟩ | ⟨h1, h2, h3, h4, h5⟩)
      · exact ⟨h1, by omega, h3, h4, h5, h6⟩
      · exact ⟨by omega, by omega, by rw [h1]; exact h2, h3, h4, h5⟩
    · rintro ⟨h1, h2, h3, h4, h5, h6⟩
      by_cases e : p.1 = w + 1
      · right
        exact ⟨e, by rw [← e]; exact h3, h4, h5, h6⟩
      · left
        exact ⟨h1, by omega, h3, h4, h5, h6⟩
theorem rtRow_sorted (ok : Nat → Nat → Bool) (w0 w : Nat) : ∀ h, (rtRow ok w0 w h).Pairwise (fun p q => p.1 ≤ q.1)
  | 0 => List.Pairwise.nil
  | h + 1 => by
    rw [rtRow]
    refine List.pairwise_append.2 ⟨rtRow_sorted ok w0 w h, ?_, fun a ha b hb => ?_⟩
    · split
      · exact List.pairwise_singleton _ _
      · exact List.Pairwise.nil
    · have h1 := (rtRow_mem.1 ha).1
      split at hb
      · rw [List.mem_singleton.1 hb, h1]; exact Nat.le_refl _
      · simp at hb
theorem rtTo_sorted (ok : Nat → Nat → Bool) (f : Nat → Nat) : ∀ w, (rtTo ok f w).Pairwise (fun p q => p.1 ≤ q.1)
  | 0 => List.Pairwise.nil
  | w + 1 => by
    rw [rtTo]
    refine List.pairwise_append.2 ⟨rtTo_sorted ok f w, rtRow_sorted ok _ _ 5, fun a ha b hb => ?_⟩
    have h1 := (rtTo_mem.1 ha).2.1
    have h2 := (rtRow_mem.1 hb).1
    omega
theorem rtTo_none {ok : Nat → Nat → Bool} {f : Nat → Nat} (h : ∀ a b, ok a b = false) (n : Nat) : rtTo ok f n = [] := by
  cases hr : rtTo ok f n with
  | nil => rfl
  | cons p ps =>
    have hp : p ∈ rtTo ok f n := by rw [hr]; simp
    have := (rtTo_mem.1 hp).2.2.2.2.2
    rw [h] at this
    cases this
def rowP (p : Nat × Nat) : List Int := [(p.1 : Int), (p.2 : Int)]
def rowsP (ps : List (Nat × Nat)) : List (List Int) := ps.map rowP
theorem rowsP_length (ps : List (Nat × Nat)) : (rowsP ps).length = ps.length := by simp [rowsP]
theorem rowsP_snoc (ps : List (Nat × Nat)) (p : Nat × Nat) : rowsP (ps ++ [p]) = rowsP ps ++ [[(p.1 : Int), (p.2 : Int)]] := by simp [rowsP, rowP]
theorem rowsP_at (ps : List (Nat × Nat)) (k : Nat) (hk : k < ps.length) : (rowsP ps)[k]'(by rw [rowsP_length]; exact hk) = [(ps[k].1 : Int), (ps[k].2 : Int)] := by simp [rowsP, rowP]
/-- A slice of two elements that the statement has built. -/
theorem two_built {w W : World} {e : Nat} {x y : Value} (h : W.heap = w.heap.push (.cells #[x, y] e (0, 0))) : W.ownsRow w.heap.size e 1 (.slice (some ⟨w.heap.size, 0, none⟩) 2 2) 2 [x, y] := by
  refine ⟨by simp, .inr ⟨w.heap.size, 2, #[x, y], rfl, Nat.le_refl _, ?_, Nat.le_refl _, by decide, by simp, by simp⟩⟩
  rw [h]; simp
/-- One pair more. -/
theorem pair_push {w w2 : World} {base : Nat} {ps : List (Nat × Nat)} {a b n : Nat} {v : Value} {vals : List Value} {g cap : Nat} (hn : n = ps.length) (hrows : RowsIn w base vals (rowsP ps)) (hbase : base ≤ w.heap.size)
    (hown : (w.alloc (.cells #[.int .i64 (a : Int), .int .i64 (b : Int)] 3)).ownsRow base 24 1 v n vals)
    (q1 : w2.ownsRow base 24 1 (.slice (some ⟨g, 0, none⟩) (n + 1) cap) (n + 1) (vals ++ [.slice (some ⟨w.heap.size, 0, none⟩) 2 2])) (q3 : (w.alloc (.cells #[.int .i64 (a : Int), .int .i64 (b : Int)] 3)).grownBy w2 v.ownBlock) :
    OwnMat w2 base (.slice (some ⟨g, 0, none⟩) (n + 1) cap) (rowsP (ps ++ [(a, b)])) := by
  have hb1 : Below w.heap.size w (w.alloc (.cells #[.int .i64 (a : Int), .int .i64 (b : Int)] 3)) := (Below.refl _ _).alloc (Nat.le_refl _) _
  have hro : (w.alloc (.cells #[.int .i64 (a : Int), .int .i64 (b : Int)] 3)).ownsRow w.heap.size 3 1 (.slice (some ⟨w.heap.size, 0, none⟩) [(a : Int), (b : Int)].length 2) [(a : Int), (b : Int)].length (ints [(a : Int), (b : Int)]) := two_built rfl
  have h1 := RowsIn.snoc (xs := [(a : Int), (b : Int)]) (ai := some ⟨w.heap.size, 0, none⟩) (ci := 2) hrows hb1 hbase hro
  rw [rowsP_snoc]
  refine ⟨_, ?_, h1.grown hown (by decide) q3⟩
  rw [List.length_append, rowsP_length, ← hn]
  exact q1
end Go.Proofs.YtajmdgcnnipdoaaGreatDoor

/- Least: the walk of least: of pairs of sides the one with the least product. -/
namespace Go.Proofs.YtajmdgcnnipdoaaGreatDoor
open Go.RowKit

attribute [local go_sem ↓] Go.wp_at_zero Go.wp_at_succ

theorem leastTo_first (l : List (Nat × Nat)) (h : 0 < l.length) : leastTo l 1 = l[0] := by
  rw [leastTo, if_pos (Or.inl rfl)]
  simp [List.getD_eq_getElem?_getD, h]
theorem leastTo_yes {l : List (Nat × Nat)} {k : Nat} (hk : k < l.length) (h : betterP l[k] (leastTo l k) = true) : leastTo l (k + 1) = l[k] := by
  have e : l.getD k (0, 0) = l[k] := by simp [List.getD_eq_getElem?_getD, hk]
  rw [leastTo, e, if_pos (Or.inr h)]
theorem leastTo_no {l : List (Nat × Nat)} {k : Nat} (hk : k < l.length) (h0 : ¬ k = 0) (h : betterP l[k] (leastTo l k) = false) : leastTo l (k + 1) = leastTo l k := by
  have e : l.getD k (0, 0) = l[k] := by simp [List.getD_eq_getElem?_getD, hk]
  rw [leastTo, e, if_neg (by rintro (q | q); exact h0 q; rw [h] at q; cases q)]

set_option maxRecDepth 100000 in
set_option maxHeartbeats 3200000 in
theorem implLst (ad : Option Addr) (c : Nat) (ps : List (Nat × Nat)) (w : World) (hn : ps.length ≤ 100) (hb : ∀ p ∈ ps, p.1 ≤ 5 ∧ p.2 ≤ 5) (hc : MatAt w ad (rowsP ps)) :
    Calls Tryz.prog 79 #[.slice ad ps.length c] w fun e w' => e = .returned (.tuple #[.int .i64 (leastL ps).1, .int .i64 (leastL ps).2, .bool (decide (0 < ps.length))]) ∧ Below w.heap.size w w' := by
  have HC := Lib.hid hc
  have HBD := Lib.hid hb
  have HY := Lib.hid (fun k (hk : k < ps.length) h => leastTo_yes hk h)
  have HN := Lib.hid (fun k (hk : k < ps.length) h0 h => leastTo_no hk h0 h)
  have HF := Lib.hid (fun (h : 0 < ps.length) => leastTo_first ps h)
  have hdef : leastL ps = leastTo ps ps.length := rfl
  rw [hdef]
  have hrl := rowsP_length ps
  have HRL := Lib.hid hrl
  clear hc hb hdef hrl
  go_enter Tryz.func79, Tryz.ntmps79
  go_wp2
  go_loopw [5, 6, 13] (fun av bv i wr => ∃ k a b : Nat, k ≤ ps.length ∧ i = .int .i64 k ∧ av = .int .i64 a ∧ bv = .int .i64 b ∧ leastTo ps k = (a, b) ∧ (a ≤ 5 ∧ b ≤ 5) ∧ Below w.heap.size w wr) (fun _ _ i _ => ps.length - (intOf i).toNat)
  case atStart => exact ⟨0, 0, 0, Nat.zero_le _, rfl, rfl, rfl, rfl, ⟨Nat.zero_le _, Nat.zero_le _⟩, Below.refl _ _⟩
  case round =>
    obtain ⟨k, a, b, hk, rfl, rfl, rfl, hl, hab, hb⟩ := hrel
    have HL := Lib.hid hl
    have HB := Lib.hid hb
    have hszr := hb.size
    clear hl hb
    by_cases hlt : k < ps.length
    · obtain ⟨g, off, ai, ci, rfl, hg, x0, hrow⟩ := HC.out.row (i := k) (by rw [HRL.out]; exact hlt)
      have e0 := rowsP_at ps k hlt
      rw [e0] at x0 hrow
      obtain ⟨g2, off2, rfl, hg2, hcc⟩ := hrow.open (by simp [ints])
      have y0 := hcc 0 _ rfl
      have y1 := hcc 1 _ rfl
      rw [Nat.add_zero] at y0
      have x0 := (HB.out.cell (p := ⟨g, off + k, none⟩) hg).trans x0
      have y0 := (HB.out.cell (p := ⟨g2, off2, none⟩) hg2).trans y0
      have y1 := (HB.out.cell (p := ⟨g2, off2 + 1, none⟩) hg2).trans y1
      have hbd := HBD.out _ (List.getElem_mem hlt)
      have HYK := Lib.hid (HY.out k hlt)
      have HNK := Lib.hid (HN.out k hlt)
      have i1 : (k : Int) < (ps.length : Int) := by omega
      have HP0 := Lib.hid (fun (h : k = 0) => (by have := HF.out (by omega); subst h; exact this : leastTo ps (k + 1) = ps[k]))
      clear hcc hrow e0
      rw [HL.out] at HYK HNK
      generalize ps[k] = p at x0 y0 y1 hbd HYK HNK HP0
      obtain ⟨p0, p1⟩ := p
      obtain ⟨hp0, hp1⟩ : p0 ≤ 5 ∧ p1 ≤ 5 := hbd
      have x0 : wr.cell? ⟨g, off + k, none⟩ = some (.slice (some ⟨g2, off2, none⟩) 2 ci) := x0
      have y0 : wr.cell? ⟨g2, off2, none⟩ = some (.int .i64 (p0 : Int)) := y0
      have y1 : wr.cell? ⟨g2, off2 + 1, none⟩ = some (.int .i64 (p1 : Int)) := y1
      obtain ⟨X, hX⟩ : ∃ X, X = p0 * p1 := ⟨_, rfl⟩
      obtain ⟨Y, hY⟩ : ∃ Y, Y = a * b := ⟨_, rfl⟩
      have hX25 : X ≤ 25 := by rw [hX]; exact Nat.mul_le_mul hp0 hp1
      have hY25 : Y ≤ 25 := by rw [hY]; exact Nat.mul_le_mul hab.1 hab.2
      have m1 : (p0 : Int) * (p1 : Int) = (X : Int) := by rw [hX]; norm_cast
      have m2 : (a : Int) * (b : Int) = (Y : Int) := by rw [hY]; norm_cast
      have m3 : IntKind.i64.wrap (X : Int) = (X : Int) := IntWalk.i64_in _ (by omega)
      have m4 : IntKind.i64.wrap (Y : Int) = (Y : Int) := IntWalk.i64_in _ (by omega)
      have m5 : wrap64 (X : Int) = (X : Int) := wrap_nat (by omega)
      have m6 : wrap64 (Y : Int) = (Y : Int) := wrap_nat (by omega)
      have hbt : betterP (p0, p1) (a, b) = (decide (X < Y) || (decide (X = Y) && decide (p0 < a))) := by rw [hX, hY]; rfl
      rw [hbt] at HYK HNK
      clear hX hY hbt
      by_cases hk0 : k = 0
      · subst hk0
        have HV := Lib.hid (HP0.out rfl)
        rw [Nat.add_zero] at x0
        clear HYK HNK HP0
        go_wp2
        go_big_quiet (fail)
        go_wp2
        go_big_quiet (fail)
        go_wp2
        go_roundw
        case rel => exact ⟨1, p0, p1, hlt, by go_num, rfl, rfl, HV.out, ⟨hp0, hp1⟩, below_drewN HB.out _⟩
        case measure => simp [intOf]; omega
      · have kb : ((k : Int) == 0) = false := by simp; omega
        have kbn : (k == 0) = false := by simp; omega
        by_cases hxy : X < Y
        · have HV := Lib.hid (HYK.out (by rw [decide_eq_true hxy]; rfl))
          have dxy : decide ((X : Int) < (Y : Int)) = true := decide_eq_true (Int.ofNat_lt.2 hxy)
          have dxyn : decide (X < Y) = true := decide_eq_true hxy
          clear HYK HNK HP0 hxy
          go_wp2
          go_big_quiet (fail)
          go_wp2
          go_big_quiet (fail)
          go_wp2
          go_roundw
          case rel => exact ⟨k + 1, p0, p1, hlt, by go_num, rfl, rfl, HV.out, ⟨hp0, hp1⟩, below_drewN HB.out _⟩
          case measure => simp [intOf]; omega
        · have dxy : decide ((X : Int) < (Y : Int)) = false := decide_eq_false (fun h => hxy (Int.ofNat_lt.1 h))
          have dxyn : decide (X < Y) = false := decide_eq_false hxy
          by_cases he : X = Y
          · have de : ((X : Int) == (Y : Int)) = true := by rw [he]; exact beq_self_eq_true _
            have den : (X == Y) = true := by rw [he]; exact beq_self_eq_true _
            by_cases hpa : p0 < a
            · have HV := Lib.hid (HYK.out (by rw [decide_eq_true he, decide_eq_true hpa]; simp))
              have dp : decide ((p0 : Int) < (a : Int)) = true := decide_eq_true (Int.ofNat_lt.2 hpa)
              have dpn : decide (p0 < a) = true := decide_eq_true hpa
              clear HYK HNK HP0 hxy he hpa
              go_wp2
              go_big_quiet (fail)
              go_wp2
              go_big_quiet (fail)
              go_wp2
              go_roundw
              case rel => exact ⟨k + 1, p0, p1, hlt, by go_num, rfl, rfl, HV.out, ⟨hp0, hp1⟩, below_drewN HB.out _⟩
              case measure => simp [intOf]; omega
            · have HV := Lib.hid (HNK.out hk0 (by rw [decide_eq_false hxy, decide_eq_false hpa]; simp))
              have dp : decide ((p0 : Int) < (a : Int)) = false := decide_eq_false (fun h => hpa (Int.ofNat_lt.1 h))
              have dpn : decide (p0 < a) = false := decide_eq_false hpa
              clear HYK HNK HP0 hxy he hpa
              go_wp2
              go_big_quiet (fail)
              go_wp2
              go_roundw
              case rel => exact ⟨k + 1, a, b, hlt, by go_num, rfl, rfl, HV.out, hab, below_drewN HB.out _⟩
              case measure => simp [intOf]; omega
          · have HV := Lib.hid (HNK.out hk0 (by rw [decide_eq_false hxy, decide_eq_false he]; simp))
            have de : ((X : Int) == (Y : Int)) = false := beq_eq_false_iff_ne.2 (fun h => he (Int.ofNat_inj.1 h))
            have den : (X == Y) = false := beq_eq_false_iff_ne.2 he
            clear HYK HNK HP0 hxy he
            go_wp2
            go_big_quiet (fail)
            go_wp2
            go_roundw
            case rel => exact ⟨k + 1, a, b, hlt, by go_num, rfl, rfl, HV.out, hab, below_drewN HB.out _⟩
            case measure => simp [intOf]; omega
    · obtain rfl : k = ps.length := by omega
      have hd : decide ((0 : Int) < (ps.length : Int)) = decide (0 < ps.length) := by rw [Bool.eq_iff_iff]; simp only [decide_eq_true_eq]; omega
      go_wp2
      go_ret3
      rw [HL.out]
      first | exact ⟨rfl, HB.out⟩ | exact ⟨by rw [← hd], HB.out⟩ | exact ⟨by simp, HB.out⟩
end Go.Proofs.YtajmdgcnnipdoaaGreatDoor
