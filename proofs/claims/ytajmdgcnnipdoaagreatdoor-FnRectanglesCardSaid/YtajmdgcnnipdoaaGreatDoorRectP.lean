/- RectP: a rectangle of cells is full; it tiles the rectangle of its sides, none beyond five, and its balance is small; plain. -/
import Derived.Test.YtajmdgcnnipdoaaGreatDoorAllCov
import Derived.Test.YtajmdgcnnipdoaaGreatDoorAllRS
import Derived.Test.YtajmdgcnnipdoaaGreatDoorAllBal
import Derived.Test.YtajmdgcnnipdoaaGreatDoorAllTil
import Derived.Test.YtajmdgcnnipdoaaGreatDoorAllSm
namespace Go.Proofs.YtajmdgcnnipdoaaGreatDoor
open Go.RowKit

theorem nodup_cover {α : Type} : ∀ (s g : List α), s.Nodup → (∀ x ∈ s, x ∈ g) → g.length ≤ s.length → ∀ x ∈ g, x ∈ s
  | [], g, _, _, hl, x, hx => by
    have : g = [] := List.eq_nil_of_length_eq_zero (by simpa using hl)
    rw [this] at hx
    exact hx
  | a :: s, g, hn, hs, hl, x, hx => by
    rw [List.nodup_cons] at hn
    obtain ⟨p, q, rfl⟩ := List.append_of_mem (hs a List.mem_cons_self)
    have ih := nodup_cover s (p ++ q) hn.2 (fun y hy => by
      have h1 := hs y (List.mem_cons_of_mem _ hy)
      rcases List.mem_append.1 h1 with h | h
      · exact List.mem_append.2 (Or.inl h)
      · rcases List.mem_cons.1 h with e | h
        · rw [e] at hy; exact absurd hy hn.1
        · exact List.mem_append.2 (Or.inr h)) (by
      rw [List.length_append, List.length_cons, List.length_cons] at hl
      rw [List.length_append]
      omega)
    rcases List.mem_append.1 hx with h | h
    · exact List.mem_cons_of_mem _ (ih x (List.mem_append.2 (Or.inl h)))
    · rcases List.mem_cons.1 h with e | h
      · rw [e]; exact List.mem_cons_self
      · exact List.mem_cons_of_mem _ (ih x (List.mem_append.2 (Or.inr h)))
/-- All cells of a rectangle, row by row. -/
def std (X Y : Nat) : List Cl := (List.range Y).flatMap fun y : Nat => (List.range X).map fun x : Nat => (⟨(x : Int), (y : Int)⟩ : Cl)
theorem mem_std {X Y : Nat} {c : Cl} : c ∈ std X Y ↔ (0 ≤ c.x ∧ c.x < X) ∧ 0 ≤ c.y ∧ c.y < Y := by
  unfold std
  simp only [List.mem_flatMap, List.mem_map, List.mem_range]
  constructor
  · rintro ⟨y, hy, x, hx, rfl⟩
    simp only
    omega
  · rintro ⟨⟨h1, h2⟩, h3, h4⟩
    refine ⟨c.y.toNat, by omega, c.x.toNat, by omega, ?_⟩
    cases c
    simp only [Cl.mk.injEq]
    simp only at h1 h3
    omega
theorem std_length (X Y : Nat) : (std X Y).length = X * Y := by
  unfold std
  induction Y with
  | zero => rfl
  | succ Y ih =>
    rw [List.range_succ, List.flatMap_append, List.length_append, ih, Nat.mul_succ]
    simp
theorem corn_in {l : List Cl} (h : Shape l) {c : Cl} (hc : c ∈ cornL l) : (0 ≤ c.x ∧ c.x < sizeX l) ∧ 0 ≤ c.y ∧ c.y < sizeY l := by
  have h1 := cornL_in h hc
  have hS : cornS l = cornL l := cornS_yes h
  unfold sizeX sizeY
  rw [hS]
  obtain ⟨i, hi, rfl⟩ := List.mem_iff_getElem.1 hc
  have h2 := maxTo_ge (f := Cl.x) (l := cornL l) _ (Nat.le_refl _) i hi hi
  have h3 := maxTo_ge (f := Cl.y) (l := cornL l) _ (Nat.le_refl _) i hi hi
  omega
/-- A rectangle of cells has all cells between its sides. -/
theorem rect_full {l : List Cl} (h : isRect l = true) : Shape l ∧ cornL l = std (sizeX l).toNat (sizeY l).toNat := by
  unfold isRect at h
  rw [Bool.and_eq_true] at h
  have hs := of_decide_eq_true h.1
  have he := of_decide_eq_true h.2
  refine ⟨hs, ?_⟩
  have hb := size_bd l
  obtain ⟨X, hX⟩ := Int.eq_ofNat_of_zero_le hb.1.1
  obtain ⟨Y, hY⟩ := Int.eq_ofNat_of_zero_le hb.2.1
  have hin : ∀ c ∈ cornL l, c ∈ std X Y := fun c hc => by
    have := corn_in hs hc
    rw [mem_std, ← hX, ← hY]
    exact this
  rw [hX, hY, Int.toNat_natCast, Int.toNat_natCast]
  have hlen : (std X Y).length ≤ (cornL l).length := by
    rw [std_length, cornL_length]
    rw [hX, hY] at he
    have : ((X * Y : Nat) : Int) = (l.length : Int) := by rw [← he]; norm_cast
    omega
  have hasc := asc_cornL hs.1.1
  have hcov := nodup_cover _ _ (asc_nodup wholeC hasc) hin hlen
  refine ascG_ext wholeC hasc ?_ (fun c => ⟨hin c, hcov c⟩)
  have h8 : X * Y ≤ 8 := by
    have := hs.2.2
    have e : ((X * Y : Nat) : Int) = (l.length : Int) := by rw [← he, hX, hY]; norm_cast
    omega
  have hall : ∀ X, X < 9 → ∀ Y, Y < 9 → X * Y ≤ 8 → (std X Y).Pairwise (fun a b => ltC a b = true) := by decide +kernel
  exact hall X (by omega) Y (by omega) h8
theorem bal_shift (a b : Int) : ∀ l : List Cl, balL (shift l a b) = (if (a + b) % 2 = 0 then balL l else -balL l)
  | [] => by simp [shift, balL]
  | c :: l => by
    have ih := bal_shift a b l
    unfold shift at ih ⊢
    rw [List.map_cons, bal_cons, bal_cons, ih]
    unfold signC shiftC
    simp only
    split <;> split <;> split <;> omega
/-- A rectangle's balance is at most one. -/
theorem bal_rect {l : List Cl} (h : isRect l = true) : -1 ≤ balL l ∧ balL l ≤ 1 := by
  obtain ⟨hs, e⟩ := rect_full h
  have hb := size_bd l
  obtain ⟨X, hX⟩ := Int.eq_ofNat_of_zero_le hb.1.1
  obtain ⟨Y, hY⟩ := Int.eq_ofNat_of_zero_le hb.2.1
  rw [hX, hY, Int.toNat_natCast, Int.toNat_natCast] at e
  have hlen : X * Y ≤ 8 := by
    rw [← std_length, ← e, cornL_length]
    exact hs.2.2
  have hall : ∀ X, X < 9 → ∀ Y, Y < 9 → X * Y ≤ 8 → -1 ≤ balL (std X Y) ∧ balL (std X Y) ≤ 1 := by decide +kernel
  have h1 := hall X (by omega) Y (by omega) hlen
  rw [← e] at h1
  unfold cornL at h1
  rw [bal_shift] at h1
  split at h1 <;> omega
theorem bal_law (l : List Cl) (h : isRect l = true) : -1 ≤ balR l ∧ balR l ≤ 1 := by
  unfold balR
  rw [if_pos (rect_full h).1]
  exact bal_rect h
theorem carry_zero (c : Cl) : carryC 0 c = c := by simp [carryC, rotN, flipC]
theorem tcorn_zero {l : List Cl} (h : Shape l) : tcorn l 0 = cornL l := by
  unfold tcorn turnL
  rw [show l.map (carryC 0) = l by rw [List.map_congr_left (g := id) (fun c _ => carry_zero c), List.map_id], putAllG_self wholeC h.1.1]
theorem trR_rect (l : List Cl) {W H : Nat} (hW : 1 ≤ W ∧ W ≤ 6) (hH : 1 ≤ H ∧ H ≤ 6) : trR l (W : Int) (H : Int) = someT (regF (W : Int) (rect W H) [l]) := by
  have hok : RcOk W H := ⟨⟨by omega, by omega⟩, by omega, by omega⟩
  unfold trR
  rw [decide_eq_true hok, Bool.true_and, show rcB W H = (W : Int) from if_pos hok, show rcR W H = rect W H by unfold rcR rect; rw [if_pos hok, Int.toNat_natCast, Int.toNat_natCast]]
theorem trR_no (l : List Cl) {x y : Int} (h : ¬ RcOk x y) : trR l x y = false := by unfold trR; rw [decide_eq_false h]; rfl
/-- A shape tiles a rectangle exactly if it tiles the one turned over. -/
theorem trR_swap (l : List Cl) (x y : Int) : trR l x y = trR l y x := by
  by_cases h : RcOk x y
  · obtain ⟨⟨h1, h2⟩, h3, h4⟩ := h
    obtain ⟨W, rfl⟩ := Int.eq_ofNat_of_zero_le (show 0 ≤ x by omega)
    obtain ⟨H, rfl⟩ := Int.eq_ofNat_of_zero_le (show 0 ≤ y by omega)
    rw [trR_rect l (by omega) (by omega), trR_rect l (by omega) (by omega)]
    exact regF_swap (by omega) (by omega) [l]
  · rw [trR_no l h, trR_no l (fun q => h ⟨q.2, q.1⟩)]
theorem isRect_tiles {l : List Cl} (h : isRect l = true) {X Y : Nat} (hX : sizeX l = X) (hY : sizeY l = Y) (hX6 : X ≤ 6) (hY6 : Y ≤ 6) : (1 ≤ X ∧ 1 ≤ Y) ∧ trR l (X : Int) (Y : Int) = true := by
  obtain ⟨hs, e⟩ := rect_full h
  rw [hX, hY, Int.toNat_natCast, Int.toNat_natCast] at e
  have hpos : 0 < X * Y := by rw [← std_length, ← e, cornL_length]; exact hs.2.1
  have hX1 : 1 ≤ X := Nat.pos_of_ne_zero fun q => by rw [q, Nat.zero_mul] at hpos; cases hpos
  have hY1 : 1 ≤ Y := Nat.pos_of_ne_zero fun q => by rw [q, Nat.mul_zero] at hpos; cases hpos
  refine ⟨⟨hX1, hY1⟩, ?_⟩
  rw [trR_rect l ⟨hX1, hX6⟩ ⟨hY1, hY6⟩, regF_dc ⟨hX1, hX6⟩ ⟨hY1, hY6⟩ (pcs_one.2 hs)]
  have ht0 : cornL l ∈ orientL l := by
    unfold orientL
    rw [if_pos hs, ← tcorn_zero hs]
    exact orientTo_mem (by decide)
  have hsh : Shape (cornL l) := orientL_shape ht0
  obtain ⟨m, hm⟩ := moc_rect (W := X) (H := Y) (x := 0) (y := 0) hsh (fun c hc => by
    rw [e, mem_std] at hc
    omega)
  obtain ⟨_, h2⟩ := mocS_bits _ _ _ hm
  refine ⟨[(m : Int)], fun v hv => ?_, List.pairwise_singleton _ _, fun i => ?_⟩
  · rw [List.mem_singleton.1 hv]
    exact mem_allL.2 ⟨l, List.mem_singleton.2 rfl, _, ht0, 0, by rw [rect_length]; omega, 0, by omega, m, hm, rfl⟩
  · rw [rect_bit hX6 hY6]
    constructor
    · intro hi
      refine ⟨(m : Int), List.mem_singleton.2 rfl, ?_⟩
      rw [Int.toNat_natCast, h2 i]
      right
      have h3 := Nat.div_lt_of_lt_mul hi
      have h4 := Nat.mod_lt i (show 0 < X by omega)
      have h5 := Nat.div_add_mod i X
      rw [Nat.mul_comm] at h5
      generalize i / X = q at h3 h5
      generalize i % X = r at h4 h5
      refine ⟨_, List.mem_map.2 ⟨⟨(r : Int), (q : Int)⟩, ?_, rfl⟩, ?_⟩
      · rw [e, mem_std]
        exact ⟨⟨Int.natCast_nonneg _, Int.ofNat_lt.2 h4⟩, Int.natCast_nonneg _, Int.ofNat_lt.2 h3⟩
      · unfold pbit
        have e1 : ((r : Int) + ((0 : Nat) : Int)).toNat = r := by omega
        have e2 : ((q : Int) + ((0 : Nat) : Int)).toNat = q := by omega
        simp only [e1, e2]
        exact h5.symm
    · rintro ⟨v, hv, hb⟩
      rw [List.mem_singleton.1 hv, Int.toNat_natCast, h2 i] at hb
      rcases hb with hb | ⟨c, hc, rfl⟩
      · rw [Nat.zero_testBit] at hb; cases hb
      · rw [List.mem_map] at hc
        obtain ⟨d, hd, rfl⟩ := hc
        rw [e, mem_std] at hd
        unfold pbit
        exact grid_lt (by simp only; omega) (by simp only; omega)
theorem size_far {l : List Cl} (hs : Shape l) (h : 6 ≤ sizeX l ∨ 6 ≤ sizeY l) : ∃ d ∈ l, ∃ e ∈ l, 5 ≤ d.x - e.x ∨ 5 ≤ d.y - e.y := by
  have hS : cornS l = cornL l := cornS_yes hs
  unfold sizeX sizeY at h
  rw [hS] at h
  rcases h with h | h
  · by_cases hc : ∀ c ∈ cornL l, Cl.x c + 1 ≤ 5
    · have := (maxTo_bd (f := Cl.x) (by decide : (0 : Int) ≤ 5) hc _ (Nat.le_refl _)).2
      omega
    · obtain ⟨c, hc⟩ := Classical.not_forall.1 hc
      obtain ⟨hc1, hc2⟩ := Classical.not_imp.1 hc
      obtain ⟨d, hd, rfl⟩ := corn_mem hc1
      obtain ⟨e, he, e1⟩ := minTo_mem (f := Cl.x) (l := l) _ hs.2.1 (Nat.le_refl _)
      rw [e1] at hc2
      exact ⟨d, hd, e, he, Or.inl (by simp only at hc2; omega)⟩
  · by_cases hc : ∀ c ∈ cornL l, Cl.y c + 1 ≤ 5
    · have := (maxTo_bd (f := Cl.y) (by decide : (0 : Int) ≤ 5) hc _ (Nat.le_refl _)).2
      omega
    · obtain ⟨c, hc⟩ := Classical.not_forall.1 hc
      obtain ⟨hc1, hc2⟩ := Classical.not_imp.1 hc
      obtain ⟨d, hd, rfl⟩ := corn_mem hc1
      obtain ⟨e, he, e1⟩ := minTo_mem (f := Cl.y) (l := l) _ hs.2.1 (Nat.le_refl _)
      rw [e1] at hc2
      exact ⟨d, hd, e, he, Or.inr (by simp only at hc2; omega)⟩
/-- A long shape tiles no rectangle with sides up to five. -/
theorem long_none {l : List Cl} (hs : Shape l) (h : 6 ≤ sizeX l ∨ 6 ≤ sizeY l) {a b : Nat} (ha : 1 ≤ a ∧ a ≤ 5) (hb : 1 ≤ b ∧ b ≤ 5) : trR l (a : Int) (b : Int) = false := by
  rw [Bool.eq_false_iff]
  intro ht
  rw [trR_rect l ⟨ha.1, by omega⟩ ⟨hb.1, by omega⟩, regF_dc ⟨ha.1, by omega⟩ ⟨hb.1, by omega⟩ (pcs_one.2 hs)] at ht
  obtain ⟨L, h1, _, h3⟩ := ht
  obtain ⟨v, hv, _⟩ := (h3 0).1 ((rect_bit (by omega) (by omega) 0).2 (Nat.mul_pos (by omega) (by omega)))
  obtain ⟨s, hs1, t, htm, y, hy, x, hx, m, hm, _⟩ := mem_allL.1 (h1 v hv)
  rw [List.mem_singleton.1 hs1] at htm
  obtain ⟨hin, _⟩ := mocS_bits _ _ _ hm
  unfold orientL at htm
  rw [if_pos hs] at htm
  obtain ⟨k, hk, rfl⟩ := mem_orientTo htm
  obtain ⟨d, hd, e, he, hde⟩ := size_far hs h
  have hsh := shape_tcorn hs hk
  have q1 := (mem_tcorn hs.2.1 (m := k) _).2 ⟨d, hd, rfl⟩
  have q2 := (mem_tcorn hs.2.1 (m := k) _).2 ⟨e, he, rfl⟩
  have r1 := inR_rect.1 (hin _ (List.mem_map.2 ⟨_, q1, rfl⟩))
  have r2 := inR_rect.1 (hin _ (List.mem_map.2 ⟨_, q2, rfl⟩))
  have o1 := hsh.1.2 _ q1
  have o2 := hsh.1.2 _ q2
  unfold OnB at o1 o2
  obtain ⟨sx, sy, e1, e2, e3⟩ := carry_coords k hk
  simp only at r1 r2 o1 o2
  generalize minTo Cl.x (turnL l k) (turnL l k).length = mx at *
  generalize minTo Cl.y (turnL l k) (turnL l k).length = my at *
  rcases e3 with e3 | e3 <;> rw [e3 d] at r1 o1 <;> rw [e3 e] at r2 o2 <;> simp only at r1 r2 o1 o2 <;> rcases e1 with rfl | rfl <;> rcases e2 with rfl | rfl <;> omega
/-- Where a rectangle of cells tiles a rectangle, the least is no greater than itself. -/
theorem smR_isRect {l : List Cl} (h : isRect l = true) (hr : 0 < (rectL l).length) : (smR l).1 * (smR l).2 ≤ l.length := by
  obtain ⟨hs, e⟩ := rect_full h
  have hb := size_bd l
  obtain ⟨X, hX⟩ := Int.eq_ofNat_of_zero_le hb.1.1
  obtain ⟨Y, hY⟩ := Int.eq_ofNat_of_zero_le hb.2.1
  rw [hX, hY, Int.toNat_natCast, Int.toNat_natCast] at e
  have hXY : X * Y = l.length := by rw [← std_length, ← e, cornL_length]
  by_cases h5 : X ≤ 5 ∧ Y ≤ 5
  · obtain ⟨⟨h1, h2⟩, h3⟩ := isRect_tiles h hX hY (by omega) (by omega)
    have key : ∀ a b : Nat, a ≤ b → 1 ≤ a → b ≤ 5 → trR l (a : Int) (b : Int) = true → (smR l).1 * (smR l).2 ≤ a * b := by
      intro a b hab ha hb2 ht
      have hm : (a, b) ∈ rectL l := rtTo_mem.2 ⟨ha, by show a ≤ 5; omega, hab, by show 1 ≤ b; omega, hb2, ht⟩
      have h4 := (leastL_spec hr).2 _ hm
      unfold betterP at h4
      rw [Bool.or_eq_false_iff] at h4
      have h5 := of_decide_eq_false h4.1
      exact Nat.le_of_not_lt h5
    rw [← hXY]
    rcases Nat.le_total X Y with q | q
    · exact key X Y q h1 h5.2 h3
    · rw [Nat.mul_comm X Y]
      exact key Y X q h2 h5.1 (by rw [trR_swap]; exact h3)
  · cases hr2 : rectL l with
    | nil => rw [hr2] at hr; cases hr
    | cons p ps =>
      have hp : p ∈ rectL l := by rw [hr2]; simp
      have hm := rtTo_mem.1 hp
      have h6 : trR l (p.1 : Int) (p.2 : Int) = true := hm.2.2.2.2.2
      rw [long_none hs (by omega) ⟨hm.1, hm.2.1⟩ ⟨hm.2.2.2.1, hm.2.2.2.2.1⟩] at h6
      cases h6
/-- What the law says of the rectangles that a shape tiles. -/
theorem rect_law {l : List Cl} (hr : 0 < (rectL l).length) : RcOk ((smR l).1 : Int) ((smR l).2 : Int) ∧ someT (regF (rcB ((smR l).1 : Int) ((smR l).2 : Int)) (rcR ((smR l).1 : Int) ((smR l).2 : Int)) [l]) = true ∧
    (∃ n : Nat, roR l = (n : Int) ∧ n * l.length = (smR l).1 * (smR l).2) ∧ (isRect l = true → (smR l).1 * (smR l).2 ≤ l.length) ∧
    ∀ p ∈ rectL l, (smR l).1 * (smR l).2 ≤ p.1 * p.2 ∧ trR l (p.2 : Int) (p.1 : Int) = true := by
  obtain ⟨h1, h2⟩ := leastL_spec hr
  have hm := rtTo_mem.1 h1
  have ht : trR l ((smR l).1 : Int) ((smR l).2 : Int) = true := hm.2.2.2.2.2
  have ht2 := ht
  unfold trR at ht2
  rw [Bool.and_eq_true] at ht2
  refine ⟨of_decide_eq_true ht2.1, ht2.2, ⟨(smR l).1 * (smR l).2 / l.length, if_pos hr, ?_⟩, fun h => smR_isRect h hr, fun p hp => ⟨?_, ?_⟩⟩
  · have h3 := trR_div ⟨hm.1, Nat.le_trans hm.2.1 (by decide)⟩ ⟨hm.2.2.2.1, Nat.le_trans hm.2.2.2.2.1 (by decide)⟩ ht
    exact Nat.div_mul_cancel (Nat.dvd_of_mod_eq_zero h3)
  · have h4 := h2 p hp
    unfold betterP at h4
    rw [Bool.or_eq_false_iff] at h4
    exact Nat.le_of_not_lt (of_decide_eq_false h4.1)
  · rw [trR_swap]
    exact (rtTo_mem.1 hp).2.2.2.2.2
end Go.Proofs.YtajmdgcnnipdoaaGreatDoor
