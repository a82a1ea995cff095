/- WGrid2: useful tiles of a period, expanded fills, the row graph's length, turned tiles; plain. -/
import Derived.Test.YtdnklmdmafbogaaDoorWGrid
import Derived.Test.YtdnklmdmafbogaaDoorExpand
import Derived.Test.YtdnklmdmafbogaaDoorUsefulA
import Derived.Test.YtdnklmdmafbogaaDoorCount
namespace Go.Proofs.YtdnklmdmafbogaaDoor
open Go.RowKit

/-- A period's tiles are useful. -/
theorem use_keep {ts : List Tile} {S C : List Nat} (hS : ∀ i ∈ S, useB ts S i = true) (hC : ∀ i ∈ S, i ∈ C) : ∀ i ∈ S, i ∈ useStep ts C := by
  intro i hi
  unfold useStep
  rw [List.mem_filter]
  refine ⟨hC i hi, ?_⟩
  have h := hS i hi
  unfold useB at h ⊢
  simp only [Bool.and_eq_true, List.any_eq_true, decide_eq_true_eq] at h ⊢
  obtain ⟨⟨⟨⟨a, a1, a2⟩, ⟨b, b1, b2⟩⟩, ⟨c, c1, c2⟩⟩, ⟨d, d1, d2⟩⟩ := h
  exact ⟨⟨⟨⟨a, hC a a1, a2⟩, ⟨b, hC b b1, b2⟩⟩, ⟨c, hC c c1, c2⟩⟩, ⟨d, hC d d1, d2⟩⟩
theorem use_iter {ts : List Tile} {S : List Nat} (hS : ∀ i ∈ S, useB ts S i = true) : ∀ (n : Nat) (C : List Nat), (∀ i ∈ S, i ∈ C) → ∀ i ∈ S, i ∈ useIter ts n C
  | 0, _, h => h
  | n + 1, _, h => use_iter hS n _ (use_keep hS h)
theorem Loop.use {ts : List Tile} {w h : Nat} {G : Nat → Nat → Nat} (hG : Loop ts w h G) (hw : 0 < w) (hh : 0 < h) : ∀ i ∈ gridL w h G, useB ts (gridL w h G) i = true := by
  intro i hi
  have mem : ∀ x y, G (x % w) (y % h) ∈ gridL w h G := fun x y => by
    unfold gridL
    rw [List.mem_map]
    refine ⟨y % h * w + x % w, List.mem_range.2 (cell_lt (Nat.mod_lt _ hw) (Nat.mod_lt _ hh)), ?_⟩
    obtain ⟨e1, e2⟩ := cell_mod (y := y % h) (Nat.mod_lt x hw)
    rw [e1, e2]
  obtain ⟨x, y, rfl⟩ : ∃ x y, i = G ((x + 1) % w) ((y + 1) % h) := by
    unfold gridL at hi
    rw [List.mem_map] at hi
    obtain ⟨k, hk, rfl⟩ := hi
    obtain ⟨h1, h2⟩ := row_lt (List.mem_range.1 hk)
    refine ⟨k % w + (w - 1), k / w + (h - 1), ?_⟩
    rw [show k % w + (w - 1) + 1 = k % w + w from by omega, show k / w + (h - 1) + 1 = k / w + h from by omega, Nat.add_mod_right, Nat.add_mod_right, Nat.mod_mod, Nat.mod_eq_of_lt h2]
  unfold useB
  simp only [Bool.and_eq_true, List.any_eq_true, decide_eq_true_eq]
  refine ⟨⟨⟨⟨_, mem (x + 1) y, hG.down hw hh (x + 1) y⟩, ⟨_, mem (x + 1 + 1) (y + 1), (hG.side hw hh (x + 1) (y + 1)).symm⟩⟩, ⟨_, mem (x + 1) (y + 1 + 1), (hG.down hw hh (x + 1) (y + 1)).symm⟩⟩, ⟨_, mem x (y + 1), hG.side hw hh x (y + 1)⟩⟩
theorem PerRes.useful {ts : List Tile} {x : List Nat} {a h : Int} (q : PerRes ts x a h true) : ∀ i ∈ x, i ∈ useful ts := by
  obtain ⟨A, H, rfl, rfl, hA, hH, hW, hl, hx⟩ := q.loopG
  have hf := grid_full hl.grid
  rw [← hx] at hf
  have hu := hl.use (by omega) (by omega)
  rw [← hx] at hu
  unfold Go.Proofs.YtdnklmdmafbogaaDoor.useful useStart
  rw [if_pos hW]
  refine use_iter hu _ _ fun i hi => ?_
  rw [List.mem_range]
  obtain ⟨k, hk, rfl⟩ := List.mem_iff_getElem.1 hi
  have := hf.2.1 k hk
  unfold At at this
  rw [List.getD_eq_getElem?_getD, List.getElem?_eq_getElem hk] at this
  exact this

/-- A fill that is given as numbers. -/
theorem isFill_full {ts : List Tile} {a b : Int} {xs : List Int} (h : IsFill ts a b xs) : ∃ A B : Nat, a = (A : Int) ∧ b = (B : Int) ∧ (1 ≤ A ∧ A ≤ 4) ∧ (1 ≤ B ∧ B ≤ 4) ∧ Wangs ts ∧ ∃ f, xs = nats f ∧ Full ts A (A * B) f := by
  obtain ⟨e, hin⟩ := h.nats
  obtain ⟨hW, ⟨⟨a1, a2⟩, b1, b2⟩, hl, hf⟩ := h
  obtain ⟨A, rfl⟩ : ∃ A : Nat, a = (A : Int) := ⟨a.toNat, by omega⟩
  obtain ⟨B, rfl⟩ : ∃ B : Nat, b = (B : Int) := ⟨b.toNat, by omega⟩
  refine ⟨A, B, rfl, rfl, ⟨by omega, by omega⟩, ⟨by omega, by omega⟩, hW, xs.map Int.toNat, e, ?_, hin, fun i hi => ?_⟩
  · rw [List.length_map]
    have : ((A * B : Nat) : Int) = (A : Int) * (B : Int) := by norm_cast
    omega
  · rw [List.length_map] at hi
    have h2 := (hf i hi).2
    rw [Int.toNat_natCast] at h2
    have e1 : (Xa xs i).toNat = At (xs.map Int.toNat) i := by
      unfold Xa At
      rw [List.getD_eq_getElem?_getD, List.getD_eq_getElem?_getD, List.getElem?_map, List.getElem?_eq_getElem hi]
      rfl
    rw [List.map_take, e1] at h2
    exact h2
theorem IsPer.loop {ts : List Tile} {a b : Int} {xs : List Int} (h : IsPer ts a b xs) : ∃ A B : Nat, a = (A : Int) ∧ b = (B : Int) ∧ (1 ≤ A ∧ A ≤ 4) ∧ (1 ≤ B ∧ B ≤ 4) ∧ Wangs ts ∧ ∃ f, xs = nats f ∧ Full ts A (A * B) f ∧ Loop ts A B (gridOf A f) := by
  obtain ⟨A, B, rfl, rfl, hA, hB, hW, f, rfl, hf⟩ := isFill_full h.1
  have hc := h.2
  rw [nats_back, Int.toNat_natCast, Int.toNat_natCast] at hc
  exact ⟨A, B, rfl, rfl, hA, hB, hW, f, rfl, hf, loop_of hA.1 hf hc⟩
theorem Loop.isPer {ts : List Tile} {A B : Nat} {G : Nat → Nat → Nat} (hW : Wangs ts) (hA : 1 ≤ A ∧ A ≤ 4) (hB : 1 ≤ B ∧ B ≤ 4) (hG : Loop ts A B G) : IsPer ts A B (nats (gridL A B G)) := by
  obtain ⟨h1, h2, h3⟩ := grid_full hG.grid
  refine ⟨h3.fill hW hA hB h1 h2, ?_⟩
  rw [nats_back, Int.toNat_natCast, Int.toNat_natCast]
  exact loop_closes hA.1 hB.1 hG
/-- What an expanded fill is. -/
theorem expand_per {ts : List Tile} {a b k : Int} {xs : List Int} (h : ExOk ts a b xs k) : IsPer ts (a * k) (b * k) (expand ts a b xs k) ∧ 1 ≤ a * k ∧ 1 ≤ b * k := by
  have hE := h
  obtain ⟨hp, ⟨k1, k2⟩, ha4, hb4⟩ := h
  obtain ⟨A, B, rfl, rfl, hA, hB, hW, f, rfl, hf, hl⟩ := hp.loop
  obtain ⟨K, rfl⟩ : ∃ K : Nat, k = (K : Int) := ⟨k.toNat, by omega⟩
  have eA : (A : Int) * (K : Int) = ((A * K : Nat) : Int) := by norm_cast
  have eB : (B : Int) * (K : Int) = ((B * K : Nat) : Int) := by norm_cast
  have pA : 0 < A * K := Nat.mul_pos (by omega) (by omega)
  have pB : 0 < B * K := Nat.mul_pos (by omega) (by omega)
  have hr := hl.rep (by omega) (by omega) (k := K) (by omega)
  have hx : expand ts A B (nats f) K = nats (gridL (A * K) (B * K) fun x y => gridOf A f (x % A) (y % B)) := by
    unfold expand
    rw [if_pos hE, Int.toNat_natCast, Int.toNat_natCast, Int.toNat_natCast, Nat.mul_comm (B * K) (A * K)]
    unfold exI gridL nats
    rw [List.map_map]
    refine List.map_congr_left fun i hi => ?_
    obtain ⟨h1, h2⟩ := row_lt (List.mem_range.1 hi)
    have hlt : (i / (A * K)) % B * A + (i % (A * K)) % A < f.length := by
      rw [hf.1]
      exact cell_lt (Nat.mod_lt _ (by omega)) (Nat.mod_lt _ (by omega))
    show Xa (f.map fun i : Nat => (i : Int)) _ = ((At f _ : Nat) : Int)
    unfold Xa At
    rw [List.getD_eq_getElem?_getD, List.getD_eq_getElem?_getD, List.getElem?_map, List.getElem?_eq_getElem hlt]
    rfl
  rw [hx, eA, eB]
  rw [eA] at ha4
  rw [eB] at hb4
  exact ⟨Loop.isPer hW ⟨pA, by omega⟩ ⟨pB, by omega⟩ hr, by omega, by omega⟩

/-- The first fill is one. -/
theorem find_fill {ts : List Tile} {a b : Int} (h : hasFill ts a b = true) : IsFill ts a b (nats (findFill ts a b)) := by
  unfold hasFill at h
  unfold findFill
  split at h
  · rename_i q
    rw [if_pos q]
    obtain ⟨hW, ⟨a1, a2⟩, b1, b2⟩ := q
    obtain ⟨A, rfl⟩ : ∃ A : Nat, a = (A : Int) := ⟨a.toNat, by omega⟩
    obtain ⟨B, rfl⟩ : ∃ B : Nat, b = (B : Int) := ⟨b.toNat, by omega⟩
    rw [Int.toNat_natCast, Int.toNat_natCast] at h ⊢
    cases hF : fillsF ts A (A * B) [] with
    | nil => rw [hF] at h; cases h
    | cons g Fs =>
      have hg : g ∈ fillsF ts A (A * B) [] := by rw [hF]; simp
      obtain ⟨h1, h2, h3⟩ := (mem_full _ _ _ _).1 hg
      exact h3.fill hW ⟨by omega, by omega⟩ ⟨by omega, by omega⟩ h1 h2
  · cases h
/-- The count is above zero just where there is a fill. -/
theorem count_has (ts : List Tile) (a b : Int) : decide (0 < countFills ts a b) = hasFill ts a b := by
  unfold countFills hasFill
  split
  · cases fillsF ts a.toNat (a.toNat * b.toNat) [] with
    | nil => rfl
    | cons g Fs =>
      refine decide_eq_true ?_
      rw [List.length_cons]
      omega
  · rfl
end Go.Proofs.YtdnklmdmafbogaaDoor
