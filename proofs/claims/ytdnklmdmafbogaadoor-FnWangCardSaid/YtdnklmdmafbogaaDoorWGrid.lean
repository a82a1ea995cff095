/- WGrid: fills of a grid as functions of column and row; sub-grids, repeated grids, turned grids; plain. -/
import Derived.Test.YtdnklmdmafbogaaDoorFindP
import Derived.Test.YtdnklmdmafbogaaDoorLargest
import Derived.Test.YtdnklmdmafbogaaDoorUseful0
import Derived.Test.YtdnklmdmafbogaaDoorTurn
namespace Go.Proofs.YtdnklmdmafbogaaDoor
open Go.RowKit

/-- A list of tiles that may stand in a grid w wide, one after the other. -/
def Full (ts : List Tile) (w n : Nat) (g : List Nat) : Prop := g.length = n ∧ InR ts g ∧ GoodF ts w g

theorem At_tk {g : List Nat} {i k : Nat} (h : i < k) : At (g.take k) i = At g i := by
  unfold At
  rw [List.getD_eq_getElem?_getD, List.getD_eq_getElem?_getD, List.getElem?_take, if_pos h]
theorem At_app {f : List Nat} {k : Nat} : At (f ++ [k]) f.length = k := by unfold At; simp
theorem At_left {f h : List Nat} {i : Nat} (hi : i < f.length) : At (f ++ h) i = At f i := by
  unfold At; simp [List.getElem?_append_left hi]
theorem mem_fillsF (ts : List Tile) (w : Nat) : ∀ (n : Nat) (f g : List Nat), g ∈ fillsF ts w n f ↔ g.length = f.length + n ∧ g.take f.length = f ∧ ∀ i, f.length ≤ i → i < g.length → At g i < ts.length ∧ fitsB ts w (g.take i) (At g i) = true := by
  intro n
  induction n with
  | zero =>
    intro f g
    simp only [fillsF, List.mem_singleton]
    constructor
    · rintro rfl
      exact ⟨rfl, by simp, fun i h1 h2 => by omega⟩
    · rintro ⟨h1, h2, _⟩
      rw [← h2, List.take_of_length_le (by omega)]
  | succ n ih =>
    intro f g
    simp only [fillsF, List.mem_flatMap, List.mem_range]
    constructor
    · rintro ⟨t, ht, hg⟩
      split at hg
      · rename_i hf
        obtain ⟨h1, h2, h3⟩ := (ih _ _).1 hg
        rw [List.length_append, List.length_singleton] at h1 h2 h3
        have hp : g.take f.length = f := by
          have : (g.take (f.length + 1)).take f.length = (f ++ [t]).take f.length := by rw [h2]
          rw [List.take_take, Nat.min_eq_left (by omega), List.take_append_of_le_length (Nat.le_refl _), List.take_length] at this
          exact this
        refine ⟨by omega, hp, fun i hi1 hi2 => ?_⟩
        by_cases e : i = f.length
        · have ha : At g i = t := by
            rw [← At_tk (k := f.length + 1) (by omega), h2, e, At_app]
          rw [ha, e, hp]
          exact ⟨ht, hf⟩
        · exact h3 i (by omega) hi2
      · simp at hg
    · rintro ⟨h1, h2, h3⟩
      have h0 := h3 f.length (Nat.le_refl _) (by omega)
      rw [h2] at h0
      refine ⟨At g f.length, h0.1, ?_⟩
      rw [if_pos h0.2]
      refine (ih _ _).2 ⟨by rw [List.length_append, List.length_singleton]; omega, ?_, fun i hi1 hi2 => ?_⟩
      · rw [List.length_append, List.length_singleton, List.take_succ_eq_append_getElem (by omega), h2]
        unfold At
        rw [List.getD_eq_getElem?_getD, List.getElem?_eq_getElem (by omega), Option.getD_some]
      · rw [List.length_append, List.length_singleton] at hi1
        exact h3 i (by omega) hi2
theorem mem_full (ts : List Tile) (w n : Nat) (g : List Nat) : g ∈ fillsF ts w n [] ↔ Full ts w n g := by
  rw [mem_fillsF]
  simp only [List.length_nil, Nat.zero_add, List.take_zero, Nat.zero_le, true_implies, true_and]
  exact ⟨fun ⟨h1, h2⟩ => ⟨h1, fun i hi => (h2 i hi).1, fun i hi => (h2 i hi).2⟩, fun ⟨h1, h2, h3⟩ => ⟨h1, fun i hi => ⟨h2 i hi, h3 i hi⟩⟩⟩

/-- A grid that meets on its inner sides. -/
structure Grid (ts : List Tile) (w h : Nat) (G : Nat → Nat → Nat) : Prop where
  inr : ∀ x y, x < w → y < h → G x y < ts.length
  side : ∀ x y, x + 1 < w → y < h → (Tl ts (G x y)).r = (Tl ts (G (x + 1) y)).l
  down : ∀ x y, x < w → y + 1 < h → (Tl ts (G x y)).b = (Tl ts (G x (y + 1))).t
def gridL (w h : Nat) (G : Nat → Nat → Nat) : List Nat := (List.range (w * h)).map fun i => G (i % w) (i / w)
theorem gridL_length (w h : Nat) (G : Nat → Nat → Nat) : (gridL w h G).length = w * h := by simp [gridL]
theorem gridL_at {w h : Nat} {G : Nat → Nat → Nat} {i : Nat} (hi : i < w * h) : At (gridL w h G) i = G (i % w) (i / w) := by
  unfold At gridL
  rw [List.getD_eq_getElem?_getD, List.getElem?_map, List.getElem?_range hi]
  rfl
theorem row_lt {w h i : Nat} (hi : i < w * h) : i % w < w ∧ i / w < h := by
  have hw : 0 < w := by
    rcases Nat.eq_zero_or_pos w with e | e
    · rw [e, Nat.zero_mul] at hi; omega
    · exact e
  exact ⟨Nat.mod_lt _ hw, Nat.div_lt_of_lt_mul hi⟩
theorem cell_lt {w h x y : Nat} (hx : x < w) (hy : y < h) : y * w + x < w * h := by
  have : (y + 1) * w ≤ h * w := Nat.mul_le_mul_right _ (by omega)
  rw [Nat.succ_mul] at this
  rw [Nat.mul_comm w h]
  omega
theorem cell_mod {w x y : Nat} (hx : x < w) : (y * w + x) % w = x ∧ (y * w + x) / w = y := by
  have hw : 0 < w := by omega
  rw [Nat.add_comm, Nat.add_mul_mod_self_right, Nat.mod_eq_of_lt hx, Nat.add_mul_div_right _ _ hw, Nat.div_eq_of_lt hx]
  exact ⟨rfl, Nat.zero_add _⟩
theorem gridL_cell {w h x y : Nat} {G : Nat → Nat → Nat} (hx : x < w) (hy : y < h) : At (gridL w h G) (y * w + x) = G x y := by
  rw [gridL_at (cell_lt hx hy), (cell_mod hx).1, (cell_mod hx).2]
theorem fits_iff {ts : List Tile} {w : Nat} {g : List Nat} {i : Nat} (hi : i < g.length) (hw : 0 < w) :
    fitsB ts w (g.take i) (At g i) = true ↔ (i % w = 0 ∨ (Tl ts (At g (i - 1))).r = (Tl ts (At g i)).l) ∧ (i < w ∨ (Tl ts (At g (i - w))).b = (Tl ts (At g i)).t) := by
  unfold fitsB
  have hl : (g.take i).length = i := by rw [List.length_take]; omega
  rw [hl]
  simp only [Bool.and_eq_true, Bool.or_eq_true, decide_eq_true_eq]
  have e1 : i % w = 0 ∨ At (g.take i) (i - 1) = At g (i - 1) := by
    rcases Nat.eq_zero_or_pos i with e | e
    · left; rw [e]; exact Nat.zero_mod _
    · right; exact At_tk (by omega)
  have e2 : i < w ∨ At (g.take i) (i - w) = At g (i - w) := by
    by_cases e : i < w
    · exact .inl e
    · right; exact At_tk (by omega)
  constructor
  · rintro ⟨h1, h2⟩
    refine ⟨?_, ?_⟩
    · rcases e1 with e1 | e1
      · exact .inl e1
      · rw [e1] at h1; exact h1
    · rcases e2 with e2 | e2
      · exact .inl e2
      · rw [e2] at h2; exact h2
  · rintro ⟨h1, h2⟩
    refine ⟨?_, ?_⟩
    · rcases e1 with e1 | e1
      · exact .inl e1
      · rw [e1]; exact h1
    · rcases e2 with e2 | e2
      · exact .inl e2
      · rw [e2]; exact h2
theorem grid_full {ts : List Tile} {w h : Nat} {G : Nat → Nat → Nat} (hG : Grid ts w h G) : Full ts w (w * h) (gridL w h G) := by
  refine ⟨gridL_length _ _ _, fun i hi => ?_, fun i hi => ?_⟩
  · rw [gridL_length] at hi
    rw [gridL_at hi]
    obtain ⟨h1, h2⟩ := row_lt hi
    exact hG.inr _ _ h1 h2
  · have hi' := hi
    rw [gridL_length] at hi'
    obtain ⟨h1, h2⟩ := row_lt hi'
    have hw : 0 < w := by omega
    rw [fits_iff hi hw]
    obtain ⟨x, y, hx, hy, rfl⟩ : ∃ x y, x < w ∧ y < h ∧ i = y * w + x := ⟨i % w, i / w, h1, h2, by rw [Nat.mul_comm]; exact (Nat.div_add_mod i w).symm⟩
    rw [gridL_cell hx hy]
    refine ⟨?_, ?_⟩
    · rcases Nat.eq_zero_or_pos x with e | e
      · left; rw [(cell_mod hx).1]; exact e
      · right
        obtain ⟨x', rfl⟩ : ∃ x', x = x' + 1 := ⟨x - 1, by omega⟩
        rw [show y * w + (x' + 1) - 1 = y * w + x' from by omega, gridL_cell (by omega) hy]
        exact hG.side _ _ hx hy
    · rcases Nat.eq_zero_or_pos y with e | e
      · left; rw [e, Nat.zero_mul, Nat.zero_add]; exact hx
      · right
        obtain ⟨y', rfl⟩ : ∃ y', y = y' + 1 := ⟨y - 1, by omega⟩
        rw [show (y' + 1) * w + x - w = y' * w + x from by rw [Nat.succ_mul]; omega, gridL_cell hx (by omega)]
        exact hG.down _ _ hx hy
def gridOf (w : Nat) (g : List Nat) (x y : Nat) : Nat := At g (y * w + x)
theorem full_grid {ts : List Tile} {w h : Nat} {g : List Nat} (hg : Full ts w (w * h) g) : Grid ts w h (gridOf w g) := by
  obtain ⟨hl, hin, hgood⟩ := hg
  refine ⟨fun x y hx hy => hin _ (by rw [hl]; exact cell_lt hx hy), fun x y hx hy => ?_, fun x y hx hy => ?_⟩
  · have hi : y * w + (x + 1) < g.length := by rw [hl]; exact cell_lt hx hy
    have := (fits_iff hi (by omega)).1 (hgood _ hi)
    rcases this.1 with q | q
    · rw [(cell_mod hx).1] at q; omega
    · exact q
  · have hi : (y + 1) * w + x < g.length := by rw [hl]; exact cell_lt hx hy
    have := (fits_iff hi (by omega)).1 (hgood _ hi)
    rcases this.2 with q | q
    · rw [Nat.succ_mul] at q; omega
    · rw [show (y + 1) * w + x - w = y * w + x from by rw [Nat.succ_mul]; omega] at q
      exact q
theorem At_ext {f g : List Nat} (hl : f.length = g.length) (h : ∀ i, i < f.length → At f i = At g i) : f = g := by
  refine List.ext_getElem hl fun i h1 h2 => ?_
  have := h i h1
  unfold At at this
  rw [List.getD_eq_getElem?_getD, List.getD_eq_getElem?_getD, List.getElem?_eq_getElem h1, List.getElem?_eq_getElem h2] at this
  exact this
theorem grid_back {w h : Nat} {g : List Nat} (hl : g.length = w * h) : gridL w h (gridOf w g) = g := by
  refine At_ext (by rw [gridL_length, hl]) fun i hi => ?_
  rw [gridL_length] at hi
  rw [gridL_at hi]
  unfold gridOf
  rw [Nat.mul_comm, Nat.div_add_mod]

/-- Where a grid can be filled at all. -/
theorem hasFill_iff {ts : List Tile} {w h : Nat} (hW : Wangs ts) (hw : 1 ≤ w ∧ w ≤ 4) (hh : 1 ≤ h ∧ h ≤ 4) : hasFill ts w h = true ↔ ∃ G, Grid ts w h G := by
  unfold hasFill
  rw [if_pos ⟨hW, ⟨by omega, by omega⟩, by omega, by omega⟩, Int.toNat_natCast, Int.toNat_natCast]
  constructor
  · intro hs
    cases hF : fillsF ts w (w * h) [] with
    | nil => rw [hF] at hs; cases hs
    | cons g Fs =>
      have hm : g ∈ fillsF ts w (w * h) [] := by rw [hF]; simp
      exact ⟨_, full_grid ((mem_full _ _ _ _).1 hm)⟩
  · rintro ⟨G, hG⟩
    have hm := (mem_full _ _ _ _).2 (grid_full hG)
    cases hF : fillsF ts w (w * h) [] with
    | nil => rw [hF] at hm; cases hm
    | cons g Fs => rfl
theorem Grid.sub {ts : List Tile} {w h w' h' : Nat} {G : Nat → Nat → Nat} (hG : Grid ts w h G) (hw : w' ≤ w) (hh : h' ≤ h) : Grid ts w' h' G :=
  ⟨fun x y hx hy => hG.inr x y (by omega) (by omega), fun x y hx hy => hG.side x y (by omega) (by omega), fun x y hx hy => hG.down x y (by omega) (by omega)⟩
theorem hasFill_wangs {ts : List Tile} {a b : Int} (h : hasFill ts a b = true) : Wangs ts := by
  unfold hasFill at h
  split at h
  · rename_i q; exact q.1
  · cases h
theorem bestTo_has {ts : List Tile} : ∀ n, 0 < bestTo ts n → hasFill ts (bestTo ts n : Nat) (bestTo ts n : Nat) = true
  | 0, h => by simp [bestTo] at h
  | n + 1, h => by
    rw [bestTo] at h ⊢
    split
    · rename_i q; exact q
    · rename_i q
      rw [if_neg q] at h
      exact bestTo_has n h
/-- Every square up to the largest one can be filled. -/
theorem squares {ts : List Tile} {k : Nat} (h1 : 1 ≤ k) (h2 : k ≤ bestTo ts 4) : hasFill ts k k = true := by
  have h4 := bestTo_le ts 4
  have hs := bestTo_has (ts := ts) 4 (by omega)
  have hW := hasFill_wangs hs
  obtain ⟨G, hG⟩ := (hasFill_iff hW ⟨by omega, h4⟩ ⟨by omega, h4⟩).1 hs
  exact (hasFill_iff hW ⟨h1, by omega⟩ ⟨h1, by omega⟩).2 ⟨G, hG.sub h2 h2⟩

/-- A grid that meets itself over its edges. -/
structure Loop (ts : List Tile) (w h : Nat) (G : Nat → Nat → Nat) : Prop where
  grid : Grid ts w h G
  wrap : ∀ y, y < h → (Tl ts (G (w - 1) y)).r = (Tl ts (G 0 y)).l
  fold : ∀ x, x < w → (Tl ts (G x (h - 1))).b = (Tl ts (G x 0)).t
theorem loop_of {ts : List Tile} {w h : Nat} {g : List Nat} (hw : 1 ≤ w) (hg : Full ts w (w * h) g) (hc : Closes ts w h g) : Loop ts w h (gridOf w g) := by
  refine ⟨full_grid hg, fun y hy => ?_, fun x hx => ?_⟩
  · have := hc.1 y hy
    unfold gridOf
    rw [Nat.add_zero, show y * w + (w - 1) = y * w + w - 1 from by omega]
    exact this
  · have := hc.2 x hx
    unfold gridOf
    rw [Nat.zero_mul, Nat.zero_add]
    exact this
theorem loop_closes {ts : List Tile} {w h : Nat} {G : Nat → Nat → Nat} (hw : 1 ≤ w) (hh : 1 ≤ h) (hG : Loop ts w h G) : Closes ts w h (gridL w h G) := by
  refine ⟨fun y hy => ?_, fun x hx => ?_⟩
  · have h1 := gridL_cell (G := G) (show w - 1 < w by omega) hy
    have h2 := gridL_cell (G := G) (show 0 < w by omega) hy
    rw [show y * w + w - 1 = y * w + (w - 1) from by omega, h1]
    rw [Nat.add_zero] at h2
    rw [h2]
    exact hG.wrap y hy
  · have h1 := gridL_cell (G := G) hx (show h - 1 < h by omega)
    have h2 := gridL_cell (G := G) hx (show 0 < h by omega)
    rw [h1]
    rw [Nat.zero_mul, Nat.zero_add] at h2
    rw [h2]
    exact hG.fold x hx
theorem mod_next {w x : Nat} (hw : 0 < w) : (x % w + 1 < w ∧ (x + 1) % w = x % w + 1) ∨ (x % w = w - 1 ∧ (x + 1) % w = 0) := by
  have hlt := Nat.mod_lt x hw
  have e : (x + 1) % w = (x % w + 1) % w := by rw [Nat.mod_add_mod]
  by_cases h : x % w + 1 < w
  · exact .inl ⟨h, by rw [e, Nat.mod_eq_of_lt h]⟩
  · right
    have h2 : x % w + 1 = w := by omega
    exact ⟨by omega, by rw [e, h2, Nat.mod_self]⟩
/-- Repeated, it fills every grid. -/
theorem Loop.side {ts : List Tile} {w h : Nat} {G : Nat → Nat → Nat} (hG : Loop ts w h G) (hw : 0 < w) (hh : 0 < h) (x y : Nat) : (Tl ts (G (x % w) (y % h))).r = (Tl ts (G ((x + 1) % w) (y % h))).l := by
  have hy := Nat.mod_lt y hh
  rcases mod_next (x := x) hw with ⟨h1, h2⟩ | ⟨h1, h2⟩
  · rw [h2]; exact hG.grid.side _ _ h1 hy
  · rw [h1, h2]; exact hG.wrap _ hy
theorem Loop.down {ts : List Tile} {w h : Nat} {G : Nat → Nat → Nat} (hG : Loop ts w h G) (hw : 0 < w) (hh : 0 < h) (x y : Nat) : (Tl ts (G (x % w) (y % h))).b = (Tl ts (G (x % w) ((y + 1) % h))).t := by
  have hx := Nat.mod_lt x hw
  rcases mod_next (x := y) hh with ⟨h1, h2⟩ | ⟨h1, h2⟩
  · rw [h2]; exact hG.grid.down _ _ hx h1
  · rw [h1, h2]; exact hG.fold _ hx
theorem Loop.all {ts : List Tile} {w h : Nat} {G : Nat → Nat → Nat} (hG : Loop ts w h G) (hw : 0 < w) (hh : 0 < h) (a b : Nat) : Grid ts a b fun x y => G (x % w) (y % h) :=
  ⟨fun _ _ _ _ => hG.grid.inr _ _ (Nat.mod_lt _ hw) (Nat.mod_lt _ hh), fun x y _ _ => hG.side hw hh x y, fun x y _ _ => hG.down hw hh x y⟩
theorem Loop.rep {ts : List Tile} {w h : Nat} {G : Nat → Nat → Nat} (hG : Loop ts w h G) (hw : 0 < w) (hh : 0 < h) {k : Nat} (hk : 0 < k) : Loop ts (w * k) (h * k) fun x y => G (x % w) (y % h) := by
  have m0 : ∀ a : Nat, 0 < a → (a * k - 1 + 1) % a = 0 % a := fun a ha => by
    have : 0 < a * k := Nat.mul_pos ha hk
    rw [show a * k - 1 + 1 = a * k from by omega, Nat.mul_mod_right, Nat.zero_mod]
  refine ⟨hG.all hw hh _ _, fun y _ => ?_, fun x _ => ?_⟩
  · have := hG.side hw hh (w * k - 1) y
    rw [m0 w hw] at this
    exact this
  · have := hG.down hw hh x (h * k - 1)
    rw [m0 h hh] at this
    exact this

/-- A period that was found. -/
theorem PerRes.loop {ts : List Tile} {x : List Nat} {a h : Int} (q : PerRes ts x a h true) :
    ∃ A H : Nat, a = (A : Int) ∧ h = (H : Int) ∧ (1 ≤ A ∧ A ≤ 3) ∧ (1 ≤ H ∧ H ≤ 3) ∧ Wangs ts ∧ Full ts A (A * H) x ∧ Closes ts A H x := by
  rcases q with ⟨i, hi, hW, hq, _, rfl, rfl, rfl, _⟩ | ⟨_, _, _, _, hb⟩
  · unfold perQ perOk at hq
    rw [Bool.and_eq_true, Bool.and_eq_true, decide_eq_true_eq, decide_eq_true_eq] at hq
    obtain ⟨⟨h1, h2⟩, h3⟩ := hq
    obtain ⟨m, hm⟩ : ∃ m, m = i % 3 + 1 := ⟨_, rfl⟩
    obtain ⟨k, hk⟩ : ∃ k, k = i / 3 + 1 := ⟨_, rfl⟩
    rw [← hm, ← hk] at h1 h2 h3 ⊢
    have hm3 : 1 ≤ m ∧ m ≤ 3 := by omega
    have e : m * (k / m) = k := Nat.mul_div_cancel' (Nat.dvd_of_mod_eq_zero h1)
    have hk1 : 1 ≤ k / m := by
      rcases Nat.eq_zero_or_pos (k / m) with z | z
      · rw [z, Nat.mul_zero] at e; omega
      · exact z
    refine ⟨m, k / m, rfl, rfl, hm3, ⟨hk1, h2⟩, hW, ?_⟩
    cases hF : perF ts m (k / m) k [] with
    | nil => rw [hF] at h3; cases h3
    | cons g Fs =>
      have hg : g ∈ perF ts m (k / m) k [] := by rw [hF]; simp
      rw [show firstOf (g :: Fs) = g from rfl]
      unfold perF at hg
      rw [List.mem_filter] at hg
      have hf := (mem_full _ _ _ _).1 hg.1
      rw [e]
      exact ⟨hf, of_decide_eq_true hg.2⟩
  · cases hb
theorem PerRes.loopG {ts : List Tile} {x : List Nat} {a h : Int} (q : PerRes ts x a h true) :
    ∃ A H : Nat, a = (A : Int) ∧ h = (H : Int) ∧ (1 ≤ A ∧ A ≤ 3) ∧ (1 ≤ H ∧ H ≤ 3) ∧ Wangs ts ∧ Loop ts A H (gridOf A x) ∧ x = gridL A H (gridOf A x) := by
  obtain ⟨A, H, h1, h2, h3, h4, hW, hf, hc⟩ := q.loop
  exact ⟨A, H, h1, h2, h3, h4, hW, loop_of h3.1 hf hc, (grid_back hf.1).symm⟩
/-- Where a period was found, the square of four can be filled. -/
theorem PerRes.best {ts : List Tile} {x : List Nat} {a h : Int} (q : PerRes ts x a h true) : bestTo ts 4 = 4 := by
  obtain ⟨A, H, _, _, hA, hH, hW, hl, _⟩ := q.loopG
  exact bestTo_yes (by decide) ((hasFill_iff (w := 4) (h := 4) hW (by decide) (by decide)).2 ⟨_, hl.all (by omega) (by omega) 4 4⟩)
/-- .. and it is periodic. -/
theorem PerRes.isPer {ts : List Tile} {x : List Nat} {a h : Int} (q : PerRes ts x a h true) : IsPer ts a h (nats x) := by
  obtain ⟨A, H, rfl, rfl, hA, hH, hW, ⟨hl, hin, hgd⟩, hc⟩ := q.loop
  refine ⟨hgd.fill hW ⟨hA.1, by omega⟩ ⟨hH.1, by omega⟩ hl hin, ?_⟩
  rw [nats_back, Int.toNat_natCast, Int.toNat_natCast]
  exact hc
end Go.Proofs.YtdnklmdmafbogaaDoor
