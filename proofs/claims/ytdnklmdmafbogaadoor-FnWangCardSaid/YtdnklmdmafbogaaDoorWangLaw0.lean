/- WangLaw0: what FnWang asks: text read back, turned tiles fill turned grids, in equal number; plain. -/
import Derived.Test.YtdnklmdmafbogaaDoorWGrid2
import Derived.Test.YtdnklmdmafbogaaDoorParseP
namespace Go.Proofs.YtdnklmdmafbogaaDoor
open Go.RowKit

theorem spl_fmt {ts : List Tile} (h : Wangs ts) : spl (fmtW ts).data.toList = ts.map fun x => (tileB x).data.toList := by
  rw [fmtW_list h]
  have hl := h.2.1
  cases ts with
  | nil => simp at hl
  | cons t ts =>
    rw [List.map_cons]
    refine spl_of_join _ _ fun p hp b hb => ?_
    rw [← List.map_cons (f := fun x : Tile => (tileB x).data.toList), List.mem_map] at hp
    obtain ⟨x, hx, rfl⟩ := hp
    have hx2 := h.1 x hx
    rw [tileB_list hx2] at hb
    obtain ⟨h1, h2, h3, h4⟩ := hx2
    simp only [List.mem_cons, List.not_mem_nil, or_false] at hb
    rcases hb with rfl | rfl | rfl | rfl
    · exact (col_byte h1).2
    · exact (col_byte h2).2
    · exact (col_byte h3).2
    · exact (col_byte h4).2
theorem tiles_back {ts : List Tile} (h : ∀ x ∈ ts, TileFine x) : (ts.map fun x => (tileB x).data.toList).map tileOf = ts := by
  rw [List.map_map]
  conv => rhs; rw [← List.map_id ts]
  exact List.map_congr_left fun x hx => tileOf_B (h x hx)
/-- The text of tiles reads as tiles just where they are some, and then as these. -/
theorem ok_fmt (ts : List Tile) : okI (fmtW ts).data.toList ↔ Wangs ts := by
  constructor
  · intro h
    by_cases hW : Wangs ts
    · exact hW
    · rw [show fmtW ts = ⟨#[]⟩ from if_neg hW] at h
      have := h.1 [] (by show [] ∈ spl []; simp [spl])
      simp at this
  · intro h
    have hs := spl_fmt h
    refine ⟨fun p hp => ?_, ?_, ?_⟩
    · rw [hs, List.mem_map] at hp
      obtain ⟨x, hx, rfl⟩ := hp
      rw [tileB_list (h.1 x hx)]
      rfl
    · rw [hs, List.length_map]
      exact h.2.2
    · rw [hs, tiles_back h.1]
      exact h
theorem parse_fmt {ts : List Tile} (h : Wangs ts) : parseT (fmtW ts).data.toList = ts := by
  unfold parseT
  rw [if_pos ((ok_fmt ts).2 h), spl_fmt h, tiles_back h.1]
theorem fmtW_small (ts : List Tile) : (fmtW ts).size ≤ 100 := by
  show (fmtW ts).data.size ≤ 100
  rw [← Array.length_toList]
  by_cases h : Wangs ts
  · rw [fmtW_list h]
    have hl := h.2.1
    have h6 := h.2.2
    cases ts with
    | nil => simp at hl
    | cons t ts =>
      rw [List.map_cons]
      have q := join_len4 (tileB t).data.toList (ts.map fun x => (tileB x).data.toList) (fun p hp => by
        rw [← List.map_cons (f := fun x : Tile => (tileB x).data.toList), List.mem_map] at hp
        obtain ⟨x, hx, rfl⟩ := hp
        rw [tileB_list (h.1 x hx)]
        rfl)
      simp only [List.length_cons, List.length_map] at q hl h6
      omega
  · rw [show fmtW ts = ⟨#[]⟩ from if_neg h]
    simp

/-- Turned tiles. -/
theorem Tl_map (ts : List Tile) (i : Nat) : Tl (ts.map Tile.turn) i = (Tl ts i).turn := by
  unfold Tl
  rw [List.getD_eq_getElem?_getD, List.getD_eq_getElem?_getD, List.getElem?_map]
  cases ts[i]? <;> rfl
theorem turned_wangs {ts : List Tile} (h : Wangs ts) : turned ts = ts.map Tile.turn ∧ Wangs (turned ts) := by
  have e : turned ts = ts.map Tile.turn := if_pos h
  refine ⟨e, ?_⟩
  rw [e]
  refine ⟨fun x hx => ?_, by rw [List.length_map]; exact h.2⟩
  obtain ⟨y, hy, rfl⟩ := List.mem_map.1 hx
  obtain ⟨h1, h2, h3, h4⟩ := h.1 y hy
  exact ⟨h4, h1, h2, h3⟩
/-- A grid turned by a quarter. -/
theorem Grid.turn {ts : List Tile} {w h : Nat} {G : Nat → Nat → Nat} (hG : Grid ts w h G) : Grid (ts.map Tile.turn) h w fun x y => G y (h - 1 - x) := by
  refine ⟨fun x y hx hy => ?_, fun x y hx hy => ?_, fun x y hx hy => ?_⟩
  · rw [List.length_map]
    exact hG.inr _ _ hy (by omega)
  · have := hG.down y (h - 1 - (x + 1)) hy (by omega)
    rw [show h - 1 - (x + 1) + 1 = h - 1 - x from by omega] at this
    rw [Tl_map, Tl_map]
    exact this.symm
  · have := hG.side y (h - 1 - x) hy (by omega)
    rw [Tl_map, Tl_map]
    exact this
/-- Turned back. -/
theorem Grid.back {ts : List Tile} {w h : Nat} {G : Nat → Nat → Nat} (hG : Grid (ts.map Tile.turn) h w G) : Grid ts w h fun x y => G (h - 1 - y) x := by
  refine ⟨fun x y hx hy => ?_, fun x y hx hy => ?_, fun x y hx hy => ?_⟩
  · have := hG.inr (h - 1 - y) x (by omega) hx
    rw [List.length_map] at this
    exact this
  · have := hG.down (h - 1 - y) x (by omega) hx
    rw [Tl_map, Tl_map] at this
    exact this
  · have := hG.side (h - 1 - (y + 1)) x (by omega) hx
    rw [show h - 1 - (y + 1) + 1 = h - 1 - y from by omega, Tl_map, Tl_map] at this
    exact this.symm
theorem gridL_ext {w h : Nat} {G H : Nat → Nat → Nat} (e : ∀ x y, x < w → y < h → G x y = H x y) : gridL w h G = gridL w h H := by
  unfold gridL
  refine List.map_congr_left fun i hi => ?_
  obtain ⟨h1, h2⟩ := row_lt (List.mem_range.1 hi)
  exact e _ _ h1 h2
theorem fillsF_nodup (ts : List Tile) (b : Nat) : ∀ (n : Nat) (f : List Nat), (fillsF ts b n f).Nodup := by
  intro n
  induction n with
  | zero => intro f; simp [fillsF]
  | succ n ih =>
    intro f
    have key : ∀ k, (fillsTo ts b n f k).Nodup ∧ ∀ g ∈ fillsTo ts b n f k, ∃ t, t < k ∧ g.take (f.length + 1) = f ++ [t] := by
      intro k
      induction k with
      | zero => exact ⟨List.nodup_nil, fun g hg => by cases hg⟩
      | succ k ihk =>
        by_cases hf : fitsB ts b f k = true
        · rw [fillsTo_yes hf]
          have hpre : ∀ g ∈ fillsF ts b n (f ++ [k]), g.take (f.length + 1) = f ++ [k] := fun g hg => by
            have := ((mem_fillsF ts b n (f ++ [k]) g).1 hg).2.1
            rw [List.length_append, List.length_singleton] at this
            exact this
          refine ⟨List.nodup_append.2 ⟨ihk.1, ih _, fun g hg g' hg' e => ?_⟩, fun g hg => ?_⟩
          · subst e
            obtain ⟨t, ht, h1⟩ := ihk.2 g hg
            have h2 := hpre g hg'
            rw [h1] at h2
            have := List.append_cancel_left h2
            simp at this
            omega
          · rcases List.mem_append.1 hg with hg | hg
            · obtain ⟨t, ht, h1⟩ := ihk.2 g hg
              exact ⟨t, by omega, h1⟩
            · exact ⟨k, by omega, hpre g hg⟩
        · rw [fillsTo_no (by simpa using hf)]
          exact ⟨ihk.1, fun g hg => by obtain ⟨t, ht, h1⟩ := ihk.2 g hg; exact ⟨t, by omega, h1⟩⟩
    have := (key ts.length).1
    rw [fillsTo_all] at this
    exact this
theorem nodup_le {α : Type} [DecidableEq α] : ∀ (A B : List α), A.Nodup → (∀ x ∈ A, x ∈ B) → A.length ≤ B.length
  | [], _, _, _ => Nat.zero_le _
  | a :: A, B, hn, hs => by
    rw [List.nodup_cons] at hn
    have ha := hs a List.mem_cons_self
    have := nodup_le A (B.erase a) hn.2 fun x hx => (List.mem_erase_of_ne (fun e => hn.1 (by rw [← e]; exact hx))).2 (hs x (List.mem_cons_of_mem _ hx))
    rw [List.length_erase_of_mem ha] at this
    have hp := List.length_pos_of_mem ha
    rw [List.length_cons]
    omega
theorem map_nodup {α β : Type} {f : α → β} : ∀ {A : List α}, A.Nodup → (∀ x ∈ A, ∀ y ∈ A, f x = f y → x = y) → (A.map f).Nodup
  | [], _, _ => List.nodup_nil
  | a :: A, hn, hi => by
    rw [List.nodup_cons] at hn
    rw [List.map_cons, List.nodup_cons]
    refine ⟨fun hm => ?_, map_nodup hn.2 fun x hx y hy => hi x (List.mem_cons_of_mem _ hx) y (List.mem_cons_of_mem _ hy)⟩
    obtain ⟨x, hx, e⟩ := List.mem_map.1 hm
    have := hi x (List.mem_cons_of_mem _ hx) a List.mem_cons_self e
    exact hn.1 (by rw [← this]; exact hx)
/-- The fills of the turned tiles' turned grid are as many. -/
theorem turn_le (ts : List Tile) (w h : Nat) : (fillsF ts w (w * h) []).length ≤ (fillsF (ts.map Tile.turn) h (h * w) []).length := by
  have hm : ((fillsF ts w (w * h) []).map fun g => gridL h w fun x y => gridOf w g y (h - 1 - x)).Nodup := by
    refine map_nodup (fillsF_nodup _ _ _ _) fun f hf g hg e => ?_
    have h1 := (mem_full _ _ _ _).1 hf
    have h2 := (mem_full _ _ _ _).1 hg
    rw [← grid_back h1.1, ← grid_back h2.1]
    refine gridL_ext fun x y hx hy => ?_
    have e1 := gridL_cell (w := h) (h := w) (x := h - 1 - y) (y := x) (G := fun x y => gridOf w f y (h - 1 - x)) (by omega) hx
    have e2 := gridL_cell (w := h) (h := w) (x := h - 1 - y) (y := x) (G := fun x y => gridOf w g y (h - 1 - x)) (by omega) hx
    rw [e, e2] at e1
    rw [show h - 1 - (h - 1 - y) = y from by omega] at e1
    exact e1.symm
  have := nodup_le _ (fillsF (ts.map Tile.turn) h (h * w) []) hm fun g hg => by
    obtain ⟨f, hf, rfl⟩ := List.mem_map.1 hg
    exact (mem_full _ _ _ _).2 (grid_full (full_grid ((mem_full _ _ _ _).1 hf)).turn)
  rw [List.length_map] at this
  exact this
theorem turn_ge (ts : List Tile) (w h : Nat) : (fillsF (ts.map Tile.turn) h (h * w) []).length ≤ (fillsF ts w (w * h) []).length := by
  have hm : ((fillsF (ts.map Tile.turn) h (h * w) []).map fun g => gridL w h fun x y => gridOf h g (h - 1 - y) x).Nodup := by
    refine map_nodup (fillsF_nodup _ _ _ _) fun f hf g hg e => ?_
    have h1 := (mem_full _ _ _ _).1 hf
    have h2 := (mem_full _ _ _ _).1 hg
    rw [← grid_back h1.1, ← grid_back h2.1]
    refine gridL_ext fun x y hx hy => ?_
    have e1 := gridL_cell (w := w) (h := h) (x := y) (y := h - 1 - x) (G := fun x y => gridOf h f (h - 1 - y) x) hy (by omega)
    have e2 := gridL_cell (w := w) (h := h) (x := y) (y := h - 1 - x) (G := fun x y => gridOf h g (h - 1 - y) x) hy (by omega)
    rw [e, e2] at e1
    rw [show h - 1 - (h - 1 - x) = x from by omega] at e1
    exact e1.symm
  have := nodup_le _ (fillsF ts w (w * h) []) hm fun g hg => by
    obtain ⟨f, hf, rfl⟩ := List.mem_map.1 hg
    exact (mem_full _ _ _ _).2 (grid_full (full_grid ((mem_full _ _ _ _).1 hf)).back)
  rw [List.length_map] at this
  exact this
theorem turn_count {ts : List Tile} {a b : Int} (hW : Wangs ts) : countFills (turned ts) b a = countFills ts a b := by
  obtain ⟨e, hW2⟩ := turned_wangs hW
  unfold countFills
  by_cases hS : Sides a b
  · have hS2 : Sides b a := ⟨hS.2, hS.1⟩
    rw [if_pos (show Wangs ts ∧ Sides a b from ⟨hW, hS⟩), if_pos (show Wangs (turned ts) ∧ Sides b a from ⟨hW2, hS2⟩), e, Nat.le_antisymm (turn_ge ts a.toNat b.toNat) (turn_le ts a.toNat b.toNat)]
  · rw [if_neg (show ¬ (Wangs ts ∧ Sides a b) from fun q => hS q.2), if_neg (show ¬ (Wangs (turned ts) ∧ Sides b a) from fun q => hS ⟨q.2.2, q.2.1⟩)]
theorem count_pos {ts : List Tile} {a b : Int} (h : 0 ≤ countFills ts a b) : Wangs ts := by
  unfold countFills at h
  split at h
  · rename_i q; exact q.1
  · omega
theorem count_wf (ts : List Tile) (a b : Int) : -1 ≤ countFills ts a b ∧ countFills ts a b ≤ 2000 := by
  unfold countFills
  split
  · exact ⟨by omega, by have := Nat.min_le_left 2000 (fillsF ts a.toNat (a.toNat * b.toNat) []).length; omega⟩
  · omega
end Go.Proofs.YtdnklmdmafbogaaDoor
