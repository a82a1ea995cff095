/- Fits: the walks of the two tests whether a tile fits behind those that are laid. -/
import Derived.Test.YtjklclegkjnegaaFits0
namespace Go.Proofs.Ytjklclegkjnegaa
open Go.RowKit

set_option maxRecDepth 100000 in
set_option maxHeartbeats 1600000 in
theorem l18Fits_any (ad af : Option Addr) (c cf : Nat) (ts : List Tile) (f : List Nat) (b t : Nat) (w : World) (hn : ts.length ≤ 1048576) (hf : f.length ≤ 1048576) (hb : 1 ≤ b ∧ b ≤ 4) (ht : t < ts.length) (hfi : ∀ i, i < f.length → At f i < ts.length)
    (hc : CellsAt w ad (wangs ts)) (hcf : CellsAt w af (ints (nats f))) :
    Calls Try.prog 37 #[.slice ad ts.length c, .int .i64 b, .slice af f.length cf, .int .i64 t] w fun e w' => e = .returned (.bool (fitsB ts b f t)) ∧ ∃ m, w' = w.drewN m := by
  obtain ⟨hb1, hb2⟩ := hb
  obtain ⟨g, off, rfl, hg, hcc⟩ := tl_cells hc (by omega)
  obtain ⟨t0, _, _, t3⟩ := hcc t ht
  have b0 : ¬ b = 0 := by omega
  obtain ⟨T, hT⟩ : ∃ T, T = Tl ts t := ⟨_, rfl⟩
  rw [← hT] at t0 t3
  have HT := Lib.hid hT
  have HFI := Lib.hid hfi
  have HCC := Lib.hid hcc
  have HCF := Lib.hid hcf
  have hlf := nats_length f
  have hli := ints_length (nats f)
  have hmod : ((f.length : Int) % (b : Int)) = ((f.length % b : Nat) : Int) := by norm_cast
  clear hc hcf hcc hfi hT
  obtain ⟨m, hm⟩ : ∃ m, m = f.length % b := ⟨_, rfl⟩
  rw [← hm] at hmod
  by_cases h1 : m = 0
  · subst h1
    have hfit : fitsB ts b f t = (decide (f.length < b) || decide ((Tl ts (At f (f.length - b))).b = T.t)) := by rw [fitsB, ← hm, ← HT.out]; simp
    have HF := Lib.hid hfit
    clear hfit hm
    by_cases h2 : f.length < b
    · have h2d : decide ((f.length : Int) < (b : Int)) = true := by simp; omega
      go_enter Try.func37, Try.ntmps37
      go_wp2
      go_big_quiet (fail)
      go_wp2
      go_big_quiet (fail)
      go_wp2
      go_ret
      rw [HF.out]
      refine ⟨?_, _, World.drewN_drewN ..⟩
      have : decide (f.length < b) = true := decide_eq_true h2
      rw [this]; rfl
    · have h2d : decide ((f.length : Int) < (b : Int)) = false := by simp; omega
      obtain ⟨g', off', rfl, hg', hff⟩ := HCF.out.open (by omega)
      have y := hff (f.length - b) _ (nats_at (by omega))
      obtain ⟨_, _, y2, _⟩ := HCC.out (At f (f.length - b)) (HFI.out _ (by omega))
      have hyl := HFI.out (f.length - b) (by omega)
      clear hff
      obtain ⟨u, hu⟩ : ∃ u, u = At f (f.length - b) := ⟨_, rfl⟩
      rw [← hu] at y y2 hyl
      have HU := Lib.hid hu
      clear hu
      go_enter Try.func37, Try.ntmps37
      go_wp2
      go_big_quiet (fail)
      go_wp2
      go_big_quiet (fail)
      go_wp2
      go_ret
      rw [HF.out, ← HU.out]
      refine ⟨?_, _, World.drewN_drewN ..⟩
      have : decide (f.length < b) = false := decide_eq_false h2
      rw [this, Bool.false_or]
      rfl
  · have hmp : 0 < m := by omega
    have hmle : m ≤ f.length := by rw [hm]; exact Nat.mod_le _ _
    have hm1 := Lib.hid hm
    have h1d : decide ((0 : Int) < (m : Int)) = true := by simp; omega
    clear hm
    obtain ⟨g', off', rfl, hg', hff⟩ := HCF.out.open (by omega)
    have x := hff (f.length - 1) _ (nats_at (by omega))
    obtain ⟨_, x1, _, _⟩ := HCC.out (At f (f.length - 1)) (HFI.out _ (by omega))
    have hxl := HFI.out (f.length - 1) (by omega)
    obtain ⟨p, hp⟩ : ∃ p, p = At f (f.length - 1) := ⟨_, rfl⟩
    rw [← hp] at x x1 hxl
    have HP := Lib.hid hp
    clear hp
    by_cases h3 : (Tl ts p).r = T.l
    · have h3d : ((Tl ts p).r != T.l) = false := by simp [h3]
      have hfit : fitsB ts b f t = (decide (f.length < b) || decide ((Tl ts (At f (f.length - b))).b = T.t)) := by rw [fitsB, ← HP.out, ← HT.out]; simp [h3]
      have HF := Lib.hid hfit
      clear hfit h3
      by_cases h2 : f.length < b
      · have h2d : decide ((f.length : Int) < (b : Int)) = true := by simp; omega
        go_enter Try.func37, Try.ntmps37
        go_wp2
        go_big_quiet (fail)
        go_wp2
        go_big_quiet (fail)
        go_wp2
        go_ret
        rw [HF.out]
        refine ⟨?_, _, World.drewN_drewN ..⟩
        have : decide (f.length < b) = true := decide_eq_true h2
        rw [this]; rfl
      · have h2d : decide ((f.length : Int) < (b : Int)) = false := by simp; omega
        have y := hff (f.length - b) _ (nats_at (by omega))
        obtain ⟨_, _, y2, _⟩ := HCC.out (At f (f.length - b)) (HFI.out _ (by omega))
        have hyl := HFI.out (f.length - b) (by omega)
        clear hff
        obtain ⟨u, hu⟩ : ∃ u, u = At f (f.length - b) := ⟨_, rfl⟩
        rw [← hu] at y y2 hyl
        have HU := Lib.hid hu
        clear hu
        go_enter Try.func37, Try.ntmps37
        go_wp2
        go_big_quiet (fail)
        go_wp2
        go_big_quiet (fail)
        go_wp2
        go_ret
        rw [HF.out, ← HU.out]
        refine ⟨?_, _, World.drewN_drewN ..⟩
        have : decide (f.length < b) = false := decide_eq_false h2
        rw [this, Bool.false_or]
        rfl
    · have h3d : ((Tl ts p).r != T.l) = true := by simp [h3]
      have hfit : fitsB ts b f t = false := by
        have hm0 : ¬ f.length % b = 0 := by rw [← hm1.out]; omega
        rw [fitsB, ← HP.out, ← HT.out]; simp [h3, hm0]
      have HF := Lib.hid hfit
      clear hfit h3 hff
      go_enter Try.func37, Try.ntmps37
      go_wp2
      go_big_quiet (fail)
      go_wp2
      go_ret
      rw [HF.out]
      exact ⟨rfl, _, rfl⟩

set_option maxRecDepth 100000 in
set_option maxHeartbeats 1600000 in
theorem wangFits_any (ad af : Option Addr) (c cf : Nat) (ts : List Tile) (f : List Nat) (b t : Nat) (w : World) (hn : ts.length ≤ 1048576) (hf : f.length ≤ 1048576) (hb : 1 ≤ b ∧ b ≤ 4) (ht : t < ts.length) (hfi : ∀ i, i < f.length → At f i < ts.length)
    (hc : CellsAt w ad (wangs ts)) (hcf : CellsAt w af (ints (nats (f ++ [t])))) :
    Calls Try.prog 39 #[.slice ad ts.length c, .int .i64 b, .slice af (f.length + 1) cf] w fun e w' => e = .returned (.bool (fitsB ts b f t)) ∧ Below w.heap.size w w' := by
  obtain ⟨hb1, hb2⟩ := hb
  obtain ⟨g, off, rfl, hg, hcc⟩ := tl_cells hc (by omega)
  obtain ⟨t0, t1, t2, t3⟩ := hcc t ht
  have b0 : ¬ b = 0 := by omega
  obtain ⟨g', off', rfl, hg', hff⟩ := hcf.open (by simp [ints, nats])
  have z := hff f.length (.int .i64 t) (by simp [ints, nats])
  have hffl : ∀ i, i < f.length → w.cell? ⟨g', off' + i, none⟩ = some (.int .i64 (At f i)) := by
    intro i hi
    refine hff i _ ?_
    have : At (f ++ [t]) i = At f i := by simp [At, List.getElem?_append_left hi]
    rw [← this]
    exact nats_at (by simp; omega)
  obtain ⟨T, hT⟩ : ∃ T, T = Tl ts t := ⟨_, rfl⟩
  rw [← hT] at t0 t1 t2 t3
  have HT := Lib.hid hT
  have HFI := Lib.hid hfi
  have HCC := Lib.hid hcc
  have HFF := Lib.hid hffl
  have hmod : ((f.length : Int) % (b : Int)) = ((f.length % b : Nat) : Int) := by norm_cast
  clear hc hcf hcc hfi hT hff hffl
  obtain ⟨Tt, Tr, Tb, TL⟩ := T
  simp only at t0 t1 t2 t3
  obtain ⟨m, hm⟩ : ∃ m, m = f.length % b := ⟨_, rfl⟩
  rw [← hm] at hmod
  by_cases h1 : m = 0
  · subst h1
    have hfit : fitsB ts b f t = (decide (f.length < b) || decide ((Tl ts (At f (f.length - b))).b = Tt)) := by rw [fitsB, ← hm, ← HT.out]; simp
    have HF := Lib.hid hfit
    clear hfit hm
    by_cases h2 : f.length < b
    · have h2d : decide ((f.length : Int) < (b : Int)) = true := by simp; omega
      go_enter Try.func39, Try.ntmps39
      go_wp2
      go_big_quiet (fail)
      go_wp2
      go_ret
      rw [HF.out]
      refine ⟨?_, below_drewN ((Below.refl _ _).alloc (Nat.le_refl _) _) _⟩
      have : decide (f.length < b) = true := decide_eq_true h2
      rw [this]; rfl
    · have h2d : decide ((f.length : Int) < (b : Int)) = false := by simp; omega
      have y := HFF.out (f.length - b) (by omega)
      obtain ⟨_, _, y2, _⟩ := HCC.out (At f (f.length - b)) (HFI.out _ (by omega))
      have hyl := HFI.out (f.length - b) (by omega)
      obtain ⟨u, hu⟩ : ∃ u, u = At f (f.length - b) := ⟨_, rfl⟩
      rw [← hu] at y y2 hyl
      have HU := Lib.hid hu
      clear hu
      go_enter Try.func39, Try.ntmps39
      go_wp2
      go_big_quiet (fail)
      go_wp2
      go_ret
      rw [HF.out, ← HU.out]
      refine ⟨?_, below_drewN ((Below.refl _ _).alloc (Nat.le_refl _) _) _⟩
      have : decide (f.length < b) = false := decide_eq_false h2
      rw [this, Bool.false_or]
      rfl
  · have hmp : 0 < m := by omega
    have hmle : m ≤ f.length := by rw [hm]; exact Nat.mod_le _ _
    have hm1 := Lib.hid hm
    have h1d : ((m : Int) == 0) = false := by simp; omega
    clear hm
    have x := HFF.out (f.length - 1) (by omega)
    obtain ⟨_, x1, _, _⟩ := HCC.out (At f (f.length - 1)) (HFI.out _ (by omega))
    have hxl := HFI.out (f.length - 1) (by omega)
    obtain ⟨p, hp⟩ : ∃ p, p = At f (f.length - 1) := ⟨_, rfl⟩
    rw [← hp] at x x1 hxl
    have HP := Lib.hid hp
    clear hp
    by_cases h3 : (Tl ts p).r = TL
    · have h3d : ((Tl ts p).r == TL) = true := by simp [h3]
      have hfit : fitsB ts b f t = (decide (f.length < b) || decide ((Tl ts (At f (f.length - b))).b = Tt)) := by rw [fitsB, ← HP.out, ← HT.out]; simp [h3]
      have HF := Lib.hid hfit
      clear hfit h3
      by_cases h2 : f.length < b
      · have h2d : decide ((f.length : Int) < (b : Int)) = true := by simp; omega
        go_enter Try.func39, Try.ntmps39
        go_wp2
        go_big_quiet (fail)
        go_wp2
        go_ret
        rw [HF.out]
        refine ⟨?_, below_drewN ((Below.refl _ _).alloc (Nat.le_refl _) _) _⟩
        have : decide (f.length < b) = true := decide_eq_true h2
        rw [this]; rfl
      · have h2d : decide ((f.length : Int) < (b : Int)) = false := by simp; omega
        have y := HFF.out (f.length - b) (by omega)
        obtain ⟨_, _, y2, _⟩ := HCC.out (At f (f.length - b)) (HFI.out _ (by omega))
        have hyl := HFI.out (f.length - b) (by omega)
        obtain ⟨u, hu⟩ : ∃ u, u = At f (f.length - b) := ⟨_, rfl⟩
        rw [← hu] at y y2 hyl
        have HU := Lib.hid hu
        clear hu
        go_enter Try.func39, Try.ntmps39
        go_wp2
        go_big_quiet (fail)
        go_wp2
        go_ret
        rw [HF.out, ← HU.out]
        refine ⟨?_, below_drewN ((Below.refl _ _).alloc (Nat.le_refl _) _) _⟩
        have : decide (f.length < b) = false := decide_eq_false h2
        rw [this, Bool.false_or]
        rfl
    · have h3d : ((Tl ts p).r == TL) = false := by simp [h3]
      have hfit : fitsB ts b f t = false := by
        have hm0 : ¬ f.length % b = 0 := by rw [← hm1.out]; omega
        rw [fitsB, ← HP.out, ← HT.out]; simp [h3, hm0]
      have HF := Lib.hid hfit
      clear hfit h3
      go_enter Try.func39, Try.ntmps39
      go_wp2
      go_big_quiet (fail)
      go_wp2
      go_ret
      rw [HF.out]
      exact ⟨rfl, below_drewN ((Below.refl _ _).alloc (Nat.le_refl _) _) _⟩
end Go.Proofs.Ytjklclegkjnegaa
