/- RegMask: the walks of the mask of a region's cells, the reference's and the program's. -/
import Derived.Test.YtnldmigofmedkaaRegOk
import Derived.Test.YtnldmigofmedkaaMask0
namespace Go.Proofs.Ytnldmigofmedkaa
open Go.RowKit

theorem regN_at {xs : List Int} {k : Nat} (h : k < xs.length) : (regN xs).getD k 0 = xs[k].toNat := by
  simp [regN, List.getD_eq_getElem?_getD, h]

/-- The numbers that a round meets. -/
theorem mask_round {B : Nat} {xs : List Int} (h : Reg (B : Int) xs) {k : Nat} (hk : k < xs.length) : ∃ r m p : Nat, xs[k] = (r : Int) ∧ m = maskTo B (regN xs) k ∧ p = k * B ∧ p ≤ 30 ∧ r < 64 ∧ r * 2 ^ p < 68719476736 ∧ m < 1073741824 ∧ m + r * 2 ^ p = maskTo B (regN xs) (k + 1) ∧ m ||| (r * 2 ^ p) = maskTo B (regN xs) (k + 1) := by
  have hb : B ≤ 6 := by have := h.1.2; omega
  have hn := reg_nat h
  rw [Int.toNat_natCast] at hn
  have h5 : k ≤ 5 := by have := h.2.1.2; omega
  have hp : k * B ≤ 5 * 6 := Nat.mul_le_mul h5 hb
  have hlen := regN_length xs
  obtain ⟨q1, q2⟩ := h.2.2 _ (List.getElem_mem hk)
  have hr : xs[k].toNat < 64 := by
    have h1 := hn xs[k].toNat (List.mem_map_of_mem (List.getElem_mem hk))
    exact Nat.lt_of_lt_of_le h1 (Nat.pow_le_pow_right (by decide) hb)
  have hm : maskTo B (regN xs) k < 2 ^ 30 := Nat.lt_of_lt_of_le (maskTo_lt hn k (by omega)) (Nat.pow_le_pow_right (by decide) hp)
  have hpw : 2 ^ (k * B) ≤ 2 ^ 30 := Nat.pow_le_pow_right (by decide) hp
  refine ⟨xs[k].toNat, _, _, by omega, rfl, rfl, hp, hr, ?_, hm, ?_, ?_⟩
  · have := Nat.mul_le_mul (show xs[k].toNat ≤ 63 by omega) hpw
    omega
  · rw [maskTo, regN_at hk]
  · have := maskTo_or hn (show k ≤ (regN xs).length by omega)
    rwa [regN_at hk] at this

theorem wrap_add_shl {m r p : Nat} (hm : m < 1073741824) (h : r * 2 ^ p < 68719476736) : wrap64 ((m : Int) + wrap64 ((r : Int) * 2 ^ p)) = ((m + r * 2 ^ p : Nat) : Int) := by
  have e : (r : Int) * 2 ^ p = ((r * 2 ^ p : Nat) : Int) := by norm_cast
  rw [e]
  generalize r * 2 ^ p = q at h
  rw [IntWalk.wrap64_in (q : Int) (by omega), IntWalk.wrap64_in _ (by omega)]
  norm_cast
theorem or_shl {m r p : Nat} (hm : m < 1073741824) (h : r * 2 ^ p < 68719476736) : bits .or .i64 (m : Int) (wrap64 ((r : Int) * 2 ^ p)) = ((m ||| r * 2 ^ p : Nat) : Int) := by
  have e : (r : Int) * 2 ^ p = ((r * 2 ^ p : Nat) : Int) := by norm_cast
  rw [e]
  generalize r * 2 ^ p = q at h
  rw [IntWalk.wrap64_in (q : Int) (by omega), i64_or_nat _ _ (by omega) (by omega)]

set_option maxHeartbeats 1600000 in
theorem specMask (B : Nat) (ad : Option Addr) (c : Nat) (xs : List Int) (w : World) (hr : Reg (B : Int) xs) (hc : CellsAt w ad (ints xs)) :
    Calls Try.prog 87 #[.agg #[.int .i64 B, .slice ad xs.length c]] w fun e w' => e = .returned (.int .i64 (regMask B xs)) ∧ Below w.heap.size w w' := by
  have hl6 : xs.length ≤ 6 := hr.2.1.2
  have hb6 : B ≤ 6 := by have := hr.1.2; omega
  have hreg := fun w (h : CellsAt w ad (ints xs)) => specReg (B : Int) ad c xs w (by omega) h
  rw [decide_eq_true hr] at hreg
  have hfin : regMask B xs = maskTo B (regN xs) xs.length := by unfold regMask; rw [Int.toNat_natCast]
  rw [hfin]
  have HR := Lib.hid hr
  have HREG := Lib.hid hreg
  have HC := Lib.hid hc
  have hl := ints_length xs
  clear hr hreg hc hfin
  have hb0 : Below w.heap.size w (w.alloc (.cells #[.int .i64 B, .slice ad xs.length c] 44)) := (Below.refl _ _).alloc (Nat.le_refl _) _
  have HB0 := Lib.hid hb0
  have hz0 : (w.alloc (.cells #[.int .i64 B, .slice ad xs.length c] 44)).heap.size = w.heap.size + 1 := by simp
  have hblk0 : (w.alloc (.cells #[.int .i64 B, .slice ad xs.length c] 44)).heap[w.heap.size]? = some (.cells #[.int .i64 B, .slice ad xs.length c] 44 (0, 0)) := heap_alloc_new w _
  have HZ0 := Lib.hid hz0
  have HBLK0 := Lib.hid hblk0
  clear hb0 hz0 hblk0
  go_enter Try.func87, Try.ntmps87
  go_wp2
  go_loopw [3, 4] (fun m i wr => ∃ k : Nat, k ≤ xs.length ∧ i = .int .i64 k ∧ m = .int .i64 (maskTo B (regN xs) k : Nat) ∧ Below (w.heap.size + 1) (w.alloc (.cells #[.int .i64 B, .slice ad xs.length c] 44)) wr) (fun _ i _ => xs.length - (intOf i).toNat)
  case atStart => exact ⟨0, by omega, rfl, rfl, Below.refl _ _⟩
  case round =>
    obtain ⟨k, hk, rfl, rfl, hb⟩ := hrel
    have hblk := (hb.block w.heap.size (by omega)).trans HBLK0.out
    have x0 : wr.cell? ⟨w.heap.size, 0, none⟩ = some (.int .i64 B) := by rw [cell_of_row wr _ 0 _ _ _ hblk]; rfl
    have x1 : wr.cell? ⟨w.heap.size, 1, none⟩ = some (.slice ad xs.length c) := by rw [cell_of_row wr _ 1 _ _ _ hblk]; rfl
    have hbw : Below w.heap.size w wr := HB0.out.trans (hb.mono (by omega))
    have hsz : w.heap.size + 1 ≤ wr.heap.size := by have := hb.size; have := HZ0.out; omega
    have HBW := Lib.hid hbw
    have HB := Lib.hid hb
    clear hblk hbw hb
    by_cases hlt : k < xs.length
    · obtain ⟨r, m, p, er, em, ep, hp, hr64, hrp, hm30, hsum, hor⟩ := mask_round HR.out hlt
      obtain ⟨g, off, rfl, hg, hcc⟩ := HC.out.open (by omega)
      have hx := hcc k _ (ints_at xs k hlt)
      rw [er] at hx
      rw [← em]
      have y0 := (HBW.out.cell (p := ⟨g, off + k, none⟩) hg).trans hx
      have HX := Lib.hid (hcc k _ (ints_at xs k hlt))
      have HSUM := Lib.hid hsum
      have HER := Lib.hid er
      have HP := Lib.hid ep.symm
      obtain ⟨s, hs⟩ : ∃ s, s = maskTo B (regN xs) (k + 1) := ⟨_, rfl⟩
      have HSS := Lib.hid hs
      clear hcc hx er em ep hsum hor hs
      go_wp2_with fail
      refine (HREG.out _ (HC.out.below HBW.out)).mono ?_
      rintro e w2 ⟨rfl, hb2⟩
      have hb2w : Below (w.heap.size + 1) (w.alloc (.cells #[.int .i64 B, .slice (some ⟨g, off, none⟩) xs.length c] 44)) w2 := HB.out.trans (hb2.mono hsz)
      have hblk := (hb2w.block w.heap.size (by omega)).trans HBLK0.out
      have x0' : w2.cell? ⟨w.heap.size, 0, none⟩ = some (.int .i64 B) := by rw [cell_of_row w2 _ 0 _ _ _ hblk]; rfl
      have x1' : w2.cell? ⟨w.heap.size, 1, none⟩ = some (.slice (some ⟨g, off, none⟩) xs.length c) := by rw [cell_of_row w2 _ 1 _ _ _ hblk]; rfl
      have y0' : w2.cell? ⟨g, off + k, none⟩ = some (.int .i64 (r : Int)) := (hb2.cell (p := ⟨g, off + k, none⟩) (by show g < wr.heap.size; have := HBW.out.size; omega)).trans y0
      have epr : (k : Int) * (B : Int) = (p : Int) := by rw [← HP.out]; norm_cast
      have e0 : 0 ≤ (k : Int) * (B : Int) := by rw [epr]; omega
      have e1 : (k : Int) * (B : Int) ≤ 30 := by rw [epr]; omega
      have HEPR := Lib.hid epr
      have HB2 := Lib.hid hb2w
      clear hblk hb2w hb2 x0 x1 y0 epr
      go_wp2
      have wr0 : IntKind.i64.wrap ((k : Int) * (B : Int)) = (p : Int) := by rw [HEPR.out]; exact IntWalk.i64_in _ (by omega)
      clear e0 e1
      go_big_quiet (fail)
      go_wp2
      go_roundw
      case rel =>
        refine ⟨k + 1, by omega, by go_num, ?_, below_drewN HB2.out _⟩
        rw [wrap_add_shl hm30 hrp, HSUM.out]
      case measure => simp [intOf]; omega
    · obtain rfl : k = xs.length := by omega
      go_wp2
      go_ret
      exact ⟨rfl, HBW.out⟩

set_option maxHeartbeats 1600000 in
theorem implMask (B : Nat) (ad : Option Addr) (c : Nat) (xs : List Int) (w : World) (hr : Reg (B : Int) xs) (hc : CellsAt w ad (ints xs)) :
    Calls Try.prog 88 #[.agg #[.int .i64 B, .slice ad xs.length c]] w fun e w' => e = .returned (.int .i64 (regMask B xs)) ∧ Below w.heap.size w w' := by
  have hl6 : xs.length ≤ 6 := hr.2.1.2
  have hb6 : B ≤ 6 := by have := hr.1.2; omega
  have hfin : regMask B xs = maskTo B (regN xs) xs.length := by unfold regMask; rw [Int.toNat_natCast]
  rw [hfin]
  have HR := Lib.hid hr
  have HC := Lib.hid hc
  have hl := ints_length xs
  clear hr hc hfin
  have hb0 : Below w.heap.size w (w.alloc (.cells #[.int .i64 B, .slice ad xs.length c] 44)) := (Below.refl _ _).alloc (Nat.le_refl _) _
  have HB0 := Lib.hid hb0
  clear hb0
  go_enter Try.func88, Try.ntmps88
  go_wp2
  go_loopw [3, 9] (fun m i wr => ∃ k : Nat, k ≤ xs.length ∧ i = .int .i64 k ∧ m = .int .i64 (maskTo B (regN xs) k : Nat) ∧ wr = w.alloc (.cells #[.int .i64 B, .slice ad xs.length c] 44)) (fun _ i _ => xs.length - (intOf i).toNat)
  case atStart => exact ⟨0, by omega, rfl, rfl, rfl⟩
  case round =>
    obtain ⟨k, hk, rfl, rfl, rfl⟩ := hrel
    by_cases hlt : k < xs.length
    · obtain ⟨r, m, p, er, em, ep, hp, hr64, hrp, hm30, hsum, hor⟩ := mask_round HR.out hlt
      obtain ⟨g, off, rfl, hg, hcc⟩ := HC.out.open (by omega)
      have hx := hcc k _ (ints_at xs k hlt)
      rw [er] at hx
      rw [← em]
      have y0 := (HB0.out.cell (p := ⟨g, off + k, none⟩) hg).trans hx
      have HOR := Lib.hid hor
      have epr : (k : Int) * (B : Int) = (p : Int) := by rw [ep]; norm_cast
      clear hcc hx er em ep hsum hor
      go_wp2
      go_roundw
      case rel =>
        refine ⟨k + 1, by omega, by go_num, ?_, trivial⟩
        rw [or_shl hm30 hrp, HOR.out]
      case measure => simp [intOf]; omega
    · obtain rfl : k = xs.length := by omega
      go_wp2
      go_ret
      exact ⟨rfl, HB0.out⟩
end Go.Proofs.Ytnldmigofmedkaa
