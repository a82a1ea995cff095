/- AllReg: parts laid together: RegOk, Mask0, RegMask, Turn0, Place0, InReg, InRegI. -/
import Derived.Test.YtajmdgcnnipdoaaGreatDoorAllHead
import Derived.Test.YtajmdgcnnipdoaaGreatDoorAllBase
import Derived.Deep.DrawnRows

/- RegOk: the walks of IsRegion, the reference's and the program's. -/
namespace Go.Proofs.YtajmdgcnnipdoaaGreatDoor
open Go.RowKit

def FineRow (N : Nat) (x : Int) : Prop := 0 ≤ x ∧ x < (N : Int)
theorem reg_iff {B N : Nat} {xs : List Int} (hN : N = 2 ^ B) (hB : 1 ≤ B ∧ B ≤ 6) (hl : 1 ≤ xs.length ∧ xs.length ≤ 6) : Reg (B : Int) xs ↔ ∀ x ∈ xs, FineRow N x := by
  unfold Reg FineRow
  have e : ((2 : Int) ^ ((B : Int)).toNat) = (N : Int) := by rw [hN, Int.toNat_natCast]; norm_cast
  rw [e]
  constructor
  · exact fun h => h.2.2
  · exact fun h => ⟨by omega, hl, h⟩
theorem fine_snoc {N : Nat} {xs : List Int} {k : Nat} (hk : k < xs.length) (h : ∀ x ∈ xs.take k, FineRow N x) (hx : FineRow N xs[k]) : ∀ x ∈ xs.take (k + 1), FineRow N x := by
  intro x hx'
  rw [List.take_succ_eq_append_getElem hk, List.mem_append, List.mem_singleton] at hx'
  rcases hx' with q | q
  · exact h x q
  · rw [q]; exact hx
theorem int_le_nat {b : Int} (h1 : 1 ≤ b) (h2 : b ≤ 6) : ∃ B : Nat, b = (B : Int) ∧ 1 ≤ B ∧ B ≤ 6 := ⟨b.toNat, by omega, by omega, by omega⟩

set_option maxHeartbeats 1600000 in
theorem specReg (b : Int) (ad : Option Addr) (c : Nat) (xs : List Int) (w : World) (hn : xs.length ≤ 1048576) (hc : CellsAt w ad (ints xs)) :
    Calls Tryz.prog 63 #[.agg #[.int .i64 b, .slice ad xs.length c]] w fun e w' => e = .returned (.bool (decide (Reg b xs))) ∧ Below w.heap.size w w' := by
  have hb0 : Below w.heap.size w (w.alloc (.cells #[.int .i64 b, .slice ad xs.length c] 26)) := (Below.refl _ _).alloc (Nat.le_refl _) _
  by_cases h1 : 1 ≤ b ∧ b ≤ 6
  · by_cases h2 : 1 ≤ xs.length ∧ xs.length ≤ 6
    · obtain ⟨B, rfl, hB1, hB2⟩ := int_le_nat h1.1 h1.2
      obtain ⟨N, hN⟩ : ∃ N : Nat, N = 2 ^ B := ⟨_, rfl⟩
      have hiff := reg_iff (xs := xs) hN ⟨hB1, hB2⟩ h2
      have hpw := pow_wrap (B := B) (by omega)
      rw [← hN] at hpw
      have hN64 : N ≤ 64 := by rw [hN]; exact Nat.pow_le_pow_right (by decide) hB2
      have HC := Lib.hid hc
      have HB := Lib.hid hb0
      have HIFF := Lib.hid hiff
      obtain ⟨h21, h22⟩ := h2
      have hl := ints_length xs
      clear hc hb0 hiff hN h1
      go_enter Tryz.func63, Tryz.ntmps63
      go_wp2_with (first | (go_at_call 82; refine (l1In_yes _ _ _ _ (by omega) (by omega)).mono ?_; rintro e w' ⟨rfl, rfl⟩))
      go_loopw [3] (fun i wr => ∃ k : Nat, k ≤ xs.length ∧ i = .int .i64 k ∧ (∀ x ∈ xs.take k, FineRow N x) ∧ ∃ n, wr = (w.alloc (.cells #[.int .i64 B, .slice ad xs.length c] 26)).drewN n) (fun i _ => xs.length - (intOf i).toNat)
      case atStart => exact ⟨0, by omega, rfl, by simp, 0, rfl⟩
      case round =>
        obtain ⟨k, hk, rfl, hf, n, rfl⟩ := hrel
        have HF := Lib.hid hf
        clear hf
        by_cases hlt : k < xs.length
        · obtain ⟨g, off, rfl, hg, hcc⟩ := HC.out.open (by omega)
          have hx := hcc k _ (ints_at xs k hlt)
          have x0 := (HB.out.cell (p := ⟨g, off + k, none⟩) hg).trans hx
          obtain ⟨x, hxx⟩ : ∃ x, x = xs[k] := ⟨_, rfl⟩
          rw [← hxx] at x0
          have HX := Lib.hid hxx
          clear hcc hx hxx
          by_cases hx1 : x < 0
          · have d1 : decide (x < 0) = true := by simp [hx1]
            go_wp2
            go_big_quiet (fail)
            go_wp2
            go_ret
            have hno : ¬ Reg (B : Int) xs := fun h => by
              have := (HIFF.out.1 h _ (List.getElem_mem hlt)).1
              rw [← HX.out] at this
              omega
            rw [decide_eq_false hno]
            exact ⟨rfl, below_drewN (below_drewN HB.out _) _⟩
          · have d1 : decide (x < 0) = false := by simp; omega
            by_cases hx2 : x < (N : Int)
            · have d2 : decide ((N : Int) ≤ x) = false := by simp; omega
              go_wp2
              go_big_quiet (fail)
              go_wp2
              go_roundw
              case rel => exact ⟨k + 1, by omega, by go_num, fine_snoc hlt HF.out (by rw [← HX.out]; exact ⟨by omega, hx2⟩), _, rfl⟩
              case measure => simp [intOf]; omega
            · have d2 : decide ((N : Int) ≤ x) = true := by simp; omega
              go_wp2
              go_big_quiet (fail)
              go_wp2
              go_ret
              have hno : ¬ Reg (B : Int) xs := fun h => by
                have := (HIFF.out.1 h _ (List.getElem_mem hlt)).2
                rw [← HX.out] at this
                omega
              rw [decide_eq_false hno]
              exact ⟨rfl, below_drewN (below_drewN HB.out _) _⟩
        · obtain rfl : k = xs.length := by omega
          go_wp2
          go_ret
          have hyes : Reg (B : Int) xs := HIFF.out.2 (by have := HF.out; rwa [List.take_length] at this)
          rw [decide_eq_true hyes]
          exact ⟨rfl, below_drewN HB.out _⟩
    · have hno : ¬ Reg b xs := fun h => h2 h.2.1
      rw [decide_eq_false hno]
      have h3 : (xs.length : Int) < 1 ∨ 6 < (xs.length : Int) := by omega
      have H3 := Lib.hid h3
      have HB := Lib.hid hb0
      obtain ⟨h11, h12⟩ := h1
      clear hc hb0 h2 h3 hno
      go_enter Tryz.func63, Tryz.ntmps63
      go_wp2_with fail
      refine (l1In_yes _ _ _ _ h11 h12).mono ?_
      rintro e w' ⟨rfl, rfl⟩
      go_wp2_with fail
      refine (l1In_no _ _ _ _ H3.out).mono ?_
      rintro e w' ⟨rfl, rfl⟩
      go_wp2
      go_ret
      exact ⟨rfl, HB.out⟩
  · have hno : ¬ Reg b xs := fun h => h1 h.1
    rw [decide_eq_false hno]
    have h3 : b < 1 ∨ 6 < b := by omega
    have H3 := Lib.hid h3
    have HB := Lib.hid hb0
    clear hc hb0 h1 h3 hno
    go_enter Tryz.func63, Tryz.ntmps63
    go_wp2_with fail
    refine (l1In_no _ _ _ _ H3.out).mono ?_
    rintro e w' ⟨rfl, rfl⟩
    go_wp2
    go_ret
    exact ⟨rfl, HB.out⟩

theorem isSide_any (n : Int) (w : World) : Calls Tryz.prog 110 #[.int .i64 n] w fun e w' => e = .returned (.bool (decide (1 ≤ n) && decide (n ≤ 6))) ∧ w = w' := by
  go_enter Tryz.func110, Tryz.ntmps110
  go_wp2_with fail
  refine (between_any _ _ _ _).mono ?_
  rintro e w' ⟨rfl, rfl⟩
  go_wp2
  go_ret
  exact ⟨rfl, rfl⟩
theorem isSide_yes (n : Int) (w : World) (h1 : 1 ≤ n) (h2 : n ≤ 6) : Calls Tryz.prog 110 #[.int .i64 n] w fun e w' => e = .returned (.bool true) ∧ w = w' := by
  have e : (decide (1 ≤ n) && decide (n ≤ 6)) = true := by simp [h1, h2]
  exact (isSide_any n w).mono fun _ _ ⟨h, hw⟩ => ⟨by rw [h, e], hw⟩
theorem isSide_no (n : Int) (w : World) (h : n < 1 ∨ 6 < n) : Calls Tryz.prog 110 #[.int .i64 n] w fun e w' => e = .returned (.bool false) ∧ w = w' := by
  have e : (decide (1 ≤ n) && decide (n ≤ 6)) = false := by simp; omega
  exact (isSide_any n w).mono fun _ _ ⟨h, hw⟩ => ⟨by rw [h, e], hw⟩

set_option maxHeartbeats 1600000 in
theorem implReg (b : Int) (ad : Option Addr) (c : Nat) (xs : List Int) (w : World) (hn : xs.length ≤ 1048576) (hc : CellsAt w ad (ints xs)) :
    Calls Tryz.prog 61 #[.agg #[.int .i64 b, .slice ad xs.length c]] w fun e w' => e = .returned (.bool (decide (Reg b xs))) ∧ Below w.heap.size w w' := by
  have hb0 : Below w.heap.size w (w.alloc (.cells #[.int .i64 b, .slice ad xs.length c] 26)) := (Below.refl _ _).alloc (Nat.le_refl _) _
  by_cases h1 : 1 ≤ b ∧ b ≤ 6
  · by_cases h2 : 1 ≤ xs.length ∧ xs.length ≤ 6
    · obtain ⟨B, rfl, hB1, hB2⟩ := int_le_nat h1.1 h1.2
      obtain ⟨N, hN⟩ : ∃ N : Nat, N = 2 ^ B := ⟨_, rfl⟩
      have hiff := reg_iff (xs := xs) hN ⟨hB1, hB2⟩ h2
      have hpw := pow_wrap (B := B) (by omega)
      rw [← hN] at hpw
      have hN64 : N ≤ 64 := by rw [hN]; exact Nat.pow_le_pow_right (by decide) hB2
      have HC := Lib.hid hc
      have HB := Lib.hid hb0
      have HIFF := Lib.hid hiff
      obtain ⟨h21, h22⟩ := h2
      have hl := ints_length xs
      clear hc hb0 hiff hN h1
      go_enter Tryz.func61, Tryz.ntmps61
      go_wp2_with (first | (go_at_call 110; refine (isSide_yes _ _ (by omega) (by omega)).mono ?_; rintro e w' ⟨rfl, rfl⟩))
      go_loopw [19] (fun i wr => ∃ k : Nat, k ≤ xs.length ∧ i = .int .i64 k ∧ (∀ x ∈ xs.take k, FineRow N x) ∧ wr = w.alloc (.cells #[.int .i64 B, .slice ad xs.length c] 26)) (fun i _ => xs.length - (intOf i).toNat)
      case atStart => exact ⟨0, by omega, rfl, by simp, rfl⟩
      case round =>
        obtain ⟨k, hk, rfl, hf, rfl⟩ := hrel
        have HF := Lib.hid hf
        clear hf
        by_cases hlt : k < xs.length
        · obtain ⟨g, off, rfl, hg, hcc⟩ := HC.out.open (by omega)
          have hx := hcc k _ (ints_at xs k hlt)
          have x0 := (HB.out.cell (p := ⟨g, off + k, none⟩) hg).trans hx
          obtain ⟨x, hxx⟩ : ∃ x, x = xs[k] := ⟨_, rfl⟩
          rw [← hxx] at x0
          have HX := Lib.hid hxx
          clear hcc hx hxx
          by_cases hx1 : x < 0
          · have d1 : decide (x < 0) = true := by simp [hx1]
            go_wp2
            go_ret
            have hno : ¬ Reg (B : Int) xs := fun h => by
              have := (HIFF.out.1 h _ (List.getElem_mem hlt)).1
              rw [← HX.out] at this
              omega
            rw [decide_eq_false hno]
            exact ⟨rfl, HB.out⟩
          · have d1 : decide (x < 0) = false := by simp; omega
            by_cases hx2 : x < (N : Int)
            · have d2 : decide ((N : Int) ≤ x) = false := by simp; omega
              go_wp2
              go_roundw
              case rel => exact ⟨k + 1, by omega, by go_num, fine_snoc hlt HF.out (by rw [← HX.out]; exact ⟨by omega, hx2⟩), trivial⟩
              case measure => simp [intOf]; omega
            · have d2 : decide ((N : Int) ≤ x) = true := by simp; omega
              go_wp2
              go_ret
              have hno : ¬ Reg (B : Int) xs := fun h => by
                have := (HIFF.out.1 h _ (List.getElem_mem hlt)).2
                rw [← HX.out] at this
                omega
              rw [decide_eq_false hno]
              exact ⟨rfl, HB.out⟩
        · obtain rfl : k = xs.length := by omega
          go_wp2
          go_ret
          have hyes : Reg (B : Int) xs := HIFF.out.2 (by have := HF.out; rwa [List.take_length] at this)
          rw [decide_eq_true hyes]
          exact ⟨rfl, HB.out⟩
    · have hno : ¬ Reg b xs := fun h => h2 h.2.1
      rw [decide_eq_false hno]
      have h3 : (xs.length : Int) < 1 ∨ 6 < (xs.length : Int) := by omega
      have H3 := Lib.hid h3
      have HB := Lib.hid hb0
      obtain ⟨h11, h12⟩ := h1
      clear hc hb0 h2 h3 hno
      go_enter Tryz.func61, Tryz.ntmps61
      go_wp2_with fail
      refine (isSide_yes _ _ h11 h12).mono ?_
      rintro e w' ⟨rfl, rfl⟩
      go_wp2_with fail
      refine (isSide_no _ _ H3.out).mono ?_
      rintro e w' ⟨rfl, rfl⟩
      go_wp2
      go_ret
      exact ⟨rfl, HB.out⟩
  · have hno : ¬ Reg b xs := fun h => h1 h.1
    rw [decide_eq_false hno]
    have h3 : b < 1 ∨ 6 < b := by omega
    have H3 := Lib.hid h3
    have HB := Lib.hid hb0
    clear hc hb0 h1 h3 hno
    go_enter Tryz.func61, Tryz.ntmps61
    go_wp2_with fail
    refine (isSide_no _ _ H3.out).mono ?_
    rintro e w' ⟨rfl, rfl⟩
    go_wp2
    go_ret
    exact ⟨rfl, HB.out⟩
end Go.Proofs.YtajmdgcnnipdoaaGreatDoor

/- Mask0: the mask of a region's cells, as a number; what is left of it behind some masks; plain. -/
namespace Go.Proofs.YtajmdgcnnipdoaaGreatDoor
open Go.RowKit

/-- The rows as numbers. -/
def regN (xs : List Int) : List Nat := xs.map Int.toNat
theorem regN_length (xs : List Int) : (regN xs).length = xs.length := by simp [regN]
def maskTo (W : Nat) (ns : List Nat) : Nat → Nat
  | 0 => 0
  | k + 1 => maskTo W ns k + ns.getD k 0 * 2 ^ (k * W)
theorem maskTo_lt {W : Nat} {ns : List Nat} (h : ∀ x ∈ ns, x < 2 ^ W) : ∀ k, k ≤ ns.length → maskTo W ns k < 2 ^ (k * W) := by
  intro k
  induction k with
  | zero => intro _; simp [maskTo]
  | succ k ih =>
    intro hk
    have h1 := ih (by omega)
    have h2 : ns.getD k 0 < 2 ^ W := by
      rw [List.getD_eq_getElem?_getD, List.getElem?_eq_getElem (by omega)]
      exact h _ (List.getElem_mem _)
    rw [maskTo, Nat.succ_mul, Nat.pow_add]
    have h3 : (ns.getD k 0 + 1) * 2 ^ (k * W) ≤ 2 ^ W * 2 ^ (k * W) := Nat.mul_le_mul_right _ h2
    rw [Nat.succ_mul] at h3
    rw [Nat.mul_comm (2 ^ (k * W))]
    omega
theorem maskTo_or {W : Nat} {ns : List Nat} (h : ∀ x ∈ ns, x < 2 ^ W) {k : Nat} (hk : k ≤ ns.length) : maskTo W ns k ||| ns.getD k 0 * 2 ^ (k * W) = maskTo W ns (k + 1) := by
  have h1 := maskTo_lt h k hk
  have h2 := Nat.shiftLeft_add_eq_or_of_lt h1 (ns.getD k 0)
  rw [Nat.shiftLeft_eq] at h2
  rw [maskTo, Nat.or_comm, ← h2, Nat.add_comm]
/-- The mask of all cells. -/
def regMask (b : Int) (xs : List Int) : Nat := maskTo b.toNat (regN xs) xs.length
theorem reg_nat {b : Int} {xs : List Int} (h : Reg b xs) : ∀ x ∈ regN xs, x < 2 ^ b.toNat := by
  intro x hx
  simp only [regN, List.mem_map] at hx
  obtain ⟨y, hy, rfl⟩ := hx
  obtain ⟨h1, h2⟩ := h.2.2 y hy
  have : ((2 : Int) ^ b.toNat) = ((2 ^ b.toNat : Nat) : Int) := by norm_cast
  rw [this] at h2
  omega
theorem regMask_lt {b : Int} {xs : List Int} (h : Reg b xs) : regMask b xs < 2 ^ 36 := by
  have h1 := maskTo_lt (reg_nat h) xs.length (by rw [regN_length]; exact Nat.le_refl _)
  have h2 : xs.length * b.toNat ≤ 6 * 6 := Nat.mul_le_mul h.2.1.2 (by have := h.1.2; omega)
  exact Nat.lt_of_lt_of_le h1 (Nat.pow_le_pow_right (by decide) h2)
/-- What is left of a mask behind one mask. -/
def takeOff (m : Nat) (x : Int) : Nat := if 0 ≤ x then m - (m &&& x.toNat) else m
theorem takeOff_le (m : Nat) (x : Int) : takeOff m x ≤ m := by unfold takeOff; split <;> omega
def holesTo (m : Nat) (ls : List Int) : Nat → Nat
  | 0 => m
  | k + 1 => takeOff (holesTo m ls k) (ls.getD k 0)
theorem holesTo_le (m : Nat) (ls : List Int) : ∀ k, holesTo m ls k ≤ m := by
  intro k
  induction k with
  | zero => exact Nat.le_refl _
  | succ k ih => exact Nat.le_trans (takeOff_le _ _) ih
def holesLeft (b : Int) (xs ls : List Int) : Int := if Reg b xs then (holesTo (regMask b xs) ls ls.length : Nat) else -1
end Go.Proofs.YtajmdgcnnipdoaaGreatDoor

/- RegMask: the walks of the mask of a region's cells, the reference's and the program's. -/
namespace Go.Proofs.YtajmdgcnnipdoaaGreatDoor
open Go.RowKit

theorem regN_at {xs : List Int} {k : Nat} (h : k < xs.length) : (regN xs).getD k 0 = xs[k].toNat := by
  simp [regN, List.getD_eq_getElem?_getD, h]

/-- The numbers that a round meets. -/
theorem mask_round {B : Nat} {xs : List Int} (h : Reg (B : Int) xs) {k : Nat} (hk : k < xs.length) : ∃ r m p : Nat, xs[k] = (r : Int) ∧ m = maskTo B (regN xs) k ∧ p = k * B ∧ p ≤ 30 ∧ r < 64 ∧ r * 2 ^ p < 68719476736 ∧ m < 1073741824 ∧ m + r * 2 ^ p = maskTo B (regN xs) (k + 1) ∧ m ||| (r * 2 ^ p) = maskTo B (regN xs) (k + 1) := by
  have hb : B ≤ 6 := by have := h.1.2; omega
  have hn := reg_nat h
  rw [Int.toNat_natCast] at hn
  have h5 : k ≤ 5 := by have := h.2.1.2; omega
  have hp : k * B ≤ 5 * 6 := Nat.mul_le_mul h5 hb
  have hlen := regN_length xs
  obtain ⟨q1, q2⟩ := h.2.2 _ (List.getElem_mem hk)
  have hr : xs[k].toNat < 64 := by
    have h1 := hn xs[k].toNat (List.mem_map_of_mem (List.getElem_mem hk))
    exact Nat.lt_of_lt_of_le h1 (Nat.pow_le_pow_right (by decide) hb)
  have hm : maskTo B (regN xs) k < 2 ^ 30 := Nat.lt_of_lt_of_le (maskTo_lt hn k (by omega)) (Nat.pow_le_pow_right (by decide) hp)
  have hpw : 2 ^ (k * B) ≤ 2 ^ 30 := Nat.pow_le_pow_right (by decide) hp
  refine ⟨xs[k].toNat, _, _, by omega, rfl, rfl, hp, hr, ?_, hm, ?_, ?_⟩
  · have := Nat.mul_le_mul (show xs[k].toNat ≤ 63 by omega) hpw
    omega
  · rw [maskTo, regN_at hk]
  · have := maskTo_or hn (show k ≤ (regN xs).length by omega)
    rwa [regN_at hk] at this

theorem wrap_add_shl {m r p : Nat} (hm : m < 1073741824) (h : r * 2 ^ p < 68719476736) : wrap64 ((m : Int) + wrap64 ((r : Int) * 2 ^ p)) = ((m + r * 2 ^ p : Nat) : Int) := by
  have e : (r : Int) * 2 ^ p = ((r * 2 ^ p : Nat) : Int) := by norm_cast
  rw [e]
  generalize r * 2 ^ p = q at h
  rw [IntWalk.wrap64_in (q : Int) (by omega), IntWalk.wrap64_in _ (by omega)]
  norm_cast
theorem or_shl {m r p : Nat} (hm : m < 1073741824) (h : r * 2 ^ p < 68719476736) : bits .or .i64 (m : Int) (wrap64 ((r : Int) * 2 ^ p)) = ((m ||| r * 2 ^ p : Nat) : Int) := by
  have e : (r : Int) * 2 ^ p = ((r * 2 ^ p : Nat) : Int) := by norm_cast
  rw [e]
  generalize r * 2 ^ p = q at h
  rw [IntWalk.wrap64_in (q : Int) (by omega), i64_or_nat _ _ (by omega) (by omega)]

set_option maxHeartbeats 1600000 in
theorem specMask (B : Nat) (ad : Option Addr) (c : Nat) (xs : List Int) (w : World) (hr : Reg (B : Int) xs) (hc : CellsAt w ad (ints xs)) :
    Calls Tryz.prog 70 #[.agg #[.int .i64 B, .slice ad xs.length c]] w fun e w' => e = .returned (.int .i64 (regMask B xs)) ∧ Below w.heap.size w w' := by
  have hl6 : xs.length ≤ 6 := hr.2.1.2
  have hb6 : B ≤ 6 := by have := hr.1.2; omega
  have hreg := fun w (h : CellsAt w ad (ints xs)) => specReg (B : Int) ad c xs w (by omega) h
  rw [decide_eq_true hr] at hreg
  have hfin : regMask B xs = maskTo B (regN xs) xs.length := by unfold regMask; rw [Int.toNat_natCast]
  rw [hfin]
  have HR := Lib.hid hr
  have HREG := Lib.hid hreg
  have HC := Lib.hid hc
  have hl := ints_length xs
  clear hr hreg hc hfin
  have hb0 : Below w.heap.size w (w.alloc (.cells #[.int .i64 B, .slice ad xs.length c] 26)) := (Below.refl _ _).alloc (Nat.le_refl _) _
  have HB0 := Lib.hid hb0
  have hz0 : (w.alloc (.cells #[.int .i64 B, .slice ad xs.length c] 26)).heap.size = w.heap.size + 1 := by simp
  have hblk0 : (w.alloc (.cells #[.int .i64 B, .slice ad xs.length c] 26)).heap[w.heap.size]? = some (.cells #[.int .i64 B, .slice ad xs.length c] 26 (0, 0)) := heap_alloc_new w _
  have HZ0 := Lib.hid hz0
  have HBLK0 := Lib.hid hblk0
  clear hb0 hz0 hblk0
  go_enter Tryz.func70, Tryz.ntmps70
  go_wp2
  go_loopw [3, 4] (fun m i wr => ∃ k : Nat, k ≤ xs.length ∧ i = .int .i64 k ∧ m = .int .i64 (maskTo B (regN xs) k : Nat) ∧ Below (w.heap.size + 1) (w.alloc (.cells #[.int .i64 B, .slice ad xs.length c] 26)) wr) (fun _ i _ => xs.length - (intOf i).toNat)
  case atStart => exact ⟨0, by omega, rfl, rfl, Below.refl _ _⟩
  case round =>
    obtain ⟨k, hk, rfl, rfl, hb⟩ := hrel
    have hblk := (hb.block w.heap.size (by omega)).trans HBLK0.out
    have x0 : wr.cell? ⟨w.heap.size, 0, none⟩ = some (.int .i64 B) := by rw [cell_of_row wr _ 0 _ _ _ hblk]; rfl
    have x1 : wr.cell? ⟨w.heap.size, 1, none⟩ = some (.slice ad xs.length c) := by rw [cell_of_row wr _ 1 _ _ _ hblk]; rfl
    have hbw : Below w.heap.size w wr := HB0.out.trans (hb.mono (by omega))
    have hsz : w.heap.size + 1 ≤ wr.heap.size := by have := hb.size; have := HZ0.out; omega
    have HBW := Lib.hid hbw
    have HB := Lib.hid hb
    clear hblk hbw hb
    by_cases hlt : k < xs.length
    · obtain ⟨r, m, p, er, em, ep, hp, hr64, hrp, hm30, hsum, hor⟩ := mask_round HR.out hlt
      obtain ⟨g, off, rfl, hg, hcc⟩ := HC.out.open (by omega)
      have hx := hcc k _ (ints_at xs k hlt)
      rw [er] at hx
      rw [← em]
      have y0 := (HBW.out.cell (p := ⟨g, off + k, none⟩) hg).trans hx
      have HX := Lib.hid (hcc k _ (ints_at xs k hlt))
      have HSUM := Lib.hid hsum
      have HER := Lib.hid er
      have HP := Lib.hid ep.symm
      obtain ⟨s, hs⟩ : ∃ s, s = maskTo B (regN xs) (k + 1) := ⟨_, rfl⟩
      have HSS := Lib.hid hs
      clear hcc hx er em ep hsum hor hs
      go_wp2_with fail
      refine (HREG.out _ (HC.out.below HBW.out)).mono ?_
      rintro e w2 ⟨rfl, hb2⟩
      have hb2w : Below (w.heap.size + 1) (w.alloc (.cells #[.int .i64 B, .slice (some ⟨g, off, none⟩) xs.length c] 26)) w2 := HB.out.trans (hb2.mono hsz)
      have hblk := (hb2w.block w.heap.size (by omega)).trans HBLK0.out
      have x0' : w2.cell? ⟨w.heap.size, 0, none⟩ = some (.int .i64 B) := by rw [cell_of_row w2 _ 0 _ _ _ hblk]; rfl
      have x1' : w2.cell? ⟨w.heap.size, 1, none⟩ = some (.slice (some ⟨g, off, none⟩) xs.length c) := by rw [cell_of_row w2 _ 1 _ _ _ hblk]; rfl
      have y0' : w2.cell? ⟨g, off + k, none⟩ = some (.int .i64 (r : Int)) := (hb2.cell (p := ⟨g, off + k, none⟩) (by show g < wr.heap.size; have := HBW.out.size; omega)).trans y0
      have epr : (k : Int) * (B : Int) = (p : Int) := by rw [← HP.out]; norm_cast
      have e0 : 0 ≤ (k : Int) * (B : Int) := by rw [epr]; omega
      have e1 : (k : Int) * (B : Int) ≤ 30 := by rw [epr]; omega
      have HEPR := Lib.hid epr
      have HB2 := Lib.hid hb2w
      clear hblk hb2w hb2 x0 x1 y0 epr
      go_wp2
      have wr0 : IntKind.i64.wrap ((k : Int) * (B : Int)) = (p : Int) := by rw [HEPR.out]; exact IntWalk.i64_in _ (by omega)
      clear e0 e1
      go_big_quiet (fail)
      go_wp2
      go_roundw
      case rel =>
        refine ⟨k + 1, by omega, by go_num, ?_, below_drewN HB2.out _⟩
        rw [wrap_add_shl hm30 hrp, HSUM.out]
      case measure => simp [intOf]; omega
    · obtain rfl : k = xs.length := by omega
      go_wp2
      go_ret
      exact ⟨rfl, HBW.out⟩

set_option maxHeartbeats 1600000 in
theorem implMask (B : Nat) (ad : Option Addr) (c : Nat) (xs : List Int) (w : World) (hr : Reg (B : Int) xs) (hc : CellsAt w ad (ints xs)) :
    Calls Tryz.prog 77 #[.agg #[.int .i64 B, .slice ad xs.length c]] w fun e w' => e = .returned (.int .i64 (regMask B xs)) ∧ Below w.heap.size w w' := by
  have hl6 : xs.length ≤ 6 := hr.2.1.2
  have hb6 : B ≤ 6 := by have := hr.1.2; omega
  have hfin : regMask B xs = maskTo B (regN xs) xs.length := by unfold regMask; rw [Int.toNat_natCast]
  rw [hfin]
  have HR := Lib.hid hr
  have HC := Lib.hid hc
  have hl := ints_length xs
  clear hr hc hfin
  have hb0 : Below w.heap.size w (w.alloc (.cells #[.int .i64 B, .slice ad xs.length c] 26)) := (Below.refl _ _).alloc (Nat.le_refl _) _
  have HB0 := Lib.hid hb0
  clear hb0
  go_enter Tryz.func77, Tryz.ntmps77
  go_wp2
  go_loopw [3, 9] (fun m i wr => ∃ k : Nat, k ≤ xs.length ∧ i = .int .i64 k ∧ m = .int .i64 (maskTo B (regN xs) k : Nat) ∧ wr = w.alloc (.cells #[.int .i64 B, .slice ad xs.length c] 26)) (fun _ i _ => xs.length - (intOf i).toNat)
  case atStart => exact ⟨0, by omega, rfl, rfl, rfl⟩
  case round =>
    obtain ⟨k, hk, rfl, rfl, rfl⟩ := hrel
    by_cases hlt : k < xs.length
    · obtain ⟨r, m, p, er, em, ep, hp, hr64, hrp, hm30, hsum, hor⟩ := mask_round HR.out hlt
      obtain ⟨g, off, rfl, hg, hcc⟩ := HC.out.open (by omega)
      have hx := hcc k _ (ints_at xs k hlt)
      rw [er] at hx
      rw [← em]
      have y0 := (HB0.out.cell (p := ⟨g, off + k, none⟩) hg).trans hx
      have HOR := Lib.hid hor
      have epr : (k : Int) * (B : Int) = (p : Int) := by rw [ep]; norm_cast
      clear hcc hx er em ep hsum hor
      go_wp2
      go_roundw
      case rel =>
        refine ⟨k + 1, by omega, by go_num, ?_, trivial⟩
        rw [or_shl hm30 hrp, HOR.out]
      case measure => simp [intOf]; omega
    · obtain rfl : k = xs.length := by omega
      go_wp2
      go_ret
      exact ⟨rfl, HB0.out⟩
end Go.Proofs.YtajmdgcnnipdoaaGreatDoor

/- Turn0: turned cells, a turned shape in its corner, the order of shapes, the shapes' putting; plain. -/
namespace Go.Proofs.YtajmdgcnnipdoaaGreatDoor
open Go.RowKit

def negX (c : Cl) : Cl := ⟨-c.x, c.y⟩
def rotC (c : Cl) : Cl := ⟨-c.y, c.x⟩
def rotN : Nat → Cl → Cl
  | 0, c => c
  | k + 1, c => rotC (rotN k c)
def flipC (m : Nat) (c : Cl) : Cl := if 4 ≤ m then negX c else c
def carryC (m : Nat) (c : Cl) : Cl := rotN (m % 4) (flipC m c)
def In (B : Int) (c : Cl) : Prop := (-B ≤ c.x ∧ c.x ≤ B) ∧ -B ≤ c.y ∧ c.y ≤ B
theorem in_rot {B : Int} {c : Cl} (h : In B c) : In B (rotC c) := by unfold In rotC at *; simp only; omega
theorem in_neg {B : Int} {c : Cl} (h : In B c) : In B (negX c) := by unfold In negX at *; simp only; omega
theorem in_rotN {B : Int} {c : Cl} (h : In B c) : ∀ k, In B (rotN k c)
  | 0 => h
  | k + 1 => in_rot (in_rotN h k)
theorem in_flip {B : Int} {c : Cl} (h : In B c) (m : Nat) : In B (flipC m c) := by unfold flipC; split; exact in_neg h; exact h
theorem in_carry {B : Int} {c : Cl} (h : In B c) (m : Nat) : In B (carryC m c) := in_rotN (in_flip h m) _
def turnL (l : List Cl) (m : Nat) : List Cl := l.map (carryC m)
theorem turnL_length (l : List Cl) (m : Nat) : (turnL l m).length = l.length := by simp [turnL]
theorem turnL_take (l : List Cl) (m k : Nat) (hk : k < l.length) : turnL (l.take (k + 1)) m = turnL (l.take k) m ++ [carryC m l[k]] := by
  unfold turnL
  rw [List.take_succ_eq_append_getElem hk, List.map_append]
  rfl
theorem in_turnL {B : Int} {l : List Cl} (h : ∀ c ∈ l, In B c) (m : Nat) : ∀ c ∈ turnL l m, In B c := by
  intro c hc
  unfold turnL at hc
  rw [List.mem_map] at hc
  obtain ⟨d, hd, rfl⟩ := hc
  exact in_carry (h d hd) m
/-- A list of cells turned, put in order and into its corner. -/
def tcorn (l : List Cl) (m : Nat) : List Cl := cornL (putAllG ltC (turnL l m))
theorem putAllG_pos {l : List Cl} (h : 0 < l.length) : 0 < (putAllG ltC l).length := by
  obtain ⟨a, m, rfl⟩ : ∃ a m, l = a :: m := by
    cases l with
    | nil => simp at h
    | cons a m => exact ⟨a, m, rfl⟩
  exact List.length_pos_of_mem ((mem_putAllG wholeC _ a).2 List.mem_cons_self)
theorem minTo_same {f : Cl → Int} {l m : List Cl} (hl : 0 < l.length) (hm : 0 < m.length) (h : ∀ c, c ∈ l ↔ c ∈ m) : minTo f l l.length = minTo f m m.length := by
  obtain ⟨c, hc, e1⟩ := minTo_mem (f := f) (l := l) l.length hl (Nat.le_refl _)
  obtain ⟨d, hd, e2⟩ := minTo_mem (f := f) (l := m) m.length hm (Nat.le_refl _)
  obtain ⟨i, hi, hi'⟩ := List.mem_iff_getElem.1 ((h c).1 hc)
  obtain ⟨j, hj, hj'⟩ := List.mem_iff_getElem.1 ((h d).2 hd)
  have h1 := minTo_le (f := f) (l := m) m.length (Nat.le_refl _) i hi hi
  have h2 := minTo_le (f := f) (l := l) l.length (Nat.le_refl _) j hj hj
  rw [hi'] at h1
  rw [hj'] at h2
  omega
/-- The corner of a list of cells, put in order. -/
theorem corn_putAll {l : List Cl} (h : 0 < l.length) : putAllG ltC (cornL l) = cornL (putAllG ltC l) := by
  unfold cornL
  rw [shift_putAll, minTo_same (f := Cl.x) h (putAllG_pos h) (fun c => (mem_putAllG wholeC l c).symm), minTo_same (f := Cl.y) h (putAllG_pos h) (fun c => (mem_putAllG wholeC l c).symm)]
theorem carry_coords (m : Nat) (hm : m < 8) : ∃ sx sy : Int, (sx = 1 ∨ sx = -1) ∧ (sy = 1 ∨ sy = -1) ∧
    ((∀ c : Cl, carryC m c = ⟨sx * c.x, sy * c.y⟩) ∨ ∀ c : Cl, carryC m c = ⟨sx * c.y, sy * c.x⟩) := by
  have hc : m = 0 ∨ m = 1 ∨ m = 2 ∨ m = 3 ∨ m = 4 ∨ m = 5 ∨ m = 6 ∨ m = 7 := by omega
  rcases hc with rfl | rfl | rfl | rfl | rfl | rfl | rfl | rfl
  · exact ⟨1, 1, .inl rfl, .inl rfl, .inl fun c => by simp [carryC, rotN, flipC]⟩
  · exact ⟨-1, 1, .inr rfl, .inl rfl, .inr fun c => by simp [carryC, rotN, flipC, rotC]⟩
  · exact ⟨-1, -1, .inr rfl, .inr rfl, .inl fun c => by simp [carryC, rotN, flipC, rotC]⟩
  · exact ⟨1, -1, .inl rfl, .inr rfl, .inr fun c => by simp [carryC, rotN, flipC, rotC]⟩
  · exact ⟨-1, 1, .inr rfl, .inl rfl, .inl fun c => by simp [carryC, rotN, flipC, negX]⟩
  · exact ⟨-1, -1, .inr rfl, .inr rfl, .inr fun c => by simp [carryC, rotN, flipC, negX, rotC]⟩
  · exact ⟨1, -1, .inl rfl, .inr rfl, .inl fun c => by simp [carryC, rotN, flipC, negX, rotC]⟩
  · exact ⟨1, 1, .inl rfl, .inl rfl, .inr fun c => by simp [carryC, rotN, flipC, negX, rotC]⟩
/-- A turned shape is a shape. -/
theorem shape_tcorn {l : List Cl} (h : Shape l) {m : Nat} (hm : m < 8) : Shape (tcorn l m) := by
  have hpos : 0 < (turnL l m).length := by rw [turnL_length]; exact h.2.1
  refine ⟨⟨asc_cornL (asc_putAllG wholeC _), ?_⟩, ?_, ?_⟩
  · intro c hc
    unfold tcorn at hc
    obtain ⟨d, hd, rfl⟩ := corn_mem hc
    have hd1 := (mem_putAllG wholeC _ d).1 hd
    obtain ⟨ex, hex, e1⟩ := minTo_mem (f := Cl.x) (l := putAllG ltC (turnL l m)) _ (putAllG_pos hpos) (Nat.le_refl _)
    obtain ⟨ey, hey, e2⟩ := minTo_mem (f := Cl.y) (l := putAllG ltC (turnL l m)) _ (putAllG_pos hpos) (Nat.le_refl _)
    have hex1 := (mem_putAllG wholeC _ ex).1 hex
    have hey1 := (mem_putAllG wholeC _ ey).1 hey
    obtain ⟨i, hi, hi'⟩ := List.mem_iff_getElem.1 hd
    have l1 := minTo_le (f := Cl.x) (l := putAllG ltC (turnL l m)) _ (Nat.le_refl _) i hi hi
    have l2 := minTo_le (f := Cl.y) (l := putAllG ltC (turnL l m)) _ (Nat.le_refl _) i hi hi
    rw [hi'] at l1 l2
    rw [e1] at l1 ⊢
    rw [e2] at l2 ⊢
    unfold turnL at hd1 hex1 hey1
    rw [List.mem_map] at hd1 hex1 hey1
    obtain ⟨a, ha, rfl⟩ := hd1
    obtain ⟨b, hb, rfl⟩ := hex1
    obtain ⟨b', hb', rfl⟩ := hey1
    have q1 := h.1.2 a ha
    have q2 := h.1.2 b hb
    have q3 := h.1.2 b' hb'
    obtain ⟨sx, sy, h1, h2, h3⟩ := carry_coords m hm
    unfold OnB at q1 q2 q3 ⊢
    simp only at l1 l2 ⊢
    rcases h3 with h3 | h3
    · rw [h3, h3] at l1 l2
      rw [h3 a, h3 b, h3 b']
      simp only at l1 l2 ⊢
      rcases h1 with rfl | rfl <;> rcases h2 with rfl | rfl <;> omega
    · rw [h3, h3] at l1 l2
      rw [h3 a, h3 b, h3 b']
      simp only at l1 l2 ⊢
      rcases h1 with rfl | rfl <;> rcases h2 with rfl | rfl <;> omega
  · unfold tcorn
    rw [cornL_length]
    exact putAllG_pos hpos
  · unfold tcorn
    rw [cornL_length]
    have := putAllG_length (lt := ltC) (turnL l m)
    rw [turnL_length] at this
    exact Nat.le_trans this h.2.2
/-- The first k motions' results, put in order. -/
def orientTo (l : List Cl) : Nat → List (List Cl)
  | 0 => []
  | k + 1 => putG ltS (orientTo l k) (tcorn l k)
def orientL (l : List Cl) : List (List Cl) := if Shape l then orientTo l 8 else []
theorem orientTo_length (l : List Cl) : ∀ k, (orientTo l k).length ≤ k
  | 0 => Nat.le_refl _
  | k + 1 => by
    have h1 := orientTo_length l k
    have h2 := putG_length (lt := ltS) (orientTo l k) (tcorn l k)
    unfold orientTo
    omega
theorem orientTo_asc (l : List Cl) : ∀ k, AscG ltS (orientTo l k)
  | 0 => List.Pairwise.nil
  | k + 1 => asc_putG wholeS (orientTo_asc l k) _
theorem mem_orientTo {l x : List Cl} : ∀ {k}, x ∈ orientTo l k → ∃ m, m < k ∧ x = tcorn l m
  | 0, h => by simp [orientTo] at h
  | k + 1, h => by
    unfold orientTo at h
    rcases (mem_putG _ _ x).1 h with rfl | h
    · exact ⟨k, Nat.lt_succ_self k, rfl⟩
    · obtain ⟨m, hm, e⟩ := mem_orientTo h
      exact ⟨m, Nat.lt_succ_of_lt hm, e⟩
theorem orientL_shape {l x : List Cl} (h : x ∈ orientL l) : Shape x := by
  unfold orientL at h
  split at h
  · rename_i hs
    obtain ⟨m, hm, rfl⟩ := mem_orientTo h
    exact shape_tcorn hs hm
  · simp at h
theorem orientL_length (l : List Cl) : (orientL l).length ≤ 8 := by
  unfold orientL
  split
  · exact orientTo_length l 8
  · simp
theorem shape_in {l : List Cl} (h : Shape l) : ∀ c ∈ l, In 7 c := fun c hc => by
  have := h.1.2 c hc
  unfold OnB at this
  unfold In
  omega
/-- What CompareShapes hands back. -/
def cmpS (a b : List Cl) : Int := if ltS a b = true then -1 else if ltS b a = true then 1 else 0
end Go.Proofs.YtajmdgcnnipdoaaGreatDoor

/- Place0: whether a region has a cell; the mask of some cells of a region; a shape's masks in a region; plain. -/
namespace Go.Proofs.YtajmdgcnnipdoaaGreatDoor
open Go.RowKit

def inR (B : Nat) (xs : List Int) (X Y : Nat) : Bool := decide (X < B) && (decide (Y < xs.length) && (xs.getD Y 0).toNat.testBit X)
def pbit (B : Nat) (c : Cl) : Nat := c.y.toNat * B + c.x.toNat
/-- The mask of some cells, a mask of cells ahead of them given; none where a cell is not there or comes twice. -/
def mocS (B : Nat) (xs : List Int) : List Cl → Nat → Option Nat
  | [], m => some m
  | c :: r, m => cond (inR B xs c.x.toNat c.y.toNat && !m.testBit (pbit B c)) (mocS B xs r (m + 2 ^ pbit B c)) none
theorem mocS_drop {B : Nat} {xs : List Int} {s : List Cl} {k m : Nat} (hk : k < s.length) : mocS B xs (s.drop k) m = cond (inR B xs s[k].x.toNat s[k].y.toNat && !m.testBit (pbit B s[k])) (mocS B xs (s.drop (k + 1)) (m + 2 ^ pbit B s[k])) none := by
  rw [List.drop_eq_getElem_cons hk, mocS]
theorem inR_bit {B : Nat} {xs : List Int} {c : Cl} (hr : Reg (B : Int) xs) (h : inR B xs c.x.toNat c.y.toNat = true) : pbit B c < 36 ∧ c.x.toNat < B ∧ c.y.toNat < 6 := by
  unfold inR at h
  simp only [Bool.and_eq_true, decide_eq_true_eq] at h
  obtain ⟨h1, h2, _⟩ := h
  have hB : B ≤ 6 := by have := hr.1.2; omega
  have hl : xs.length ≤ 6 := hr.2.1.2
  have h3 : c.y.toNat * B ≤ 5 * 6 := Nat.mul_le_mul (by omega) hB
  unfold pbit
  omega
def ofMoc : Option Nat → Int × Bool
  | some m => ((m : Int), true)
  | none => (0, false)
def plOne (B : Nat) (xs : List Int) (t : List Cl) (y x : Nat) : List Int := match mocS B xs (t.map fun c => ⟨c.x + x, c.y + y⟩) 0 with
  | some m => [(m : Int)]
  | none => []
theorem plOne_length (B : Nat) (xs : List Int) (t : List Cl) (y x : Nat) : (plOne B xs t y x).length ≤ 1 := by
  unfold plOne
  split <;> simp
def plRow (B : Nat) (xs : List Int) (t : List Cl) (y : Nat) : Nat → List Int
  | 0 => []
  | x + 1 => plRow B xs t y x ++ plOne B xs t y x
def plGrid (B : Nat) (xs : List Int) (t : List Cl) : Nat → List Int
  | 0 => []
  | y + 1 => plGrid B xs t y ++ plRow B xs t y B
def plTo (B : Nat) (xs : List Int) (rows : List (List Cl)) : Nat → List Int
  | 0 => []
  | i + 1 => plTo B xs rows i ++ plGrid B xs (rows.getD i default) xs.length
theorem plRow_length (B : Nat) (xs : List Int) (t : List Cl) (y : Nat) : ∀ x, (plRow B xs t y x).length ≤ x
  | 0 => Nat.le_refl _
  | x + 1 => by
    have h := plRow_length B xs t y x
    have h2 := plOne_length B xs t y x
    unfold plRow
    rw [List.length_append]
    omega
theorem plGrid_length {B : Nat} (hB : B ≤ 6) (xs : List Int) (t : List Cl) : ∀ y, (plGrid B xs t y).length ≤ y * 6
  | 0 => Nat.le_refl _
  | y + 1 => by
    have h := plGrid_length hB xs t y
    have h2 := plRow_length B xs t y B
    unfold plGrid
    rw [List.length_append]
    omega
theorem plTo_length {B : Nat} {xs : List Int} (hB : B ≤ 6) (hl : xs.length ≤ 6) (rows : List (List Cl)) : ∀ i, (plTo B xs rows i).length ≤ i * 36
  | 0 => Nat.le_refl _
  | i + 1 => by
    have h := plTo_length hB hl rows i
    have h2 := plGrid_length hB xs (rows.getD i default) xs.length
    unfold plTo
    rw [List.length_append]
    omega
/-- A shape's masks in a region. -/
def placL (B : Nat) (xs : List Int) (s : List Cl) : List Int := putAllG ltI (plTo B xs (orientL s) (orientL s).length)
theorem placL_length {B : Nat} {xs : List Int} (hr : Reg (B : Int) xs) (s : List Cl) : (placL B xs s).length ≤ 300 := by
  have h1 := putAllG_length (lt := ltI) (plTo B xs (orientL s) (orientL s).length)
  have h2 := plTo_length (B := B) (xs := xs) (by have := hr.1.2; omega) hr.2.1.2 (orientL s) (orientL s).length
  have h3 := orientL_length s
  unfold placL
  omega
def allTo (B : Nat) (xs : List Int) (ps : List (List Cl)) : Nat → List Int
  | 0 => []
  | i + 1 => allTo B xs ps i ++ placL B xs (ps.getD i default)
/-- The masks of all pieces in a region. -/
def allL (B : Nat) (xs : List Int) (ps : List (List Cl)) : List Int := putAllG ltI (allTo B xs ps ps.length)
theorem allTo_length {B : Nat} {xs : List Int} (hr : Reg (B : Int) xs) (ps : List (List Cl)) : ∀ i, (allTo B xs ps i).length ≤ i * 300
  | 0 => Nat.le_refl _
  | i + 1 => by
    have h := allTo_length hr ps i
    have h2 := placL_length hr (ps.getD i default)
    unfold allTo
    rw [List.length_append]
    omega
end Go.Proofs.YtajmdgcnnipdoaaGreatDoor

/- InReg: the walks of l6In, InRegion and has: whether a valid region has a cell. -/
namespace Go.Proofs.YtajmdgcnnipdoaaGreatDoor
open Go.RowKit

attribute [local go_sem ↓] Go.wp_at_zero Go.wp_at_succ

set_option maxRecDepth 100000 in
set_option maxHeartbeats 1600000 in
theorem specL6 (B X Y : Nat) (ad : Option Addr) (c : Nat) (xs : List Int) (w : World) (hr : Reg (B : Int) xs) (hX : X ≤ 100) (hY : Y ≤ 100) (hc : CellsAt w ad (ints xs)) :
    Calls Tryz.prog 174 #[.agg #[.int .i64 B, .slice ad xs.length c], .int .i64 X, .int .i64 Y] w fun e w' => e = .returned (.bool (inR B xs X Y)) ∧ Below w.heap.size w w' := by
  have hdef : inR B xs X Y = (decide (X < B) && (decide (Y < xs.length) && (xs.getD Y 0).toNat.testBit X)) := rfl
  by_cases h1 : X < B
  · by_cases h2 : Y < xs.length
    · obtain ⟨g, off, rfl, hg, hcc⟩ := hc.open (by rw [ints_length]; omega)
      have hx := hcc Y _ (ints_at xs Y h2)
      have hbd := hr.2.2 _ (List.getElem_mem h2)
      have hB6 : B ≤ 6 := by have := hr.1.2; omega
      have hgd : xs.getD Y 0 = xs[Y] := by simp [List.getD_eq_getElem?_getD, h2]
      rw [hgd, decide_eq_true h1, decide_eq_true h2] at hdef
      simp only [Bool.true_and] at hdef
      have hr6 := (reg_nat hr) xs[Y].toNat (List.mem_map_of_mem (List.getElem_mem h2))
      rw [Int.toNat_natCast] at hr6
      have hr64 : xs[Y].toNat < 64 := Nat.lt_of_lt_of_le hr6 (Nat.pow_le_pow_right (by decide) hB6)
      obtain ⟨r, hrr⟩ : ∃ r : Nat, xs[Y] = (r : Int) := ⟨xs[Y].toNat, by omega⟩
      rw [hrr] at hx hdef hr64
      rw [Int.toNat_natCast] at hdef hr64
      have hsh := and_shr_one r X (Nat.lt_trans hr64 (by decide))
      have HD := Lib.hid hdef
      have hX1 : (X : Int) < (B : Int) := by omega
      have hY1 : (Y : Int) < (xs.length : Int) := by omega
      clear hdef hcc hbd hgd hr6 hrr hr hc
      cases hb : r.testBit X with
      | true =>
        rw [hb, if_pos rfl] at hsh
        go_enter Tryz.func174, Tryz.ntmps174
        go_wp2
        go_ret
        rw [HD.out, hb]
        exact ⟨rfl, by go_grown⟩
      | false =>
        rw [hb, if_neg (by simp)] at hsh
        go_enter Tryz.func174, Tryz.ntmps174
        go_wp2
        go_ret
        rw [HD.out, hb]
        exact ⟨rfl, by go_grown⟩
    · have hf : inR B xs X Y = false := by rw [hdef, decide_eq_false h2]; simp
      have HF := Lib.hid hf
      have hX1 : (X : Int) < (B : Int) := by omega
      have hY1 : ¬ (Y : Int) < (xs.length : Int) := by omega
      clear hdef hf hr hc
      go_enter Tryz.func174, Tryz.ntmps174
      go_wp2
      go_ret
      rw [HF.out]
      exact ⟨rfl, by go_grown⟩
  · have hf : inR B xs X Y = false := by rw [hdef, decide_eq_false h1]; simp
    have HF := Lib.hid hf
    have hX1 : ¬ (X : Int) < (B : Int) := by omega
    clear hdef hf hr hc
    go_enter Tryz.func174, Tryz.ntmps174
    go_wp2
    go_ret
    rw [HF.out]
    exact ⟨rfl, by go_grown⟩

set_option maxRecDepth 100000 in
set_option maxHeartbeats 1600000 in
theorem specIn (B X Y : Nat) (ad : Option Addr) (c : Nat) (xs : List Int) (w : World) (hr : Reg (B : Int) xs) (hX : X ≤ 100) (hY : Y ≤ 100) (hc : CellsAt w ad (ints xs)) :
    Calls Tryz.prog 165 #[.agg #[.int .i64 B, .slice ad xs.length c], .int .i64 X, .int .i64 Y] w fun e w' => e = .returned (.bool (inR B xs X Y)) ∧ Below w.heap.size w w' := by
  have hl6 : xs.length ≤ 6 := hr.2.1.2
  have hreg := fun w (h : CellsAt w ad (ints xs)) => specReg (B : Int) ad c xs w (by omega) h
  rw [decide_eq_true hr] at hreg
  have HREG := Lib.hid hreg
  have HC := Lib.hid hc
  have HL := Lib.hid (fun w' h => specL6 B X Y ad c xs w' hr hX hY h)
  clear hreg hc hr
  obtain ⟨wA, hwA⟩ : ∃ wA, wA = w.alloc (.cells #[.int .i64 B, .slice ad xs.length c] 26) := ⟨_, rfl⟩
  have hbA : Below w.heap.size w wA := by rw [hwA]; exact (Below.refl _ _).alloc (Nat.le_refl _) _
  have hzA : wA.heap.size = w.heap.size + 1 := by rw [hwA]; simp
  have hblkA : wA.heap[w.heap.size]? = some (.cells #[.int .i64 B, .slice ad xs.length c] 26 (0, 0)) := by rw [hwA]; exact heap_alloc_new w _
  have HBA := Lib.hid hbA
  have HBLKA := Lib.hid hblkA
  have HWA := Lib.hid hwA
  have hszA := hbA.size
  clear hbA hblkA hwA
  go_enter Tryz.func165, Tryz.ntmps165
  go_wp2_with fail
  rw [← HWA.out]
  refine (HREG.out wA (HC.out.below HBA.out)).mono ?_
  rintro e w1 ⟨rfl, hb1⟩
  have hb1A := HBA.out.trans (hb1.mono hszA)
  have hblk1 := (hb1.block w.heap.size (by omega)).trans HBLKA.out
  have x0 : w1.cell? ⟨w.heap.size, 0, none⟩ = some (.int .i64 B) := by rw [cell_of_row w1 _ 0 _ _ _ hblk1]; rfl
  have x1 : w1.cell? ⟨w.heap.size, 1, none⟩ = some (.slice ad xs.length c) := by rw [cell_of_row w1 _ 1 _ _ _ hblk1]; rfl
  have HB1 := Lib.hid hb1A
  have hsz1 := hb1A.size
  clear hb1 hb1A hblk1
  go_wp2_with fail
  refine (HL.out w1 (HC.out.below HB1.out)).mono ?_
  rintro e w2 ⟨rfl, hb2⟩
  have HB2 := Lib.hid (HB1.out.trans (hb2.mono hsz1))
  clear hb2
  go_wp2
  go_ret
  exact ⟨rfl, HB2.out⟩

end Go.Proofs.YtajmdgcnnipdoaaGreatDoor

/- InRegI: whether a region has a place, by the program. -/
namespace Go.Proofs.YtajmdgcnnipdoaaGreatDoor
open Go.RowKit

attribute [local go_sem ↓] Go.wp_at_zero Go.wp_at_succ
set_option maxRecDepth 100000 in
set_option maxHeartbeats 1600000 in
theorem implHas2 (B X Y : Nat) (ad : Option Addr) (c : Nat) (xs : List Int) (w : World) (hr : Reg (B : Int) xs) (hX : X ≤ 100) (hY : Y ≤ 100) (hc : CellsAt w ad (ints xs)) :
    Calls Tryz.prog 169 #[.agg #[.int .i64 B, .slice ad xs.length c], .int .i64 X, .int .i64 Y] w fun e w' => e = .returned (.bool (inR B xs X Y)) ∧ Below w.heap.size w w' := by
  have hdef : inR B xs X Y = (decide (X < B) && (decide (Y < xs.length) && (xs.getD Y 0).toNat.testBit X)) := rfl
  have hB1 : 1 ≤ B := by have := hr.1.1; omega
  have hB6 : B ≤ 6 := by have := hr.1.2; omega
  have hl1 : 1 ≤ xs.length := hr.2.1.1
  have hl6 : xs.length ≤ 6 := hr.2.1.2
  obtain ⟨B', hB'⟩ : ∃ B', B' = B - 1 := ⟨_, rfl⟩
  obtain ⟨H', hH'⟩ : ∃ H', H' = xs.length - 1 := ⟨_, rfl⟩
  have s1 : (B : Int) - 1 = (B' : Int) := by omega
  have s2 : (xs.length : Int) - 1 = (H' : Int) := by omega
  have t1 : IntKind.i64.wrap (B' : Int) = (B' : Int) := IntWalk.i64_in _ (by omega)
  have t2 : IntKind.i64.wrap (H' : Int) = (H' : Int) := IntWalk.i64_in _ (by omega)
  by_cases h1 : X < B
  · by_cases h2 : Y < xs.length
    · obtain ⟨g, off, rfl, hg, hcc⟩ := hc.open (by rw [ints_length]; omega)
      have hx := hcc Y _ (ints_at xs Y h2)
      have hbd := hr.2.2 _ (List.getElem_mem h2)
      have hgd : xs.getD Y 0 = xs[Y] := by simp [List.getD_eq_getElem?_getD, h2]
      rw [hgd, decide_eq_true h1, decide_eq_true h2] at hdef
      simp only [Bool.true_and] at hdef
      have hr6 := (reg_nat hr) xs[Y].toNat (List.mem_map_of_mem (List.getElem_mem h2))
      rw [Int.toNat_natCast] at hr6
      have hr64 : xs[Y].toNat < 64 := Nat.lt_of_lt_of_le hr6 (Nat.pow_le_pow_right (by decide) hB6)
      obtain ⟨r, hrr⟩ : ∃ r : Nat, xs[Y] = (r : Int) := ⟨xs[Y].toNat, by omega⟩
      rw [hrr] at hx hdef hr64
      rw [Int.toNat_natCast] at hdef hr64
      have hsh := and_shr_one r X (Nat.lt_trans hr64 (by decide))
      have HD := Lib.hid hdef
      have hX1 : (X : Int) < (B : Int) := by omega
      have hY1 : (Y : Int) < (xs.length : Int) := by omega
      have hXl : X ≤ B' := by omega
      have hYl : Y ≤ H' := by omega
      clear hdef hcc hbd hgd hr6 hrr hr hc hB' hH'
      cases hb : r.testBit X with
      | true =>
        rw [hb, if_pos rfl] at hsh
        go_enter Tryz.func169, Tryz.ntmps169
        go_wp2_with (go_at_call 98; refine (between_yes _ _ _ _ (by omega) (by omega)).mono ?_; rintro e w' ⟨rfl, rfl⟩)
        go_ret
        rw [HD.out, hb]
        exact ⟨rfl, by go_grown⟩
      | false =>
        rw [hb, if_neg (by simp)] at hsh
        go_enter Tryz.func169, Tryz.ntmps169
        go_wp2_with (go_at_call 98; refine (between_yes _ _ _ _ (by omega) (by omega)).mono ?_; rintro e w' ⟨rfl, rfl⟩)
        go_ret
        rw [HD.out, hb]
        exact ⟨rfl, by go_grown⟩
    · have hf : inR B xs X Y = false := by rw [hdef, decide_eq_false h2]; simp
      have HF := Lib.hid hf
      have hXl : X ≤ B' := by omega
      have hYl : H' < Y := by omega
      clear hdef hf hr hc hB' hH'
      go_enter Tryz.func169, Tryz.ntmps169
      go_wp2_with fail
      refine (between_yes _ _ _ _ (by omega) (by omega)).mono ?_
      rintro e w' ⟨rfl, rfl⟩
      go_wp2_with fail
      refine (between_no _ _ _ _ (by omega)).mono ?_
      rintro e w' ⟨rfl, rfl⟩
      go_wp2
      go_ret
      rw [HF.out]
      exact ⟨rfl, by go_grown⟩
  · have hf : inR B xs X Y = false := by rw [hdef, decide_eq_false h1]; simp
    have HF := Lib.hid hf
    have hXl : B' < X := by omega
    clear hdef hf hr hc hB' hH'
    go_enter Tryz.func169, Tryz.ntmps169
    go_wp2_with fail
    refine (between_no _ _ _ _ (by omega)).mono ?_
    rintro e w' ⟨rfl, rfl⟩
    go_wp2
    go_ret
    rw [HF.out]
    exact ⟨rfl, by go_grown⟩
end Go.Proofs.YtajmdgcnnipdoaaGreatDoor
