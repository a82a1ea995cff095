/- Closes: the walks of IsPeriodicFill, the reference's and the program's. -/
import Derived.Test.YtjklclegkjnegaaFill
import Derived.Test.YtjklclegkjnegaaSearch0
namespace Go.Proofs.Ytjklclegkjnegaa
open Go.RowKit

def RowsTo (ts : List Tile) (A : Nat) (f : List Nat) (k : Nat) : Prop := ∀ y, y < k → (Tl ts (At f (y * A + A - 1))).r = (Tl ts (At f (y * A))).l
def ColsTo (ts : List Tile) (A B : Nat) (f : List Nat) (k : Nat) : Prop := ∀ x, x < k → (Tl ts (At f ((B - 1) * A + x))).b = (Tl ts (At f x)).t
def Closes (ts : List Tile) (A B : Nat) (f : List Nat) : Prop := RowsTo ts A f B ∧ ColsTo ts A B f A
instance (ts : List Tile) (A : Nat) (f : List Nat) (k : Nat) : Decidable (RowsTo ts A f k) := by unfold RowsTo; infer_instance
instance (ts : List Tile) (A B : Nat) (f : List Nat) (k : Nat) : Decidable (ColsTo ts A B f k) := by unfold ColsTo; infer_instance
instance (ts : List Tile) (A B : Nat) (f : List Nat) : Decidable (Closes ts A B f) := by unfold Closes; infer_instance

set_option maxHeartbeats 1600000 in
theorem closes_any (ad af : Option Addr) (c cf : Nat) (ts : List Tile) (f : List Nat) (A B : Nat) (w : World) (hn : ts.length ≤ 1048576) (hA : 1 ≤ A ∧ A ≤ 4) (hB : 1 ≤ B ∧ B ≤ 4) (hlen : f.length = A * B) (hfi : InR ts f)
    (hc : CellsAt w ad (wangs ts)) (hcf : CellsAt w af (ints (nats f))) :
    Calls Try.prog 27 #[.slice ad ts.length c, .int .i64 A, .int .i64 B, .slice af f.length cf] w fun e w' => e = .returned (.bool (decide (Closes ts A B f))) ∧ ∃ m, w' = w.drewN m := by
  obtain ⟨ha1, ha2⟩ := hA
  obtain ⟨hb1, hb2⟩ := hB
  have q0 : A * B ≤ 16 := Nat.mul_le_mul ha2 hb2
  have hpos : 0 < A * B := Nat.mul_pos (by omega) (by omega)
  have hts : 0 < ts.length := by have := hfi 0 (by omega); omega
  obtain ⟨g, off, rfl, hg, hcc⟩ := tl_cells hc hts
  obtain ⟨g', off', rfl, hg', hff⟩ := hcf.open (by rw [ints_length, nats_length]; omega)
  have hff' : ∀ i, i < f.length → w.cell? ⟨g', off' + i, none⟩ = some (.int .i64 (At f i)) := fun i hi => hff i _ (nats_at hi)
  have HCC := Lib.hid hcc
  have HFF := Lib.hid hff'
  have HFI := Lib.hid hfi
  have HLEN := Lib.hid hlen
  have hl16 : f.length ≤ 16 := by omega
  clear hc hcf hcc hff hff' hfi hlen
  go_enter Try.func27, Try.ntmps27
  go_wp2
  go_loopw [12] (fun i wr => ∃ k : Nat, k ≤ B ∧ i = .int .i64 k ∧ RowsTo ts A f k ∧ ∃ n, wr = w.drewN n) (fun i _ => B - (intOf i).toNat)
  case atStart => exact ⟨0, by omega, rfl, fun y hy => by omega, 0, rfl⟩
  case round =>
    obtain ⟨k, hk, rfl, ht, n, rfl⟩ := hrel
    have HT := Lib.hid ht
    clear ht
    by_cases hlt : k < B
    · have e0 : k * A + A ≤ f.length := by
        have := Nat.mul_le_mul_right A (show k + 1 ≤ B by omega)
        rw [Nat.succ_mul] at this
        rw [HLEN.out, Nat.mul_comm A B]
        exact this
      have e1 : (k : Int) * (A : Int) + (A : Int) ≤ (f.length : Int) := by exact_mod_cast e0
      have e2 : 0 ≤ (k : Int) * (A : Int) := Int.mul_nonneg (by omega) (by omega)
      have x := HFF.out (k * A + A - 1) (by omega)
      have y := HFF.out (k * A) (by omega)
      obtain ⟨_, x1, _, _⟩ := HCC.out _ (HFI.out (k * A + A - 1) (by omega))
      obtain ⟨_, _, _, y3⟩ := HCC.out _ (HFI.out (k * A) (by omega))
      have xl := HFI.out (k * A + A - 1) (by omega)
      have yl := HFI.out (k * A) (by omega)
      obtain ⟨u, hu⟩ : ∃ u, u = At f (k * A + A - 1) := ⟨_, rfl⟩
      obtain ⟨v, hv⟩ : ∃ v, v = At f (k * A) := ⟨_, rfl⟩
      rw [← hu] at x x1 xl
      rw [← hv] at y y3 yl
      have HU := Lib.hid hu
      have HV := Lib.hid hv
      clear hu hv
      by_cases he : (Tl ts u).r = (Tl ts v).l
      · have hed : ((Tl ts u).r != (Tl ts v).l) = false := by simp [he]
        have HE := Lib.hid he
        clear he
        go_wp2
        go_big_quiet (fail)
        go_wp2
        go_roundw
        case rel =>
          refine ⟨k + 1, by omega, by go_num, fun y hy => ?_, _, rfl⟩
          by_cases ey : y = k
          · rw [ey, ← HU.out, ← HV.out]; exact HE.out
          · exact HT.out y (by omega)
        case measure => simp [intOf]; omega
      · have hed : ((Tl ts u).r != (Tl ts v).l) = true := by simp [he]
        have hno : ¬ Closes ts A B f := fun h => he (by rw [HU.out, HV.out]; exact h.1 k hlt)
        have HNO := Lib.hid hno
        clear he hno
        go_wp2
        go_big_quiet (fail)
        go_wp2
        go_ret
        rw [decide_eq_false HNO.out]
        exact ⟨rfl, _, World.drewN_drewN ..⟩
    · obtain rfl : k = B := by omega
      go_wp2
      go_loopw [41] (fun i wr => ∃ j : Nat, j ≤ A ∧ i = .int .i64 j ∧ ColsTo ts A k f j ∧ ∃ n, wr = w.drewN n) (fun i _ => A - (intOf i).toNat)
      case atStart => exact ⟨0, by omega, rfl, fun y hy => by omega, n, rfl⟩
      case round =>
        obtain ⟨j, hj, rfl, hu0, n', rfl⟩ := hrel
        have HUU := Lib.hid hu0
        clear hu0
        by_cases hlt2 : j < A
        · have e0 : (k - 1) * A + A ≤ f.length := by
            have e9 : (k - 1) * A + A = k * A := by
              obtain ⟨m, rfl⟩ : ∃ m, k = m + 1 := ⟨k - 1, by omega⟩
              rw [Nat.succ_mul]; rfl
            rw [HLEN.out, Nat.mul_comm A k, e9]
            exact Nat.le_refl _
          have e3 : ((k : Int) - 1) * (A : Int) = (((k - 1) * A : Nat) : Int) := by
            have : ((k : Int) - 1) = ((k - 1 : Nat) : Int) := by omega
            rw [this]; norm_cast
          have e4 : 0 ≤ ((k : Int) - 1) * (A : Int) := by rw [e3]; omega
          have e5 : ((k : Int) - 1) * (A : Int) + (A : Int) ≤ (f.length : Int) := by rw [e3]; exact_mod_cast e0
          have E3 := Lib.hid e3
          have hkA : 1 ≤ k := hb1
          clear e3
          have x := HFF.out ((k - 1) * A + j) (by omega)
          have y := HFF.out j (by omega)
          obtain ⟨_, _, x2, _⟩ := HCC.out _ (HFI.out ((k - 1) * A + j) (by omega))
          obtain ⟨y0, _, _, _⟩ := HCC.out _ (HFI.out j (by omega))
          have xl := HFI.out ((k - 1) * A + j) (by omega)
          have yl := HFI.out j (by omega)
          obtain ⟨u, hu⟩ : ∃ u, u = At f ((k - 1) * A + j) := ⟨_, rfl⟩
          obtain ⟨v, hv⟩ : ∃ v, v = At f j := ⟨_, rfl⟩
          rw [← hu] at x x2 xl
          rw [← hv] at y y0 yl
          have HU := Lib.hid hu
          have HV := Lib.hid hv
          clear hu hv
          by_cases he : (Tl ts u).b = (Tl ts v).t
          · have hed : ((Tl ts u).b != (Tl ts v).t) = false := by simp [he]
            have HE := Lib.hid he
            clear he
            go_wp2
            go_big_quiet (fail)
            go_wp2
            go_roundw
            case rel =>
              refine ⟨j + 1, by omega, by go_num, fun y hy => ?_, _, rfl⟩
              by_cases ey : y = j
              · rw [ey, ← HU.out, ← HV.out]; exact HE.out
              · exact HUU.out y (by omega)
            case measure => simp [intOf]; omega
          · have hed : ((Tl ts u).b != (Tl ts v).t) = true := by simp [he]
            have hno : ¬ Closes ts A k f := fun h => he (by rw [HU.out, HV.out]; exact h.2 j hlt2)
            have HNO := Lib.hid hno
            clear he hno
            go_wp2
            go_big_quiet (fail)
            go_wp2
            go_ret
            rw [decide_eq_false HNO.out]
            exact ⟨rfl, _, World.drewN_drewN ..⟩
        · obtain rfl : j = A := by omega
          go_wp2
          go_ret
          rw [decide_eq_true (show Closes ts j k f from ⟨HT.out, HUU.out⟩)]
          exact ⟨rfl, _, rfl⟩
end Go.Proofs.Ytjklclegkjnegaa
