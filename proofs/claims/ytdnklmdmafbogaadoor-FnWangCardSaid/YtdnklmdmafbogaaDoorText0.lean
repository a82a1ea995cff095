/- Text0: numbers below 10 as text, by the program and by the reference. -/
import Derived.Test.YtdnklmdmafbogaaDoorAllBase
import Derived.Test.YtdnklmdmafbogaaDoorShelf
import Derived.IntWalk
import Derived.Laws.IdiomStrings
namespace Go.Proofs.YtdnklmdmafbogaaDoor
open Go.RowKit

/-- A number's text. -/
def numB (n : Nat) : ByteArray := ⟨(Lib.decDigits n).toArray⟩
theorem numB_small {n : Nat} (h : n < 10) : numB n = ⟨#[UInt8.ofNat (48 + n)]⟩ := by
  unfold numB
  rw [Lib.decDigits_one h]
theorem ba_nil (a : ByteArray) : a ++ (⟨#[]⟩ : ByteArray) = a := by
  apply ByteArray.ext
  rw [ByteArray.data_append]
  exact Array.append_empty

theorem implNum (n : Nat) (h : n < 10) (w : World) :
    Calls Tryd.prog 52 #[.int .i64 n] w fun e w' => e = .returned (.string (numB n)) ∧ w' = w := by
  have H := Lib.hid (Tryd.strconv_Itoa_small n (by omega) w)
  go_enter Tryd.func52, Tryd.ntmps52
  go_wp2_with fail
  refine H.out.mono ?_
  rintro e w' ⟨rfl, rfl⟩
  go_wp2
  go_ret
  exact ⟨rfl, rfl⟩

set_option maxRecDepth 100000 in
set_option maxHeartbeats 1600000 in
theorem specNum (n : Nat) (h : n < 10) (w : World) :
    Calls Tryd.prog 50 #[.int .i64 n] w fun e w' => e = .returned (.string (numB n)) ∧ Below w.heap.size w w' := by
  rw [numB_small h]
  by_cases h0 : n = 0
  · subst h0
    go_enter Tryd.func50, Tryd.ntmps50
    go_wp2
    go_ret
    exact ⟨by rfl, Below.refl _ _⟩
  · have hne : ((n : Int) == 0) = false := by simp; omega
    have hne2 : ((n : Int) != 0) = true := by simp; omega
    have hlt : decide ((n : Int) < 0) = false := decide_eq_false (by omega)
    have hm : (n : Int).tmod 10 = (n : Int) := by rw [Int.tmod_eq_emod_of_nonneg (by omega)]; omega
    have hd : (n : Int).tdiv 10 = 0 := by rw [Int.tdiv_eq_ediv_of_nonneg (by omega)]; omega
    have hcv : Sem.run Tryd.prog (convert 33 9 (.slice (some ⟨w.heap.size, 0, none⟩) 1 1)) (w.alloc (.cells #[.int .u8 (48 + (n : Int))] 5)) = .ok (.string ⟨#[UInt8.ofNat (48 + n)]⟩) (w.alloc (.cells #[.int .u8 (48 + (n : Int))] 5)) := run_convert_bytes_back (P := Tryd.prog) (w.alloc (.cells #[.int .u8 (48 + (n : Int))] 5)) 33 9 5 ⟨w.heap.size, 0, none⟩ 1 [UInt8.ofNat (48 + n)] Tryd.underlying33 Tryd.underlying5 Tryd.underlying9 (fun j hj => by
      obtain rfl : j = 0 := by simpa using hj
      have hb : ((UInt8.ofNat (48 + n)).toNat : Int) = 48 + (n : Int) := by
        rw [UInt8.toNat_ofNat']
        omega
      show (w.alloc _).cell? ⟨w.heap.size, 0, none⟩ = _
      rw [World.cell?_alloc_mark]
      show some (Value.int .u8 (48 + (n : Int))) = some (.int .u8 ((UInt8.ofNat (48 + n)).toNat : Int))
      rw [hb])
    have hnil := ba_nil (⟨#[UInt8.ofNat (48 + n)]⟩ : ByteArray)
    generalize UInt8.ofNat (48 + n) = x at hcv hnil ⊢
    go_enter Tryd.func50, Tryd.ntmps50
    go_wp2
    go_loopw [0, 3] (fun nv ov wr => (nv = .int .i64 n ∧ ov = .string ⟨#[]⟩ ∧ wr = w) ∨ (nv = .int .i64 0 ∧ ov = .string ⟨#[x]⟩ ∧ Below w.heap.size w wr)) (fun nv _ _ => (intOf nv).toNat)
    case atStart => exact .inl ⟨rfl, rfl, rfl⟩
    case round =>
      rcases hrel with ⟨rfl, rfl, rfl⟩ | ⟨rfl, rfl, hb⟩
      · go_wp2
        go_roundw
        case rel => exact .inr ⟨rfl, by first | rfl | (rw [hnil]), (Below.refl _ _).alloc (Nat.le_refl _) _⟩
        case measure => simp [intOf]; omega
      · go_wp2
        go_ret
        exact ⟨rfl, hb⟩
end Go.Proofs.YtdnklmdmafbogaaDoor
