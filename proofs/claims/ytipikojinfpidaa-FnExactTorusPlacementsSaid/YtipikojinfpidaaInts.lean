/- Ints: the walks of the laws' helpers on lists of integers: copy, compare, mark, hold. -/
import Derived.Test.YtipikojinfpidaaProg
import Derived.Test.YtipikojinfpidaaCells
namespace Go.Proofs.Ytipikojinfpidaa
open Go.RowKit

theorem Try.infoInt : (Try.prog.info? 3).map (fun i => (i.zero, i.size, i.bytes)) = some (some (.int .i64 0), 1, 8) := by kernel_rfl
theorem Try.elemInt : ElemT Try.prog 24 3 (.int .i64 0) 1 8 := ⟨Try.underlying24, info_parts Try.infoInt, rfl, by decide⟩

set_option maxHeartbeats 400000 in
theorem toIntS_any (ad : Option Addr) (cap : Nat) (xs : List Int) (w : World) (hn : xs.length ≤ 1048576) (hc : CellsAt w ad (ints xs)) :
    Calls Try.prog 36 #[.slice ad xs.length cap] w fun e w' => ∃ ad' cap', e = .returned (.slice ad' xs.length cap') ∧ w'.ownsRow w.heap.size 3 1 (.slice ad' xs.length cap') xs.length (ints xs) ∧ Below w.heap.size w w' := by
  have hlen := ints_length xs
  have HC := Lib.hid hc
  clear hc
  go_enter Try.func36, Try.ntmps36
  go_wp2_with (at_make; refine wpList_make _ rfl _ _ 24 rfl 3 (.int .i64 0) 1 8 Try.elemInt (.int .i64 0) ?c0 xs.length rfl rfl ?c1 ?c2 (ints xs) ?c3 ?_)
  case c0 =>
    intro i hi
    obtain rfl : i = 0 := by simpa [Value.cells] using hi
    rfl
  case c1 => omega
  case c2 => unfold maxLen; omega
  case c3 => rw [hlen]; omega
  intro w1 hown _ hb1
  have HO := Lib.hid hown
  clear hown
  go_wp2
  go_loopw [4] (fun i wr => ∃ k : Nat, k ≤ xs.length ∧ i = .int .i64 k ∧ wr.ownsRow w.heap.size 3 1 (.slice (some ⟨w.heap.size, 0, none⟩) xs.length xs.length) xs.length (mixed (.int .i64 0) (ints xs) k) ∧ Below w.heap.size w wr) (fun i _ => xs.length - (intOf i).toNat)
  case atStart => exact ⟨0, by omega, rfl, HO.out, hb1⟩
  case round =>
    obtain ⟨k, hk, rfl, hown, hb⟩ := hrel
    have HW := Lib.hid hown
    clear hown
    by_cases hlt : k < xs.length
    · obtain ⟨g, off, rfl, hg, hcc⟩ := HC.out.open (by rw [hlen]; omega)
      have hck := (hb.cell (p := ⟨g, off + k, none⟩) hg).trans (hcc k _ (ints_at xs k hlt))
      have hcs : ∃ u, wr.cell? ⟨w.heap.size, k, none⟩ = some u := by
        have h1 := HW.out.cellAt k (by omega)
        refine ⟨(mixed (.int .i64 0) (ints xs) k)[k]'(by have := HW.out.1; omega), ?_⟩
        rw [h1]; simp
      obtain ⟨u, hcs⟩ := hcs
      have hfs := HW.out.frozenAt k
      have hst := Lib.hid (HW.out.stored k (.int .i64 xs[k]))
      have HSET := Lib.hid (mixed_ints_set xs k hlt)
      clear hcc
      go_wp2
      go_roundw
      case rel =>
        refine ⟨k + 1, by omega, by go_num, ?_, hb.grown hst.out.2 hb.size (fun j hj => by cases hj; exact Nat.le_refl _)⟩
        have h2 := hst.out.1
        rw [HSET.out] at h2
        exact h2
      case measure => simp [intOf]; omega
    · obtain rfl : k = xs.length := by omega
      go_wp2
      go_ret
      have h2 := HW.out
      rw [← hlen, mixed_all, hlen] at h2
      exact ⟨_, _, rfl, h2, hb⟩
theorem getElem_ne_of_take {xs ys : List Int} {k : Nat} (h1 : k < xs.length) (h2 : k < ys.length) (h : ¬ xs[k] = ys[k]) : ¬ xs = ys := by
  rintro rfl; exact h rfl
theorem take_succ_eq {xs ys : List Int} {k : Nat} (h1 : k < xs.length) (h2 : k < ys.length) (ht : xs.take k = ys.take k) (h : xs[k] = ys[k]) : xs.take (k + 1) = ys.take (k + 1) := by
  rw [List.take_succ_eq_append_getElem h1, List.take_succ_eq_append_getElem h2, ht, h]

set_option maxHeartbeats 400000 in
theorem eqIntS_any (a1 a2 : Option Addr) (c1 c2 : Nat) (xs ys : List Int) (w : World) (hn : xs.length ≤ 1048576) (hc1 : CellsAt w a1 (ints xs)) (hc2 : CellsAt w a2 (ints ys)) :
    Calls Try.prog 9 #[.slice a1 xs.length c1, .slice a2 ys.length c2] w fun e w' => e = .returned (.bool (decide (xs = ys))) ∧ ∃ n, w' = w.drewN n := by
  by_cases hl : xs.length = ys.length
  · have hl1 := ints_length xs
    have hl2 := ints_length ys
    have H1 := Lib.hid hc1
    have H2 := Lib.hid hc2
    have hd : decide ((xs.length : Int) = (ys.length : Int)) = true := by simp; omega
    have HL := Lib.hid hl
    have hle : ys.length ≤ xs.length := by omega
    have hle2 : xs.length ≤ ys.length := by omega
    have hne : ((xs.length : Int) != (ys.length : Int)) = false := by simp; omega
    clear hc1 hc2 hl hd
    go_enter Try.func9, Try.ntmps9
    go_wp2
    go_loopw [5] (fun i wr => ∃ k : Nat, k ≤ xs.length ∧ i = .int .i64 k ∧ xs.take k = ys.take k ∧ ∃ n, wr = w.drewN n) (fun i _ => xs.length - (intOf i).toNat)
    case atStart => exact ⟨0, by omega, rfl, rfl, 0, rfl⟩
    case round =>
      obtain ⟨k, hk, rfl, ht, n, rfl⟩ := hrel
      have HT := Lib.hid ht
      clear ht
      by_cases hlt : k < xs.length
      · obtain ⟨g, off, rfl, hg, hcc⟩ := H1.out.open (by omega)
        obtain ⟨g', off', rfl, hg', hcc'⟩ := H2.out.open (by omega)
        have hx := hcc k _ (ints_at xs k hlt)
        have hy := hcc' k _ (ints_at ys k (by omega))
        have hlt2 : k < ys.length := by omega
        clear hcc hcc'
        by_cases he : xs[k] = ys[k]
        · have he' : (xs[k] != ys[k]) = false := by simp [he]
          have HE := Lib.hid he
          clear he
          go_wp2
          go_big_quiet (fail)
          go_wp2
          go_roundw
          case rel => exact ⟨k + 1, by omega, by go_num, take_succ_eq hlt hlt2 HT.out HE.out, _, rfl⟩
          case measure => simp [intOf]; omega
        · have he' : (xs[k] != ys[k]) = true := by simp [he]
          have HE := Lib.hid he
          clear he
          go_wp2
          go_big_quiet (fail)
          go_wp2
          go_ret
          have hf : decide (xs = ys) = false := decide_eq_false (getElem_ne_of_take hlt hlt2 HE.out)
          rw [hf]
          exact ⟨rfl, n + nq, by simp⟩
      · obtain rfl : k = xs.length := by omega
        go_wp2
        go_ret
        have hf : decide (xs = ys) = true := by
          have h := HT.out
          rw [List.take_length, List.take_of_length_le (by omega)] at h
          exact decide_eq_true h
        rw [hf]
        exact ⟨rfl, _, rfl⟩
  · have hne : ((xs.length : Int) != (ys.length : Int)) = true := by simp; omega
    have hf : decide (xs = ys) = false := decide_eq_false (by rintro rfl; exact hl rfl)
    rw [hf]
    clear hl hf hc1 hc2
    go_enter Try.func9, Try.ntmps9
    go_wp2
    go_ret
    exact ⟨rfl, 0, rfl⟩

theorem eqIntS_same (a1 a2 : Option Addr) (c1 c2 : Nat) (xs : List Int) (w : World) (hn : xs.length ≤ 1048576) (hc1 : CellsAt w a1 (ints xs)) (hc2 : CellsAt w a2 (ints xs)) :
    Calls Try.prog 9 #[.slice a1 xs.length c1, .slice a2 xs.length c2] w fun e w' => e = .returned (.bool true) ∧ Below w.heap.size w w' := by
  refine (eqIntS_any a1 a2 c1 c2 xs xs w hn hc1 hc2).mono ?_
  rintro e w' ⟨rfl, n, rfl⟩
  exact ⟨by simp, ⟨rfl, rfl, rfl, Nat.le_refl _, fun _ _ => rfl⟩⟩

end Go.Proofs.Ytipikojinfpidaa
