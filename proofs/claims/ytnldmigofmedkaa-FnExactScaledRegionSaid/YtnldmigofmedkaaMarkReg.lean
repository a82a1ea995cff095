/- MarkReg: the walk of the helper that writes marks into a region's rows. -/
import Derived.Test.YtnldmigofmedkaaRegH
import Derived.Test.YtnldmigofmedkaaMarkInts
import Derived.Test.YtnldmigofmedkaaMarkFar
namespace Go.Proofs.Ytnldmigofmedkaa
open Go.RowKit

theorem Touched.grown_alloc {lo hi : Nat} {w w' : World} {ob : Obj} (h : Touched lo hi (w.alloc ob) w') : Touched lo hi w w' :=
  Touched.trans (b := w.alloc ob) ⟨rfl, rfl, rfl, by simp, fun k hk _ => Below.heap_alloc w ob k hk⟩ h
set_option maxHeartbeats 400000 in
theorem markRegion_all {k : Nat} (lo hi : Nat) (b : Int) (ad : Option Addr) (cap : Nat) (xs : List Int) (w : World) (hn : xs.length ≤ 1048576) (hk : k ≤ 1048576) (ho : Owned w lo hi 3 1 ad xs.length cap (ints xs)) :
    Calls Try.prog 29 #[.agg #[.int .i64 b, .slice ad xs.length cap], .int .i64 k] w fun e w' => e = .returned (.int .i64 ((k + xs.length : Nat) : Int)) ∧ Owned w' lo hi 3 1 ad xs.length cap (marks k xs.length) ∧ Touched lo hi w w' := by
  have ho2 : Owned (w.alloc (.cells #[.int .i64 b, .slice ad xs.length cap] 44)) lo hi 3 1 ad xs.length cap (ints xs) := ⟨ho.1.alloc _, ho.2⟩
  have hm := markIntS_all (k := k) lo hi ad cap xs _ hn hk ho2
  have HM := Lib.hid hm
  clear hm ho2 ho
  go_enter Try.func29, Try.ntmps29
  go_wp2_with fail
  refine HM.out.mono ?_
  rintro e w1 ⟨rfl, ho1, ht1⟩
  have HO := Lib.hid ho1
  clear ho1
  go_wp2
  go_ret
  exact ⟨rfl, HO.out, ht1.grown_alloc⟩
end Go.Proofs.Ytnldmigofmedkaa
