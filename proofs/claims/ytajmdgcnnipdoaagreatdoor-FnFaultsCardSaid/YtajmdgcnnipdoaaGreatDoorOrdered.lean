/- Ordered: the library's sort of integers on a slice of the call's own; the walk of the program's ordered. -/
import Derived.Test.YtajmdgcnnipdoaaGreatDoorShelf
import Derived.Test.YtajmdgcnnipdoaaGreatDoorAllBase
import Derived.Test.YtajmdgcnnipdoaaGreatDoorAllFrame
import Derived.Test.YtajmdgcnnipdoaaGreatDoorAllPut0
import Derived.Sort.OwnSortedInts
namespace Go.Proofs.YtajmdgcnnipdoaaGreatDoor
open Go.RowKit

theorem sortInts_any (base : Nat) (ad : Option Addr) (cap : Nat) (zs : List Int) (w : World) (hn : zs.length ≤ 1048576) (ho : w.ownsRow base 3 1 (.slice ad zs.length cap) zs.length (ints zs)) :
    Calls Tryz.prog 142 #[.slice ad zs.length cap] w fun e w' => e = .returned (.tuple #[]) ∧ w'.ownsRow base 3 1 (.slice ad zs.length cap) zs.length (ints (sortIL zs)) ∧ w.grownBy w' (Value.slice ad zs.length cap).ownBlock := by
  have ho' := ho
  rcases ho.2 with ⟨h1, h2⟩ | ⟨g, cap', cur, h1, hb, hg, q1, q2, q3, q4⟩
  · have hz : zs = [] := List.eq_nil_of_length_eq_zero (by omega)
    subst hz
    cases h1
    refine (Tryz.sort_Ints_none none 0 w).mono ?_
    rintro e w' ⟨rfl, h⟩
    refine ⟨rfl, ?_, ?_⟩
    · subst h
      have e : sortIL [] = [] := by simp [sortIL]
      rw [e]
      exact ho'
    · subst h; exact grownBy_refl _ _
  · simp only [Value.slice.injEq] at h1
    obtain ⟨rfl, _, rfl⟩ := h1
    rw [Nat.mul_one] at q4
    have hlen : (sortIL zs).length = zs.length := sortIL_length zs
    refine (Tryz.sort_Ints g 0 cap zs w (Go.holds_of_blockI hg (by simpa [ints] using q4)) (Array.getElem?_eq_some_iff.1 hg).1 (by omega)).mono ?_
    rintro e w' ⟨rfl, n, os, rfl⟩
    exact ⟨rfl, Go.ownsRow_sortedI (ss := zs) (ts := sortIL zs) hlen hb hg q1 q2 q3, Go.grownBy_sortedI _⟩

theorem dedToG_hit {l : List Int} {i : Nat} (h : i = 0 ∨ l.getD (i - 1) default ≠ l.getD i default) : dedToG l (i + 1) = dedToG l i ++ [l.getD i default] := by
  rw [dedToG, if_pos h]
theorem dedToG_miss {l : List Int} {i : Nat} (h : ¬ (i = 0 ∨ l.getD (i - 1) default ≠ l.getD i default)) : dedToG l (i + 1) = dedToG l i := by
  rw [dedToG, if_neg h]

set_option maxRecDepth 100000 in
set_option maxHeartbeats 3200000 in
theorem ordered_any (ad : Option Addr) (cap : Nat) (l : List Int) (w : World) (hn : l.length ≤ 1048576) (hnil : ad = none → cap = 0) (hc : CellsAt w ad (ints l)) :
    Calls Tryz.prog 106 #[.slice ad l.length cap] w fun e w' => ∃ ad' c', e = .returned (.slice ad' (putAllG ltI l).length c') ∧ w'.ownsRow w.heap.size 3 1 (.slice ad' (putAllG ltI l).length c') (putAllG ltI l).length (ints (putAllG ltI l)) ∧ Below w.heap.size w w' := by
  have HC := Lib.hid hc
  have HNIL := Lib.hid hnil
  have HEQ := Lib.hid (orderedI_eq l)
  clear hc hnil
  go_enter Tryz.func106, Tryz.ntmps106
  go_wp2_with fail
  refine (copyInts_any ad cap l w hn HNIL.out HC.out).mono ?_
  rintro e w1 ⟨a1, c1, rfl, ho1, hb1⟩
  have HO1 := Lib.hid ho1
  have HB1 := Lib.hid hb1
  clear ho1 hb1
  go_wp2_with fail
  refine (sortInts_any w.heap.size a1 c1 l w1 hn HO1.out).mono ?_
  rintro e w2 ⟨rfl, ho2, hg2⟩
  have hb2 : Below w.heap.size w w2 := HB1.out.grown hg2 HB1.out.size (fun q hq => (HO1.out.lt q hq).1)
  obtain ⟨S, hS⟩ : ∃ S, S = sortIL l := ⟨_, rfl⟩
  have hlen : S.length ≤ l.length := by rw [hS, sortIL_length]; exact Nat.le_refl _
  have hlen' : l.length ≤ S.length := by rw [hS, sortIL_length]; exact Nat.le_refl _
  rw [← hS] at ho2 HEQ
  have HS := Lib.hid (ownsRow_cellsAt ho2)
  have HB2 := Lib.hid hb2
  have hil := ints_length S
  clear ho2 hg2 hb2 hS
  go_wp2
  go_loopw [4, 13] (fun s i wr => ∃ k : Nat, k ≤ l.length ∧ i = .int .i64 k ∧ wr.ownsRow w2.heap.size 3 1 s (dedToG S k).length (ints (dedToG S k)) ∧ Below w2.heap.size w2 wr) (fun _ i _ => l.length - (intOf i).toNat)
  case atStart => exact ⟨0, by omega, rfl, World.ownsRow_nil _ _ _ _, Below.refl _ _⟩
  case round =>
    obtain ⟨k, hk, rfl, hown, hb⟩ := hrel
    have HW := Lib.hid hown
    have HB := Lib.hid hb
    have hszr := hb.size
    have hdl := dedToG_le S k
    clear hown hb
    by_cases hlt : k < l.length
    · obtain ⟨g, off, rfl, hg, hcc⟩ := HS.out.open (by omega)
      have y0 := (HB.out.cell (p := ⟨g, off + k, none⟩) hg).trans (hcc k _ (ints_at S k (by omega)))
      have hhit := dedToG_hit (l := S) (i := k)
      have hmiss := dedToG_miss (l := S) (i := k)
      rw [getDG (show k < S.length by omega)] at hhit hmiss
      by_cases hk0 : k = 0
      · have b0 : ((k : Int) == 0) = true := by simp [hk0]
        have HHIT := Lib.hid (hhit (.inl hk0))
        clear hhit hmiss hcc hk0
        generalize S[k] = x at y0 HHIT
        go_wp2_with (at_builtin; refine wpList_app1 rfl (.tmp 29) (.tmp 31) 24 rfl w2.heap.size 3 _ 1 8 Tryz.elemInt _ _ _ _ _ _ rfl rfl rfl HW.out (by rfl) (by simp [Value.oneCell']) (by unfold maxLen; omega) (by omega) (by omega) ?_; intro g' cap w3 q1 q2 q3 q4 q5 q6)
        go_wp2
        go_roundw
        case rel =>
          refine ⟨k + 1, by omega, by go_num, ?_, HB.out.trans q2⟩
          rw [HHIT.out, ints_append, List.length_append]
          exact q1
        case measure => simp [intOf]; omega
      · have b0 : ((k : Int) == 0) = false := by simp [hk0]
        have y1 := (HB.out.cell (p := ⟨g, off + (k - 1), none⟩) hg).trans (hcc (k - 1) _ (ints_at S (k - 1) (by omega)))
        rw [getDG (show k - 1 < S.length by omega)] at hhit hmiss
        have hk1 : 1 ≤ k := by omega
        clear hcc
        generalize S[k] = x at y0 hhit hmiss
        generalize S[k - 1]'(by omega) = y at y1 hhit hmiss
        by_cases hxy : y = x
        · have bx : (y != x) = false := by simp [hxy]
          have HMISS := Lib.hid (hmiss (by rintro (h | h); exact hk0 h; exact h hxy))
          clear hhit hmiss hxy hk0
          go_wp2
          go_roundw
          case rel => exact ⟨k + 1, by omega, by go_num, by rw [HMISS.out]; exact HW.out, HB.out⟩
          case measure => simp [intOf]; omega
        · have bx : (y != x) = true := by simp [hxy]
          have HHIT := Lib.hid (hhit (.inr hxy))
          clear hhit hmiss hxy hk0
          go_wp2_with (at_builtin; refine wpList_app1 rfl (.tmp 29) (.tmp 31) 24 rfl w2.heap.size 3 _ 1 8 Tryz.elemInt _ _ _ _ _ _ rfl rfl rfl HW.out (by rfl) (by simp [Value.oneCell']) (by unfold maxLen; omega) (by omega) (by omega) ?_; intro g' cap w3 q1 q2 q3 q4 q5 q6)
          go_wp2
          go_roundw
          case rel =>
            refine ⟨k + 1, by omega, by go_num, ?_, HB.out.trans q2⟩
            rw [HHIT.out, ints_append, List.length_append]
            exact q1
          case measure => simp [intOf]; omega
    · obtain rfl : k = l.length := by omega
      go_wp2
      go_ret
      rw [← HEQ.out]
      obtain ⟨ad', c', rfl, _⟩ := ownsRow_cells HW.out
      exact ⟨ad', c', rfl, ownsRow_rebase HW.out HB2.out.size, HB2.out.trans (HB.out.mono HB2.out.size)⟩
end Go.Proofs.YtajmdgcnnipdoaaGreatDoor
