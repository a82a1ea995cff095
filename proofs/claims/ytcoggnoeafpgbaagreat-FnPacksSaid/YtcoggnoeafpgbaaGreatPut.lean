/- Put: the walk of the reference's l7Put: a number put into an ascending list, once. -/
import Derived.Test.YtcoggnoeafpgbaaGreatPut0
import Derived.Deep.DrawnRows
namespace Go.Proofs.YtcoggnoeafpgbaaGreat
open Go.RowKit

attribute [local go_sem ↓] Go.wp_at_zero Go.wp_at_succ

theorem cellsAt_dropIf {w : World} {g off c k n size : Nat} {cs : List Value} (h : CellsAt w (some ⟨g, off, none⟩) cs) (hn : n = k * size) (hc : cs.length ≤ c * size) :
    CellsAt w (if c = k then some ⟨g, off, none⟩ else some ⟨g, off + n, none⟩) (cs.drop (k * size)) := by
  split
  · rename_i e
    subst e
    left
    exact List.drop_eq_nil_of_le hc
  · exact cellsAt_drop h k hn
theorem putKG_succ {α : Type} [Inhabited α] (lt : α → α → Bool) (l : List α) (n : α) (k : Nat) : putKG lt l n (k + 1) = if lt n (l.getD k default) = true then putKG lt l n k else k + 1 := rfl

set_option maxRecDepth 100000 in
set_option maxHeartbeats 3200000 in
theorem l7Put_any (base : Nat) (ad : Option Addr) (c : Nat) (l : List Int) (n : Int) (w : World) (hl : l.length ≤ 1048576) (hbase : base ≤ w.heap.size) (hown : w.ownsRow base 3 1 (.slice ad l.length c) l.length (ints l)) :
    Calls Tryz.prog 67 #[.slice ad l.length c, .int .i64 n] w fun e w' => ∃ ad' c', e = .returned (.slice ad' (putG ltI l n).length c') ∧ w'.ownsRow base 3 1 (.slice ad' (putG ltI l n).length c') (putG ltI l n).length (ints (putG ltI l n)) ∧ Below w.heap.size w w' := by
  have hc := ownsRow_cellsAt hown
  obtain ⟨hlc, hnil⟩ := ownsRow_le_cap hown
  have HC := Lib.hid hc
  have HO := Lib.hid hown
  have HNIL := Lib.hid hnil
  have hil := ints_length l
  have hlcI : (l.length : Int) ≤ (c : Int) := by omega
  clear hc hown hnil
  go_enter Tryz.func67, Tryz.ntmps67
  go_wp2
  go_loopw [5] (fun i wr => ∃ k : Nat, k ≤ l.length ∧ i = .int .i64 k ∧ putKG ltI l n l.length = putKG ltI l n k ∧ w = wr) (fun i _ => (intOf i).toNat)
  case atStart => exact ⟨l.length, Nat.le_refl _, rfl, rfl, rfl⟩
  case round =>
    obtain ⟨k, hk, rfl, hput, rfl⟩ := hrel
    have HPUT := Lib.hid hput
    clear hput
    by_cases hk0 : 1 ≤ k
    · obtain ⟨g, off, rfl, hg, hcc⟩ := HC.out.open (by omega)
      have hx := hcc (k - 1) _ (ints_at l (k - 1) (by omega))
      have hs := putKG_succ ltI l n (k - 1)
      rw [show k - 1 + 1 = k by omega, getDG (show k - 1 < l.length by omega)] at hs
      obtain ⟨x, hxx⟩ : ∃ x, x = l[k - 1]'(by omega) := ⟨_, rfl⟩
      rw [← hxx] at hx hs
      have HXX := Lib.hid hxx
      clear hcc hxx
      by_cases hgt : n < x
      · rw [if_pos (by simp [ltI, hgt])] at hs
        have HS := Lib.hid hs
        clear hs
        go_wp2
        go_roundw
        case rel => exact ⟨k - 1, by omega, by congr 1; omega, by rw [HPUT.out, HS.out], trivial⟩
        case measure => simp [intOf]; omega
      · rw [if_neg (by simp [ltI, hgt])] at hs
        have HS := Lib.hid hs
        clear hs
        by_cases heq : x = n
        · have hb : (x == n) = true := by simp [heq]
          have hv : putG ltI l n = l := by
            unfold putG
            rw [if_pos]
            rw [HPUT.out, HS.out]
            exact ⟨by omega, by rw [getDG (by omega), ← HXX.out]; exact heq⟩
          have HV := Lib.hid hv
          clear heq hv
          go_wp2
          go_ret
          rw [HV.out]
          exact ⟨_, c, rfl, HO.out, Below.refl _ _⟩
        · have hb : (x == n) = false := by simp [heq]
          have hv : putG ltI l n = l.take k ++ [n] ++ l.drop k := by
            unfold putG
            rw [if_neg]
            · rw [HPUT.out, HS.out]; simp
            · rw [HPUT.out, HS.out, getDG (by omega), ← HXX.out]
              exact fun h => heq h.2
          have HV := Lib.hid hv
          clear heq hv
          go_wp2
          have i1 : (0 : Int) ≤ (k : Int) := by omega
          have i2 : (k : Int) ≤ (c : Int) := by omega
          have i3 : (k : Int) ≤ (l.length : Int) := by omega
          have HT := Lib.hid (show CellsAt w (some ⟨g, off, none⟩) (ints (l.take k)) by rw [ints_take]; exact HC.out.take k)
          have HD := Lib.hid (show CellsAt w (if c = k then some ⟨g, off, none⟩ else some ⟨g, off + k, none⟩) (ints (l.drop k)) by rw [ints_drop]; have := cellsAt_dropIf (c := c) (k := k) (n := k) (size := 1) HC.out (by omega) (by omega); simpa using this)
          have HLT := Lib.hid (show (ints (l.take k)).length = k by rw [ints_length, List.length_take]; omega)
          have HLD := Lib.hid (show (ints (l.drop k)).length = l.length - k by rw [ints_length, List.length_drop])
          have HLV := Lib.hid (show (l.take k ++ [n] ++ l.drop k).length = k + 1 + (l.length - k) by simp; omega)
          go_region_held3 (fun _ => True) (trivial)
            (first
              | (refine step_app0 rfl (.tmp 33) (.tmp 36) 22 rfl w.heap.size 3 _ 1 8 Tryz.elemInt _ (by rfl) (by first | exact empty_a (w := w) (by rfl) | exact empty_b (w := w) (by rfl) | exact empty_c (w := w) (by rfl)) _ k c (ints (l.take k)) (by rfl) (fun h => by cases h) (by rw [HLT.out, Nat.mul_one]) (CellsAt.below HT.out (by first | exact below_one (by rfl) rfl rfl rfl | exact below_two (by rfl) rfl rfl rfl)) (ints_one _) (by unfold maxLen; omega) (by omega) (by first | omega | (simp; done) | (simp; omega)) ?_; intro a1 c1 w1 p1 p2 p3; have B1 : Below w.heap.size w w1 := Below.trans (by first | exact below_one (by rfl) rfl rfl rfl | exact below_two (by rfl) rfl rfl rfl) p2; have hz1 := B1.size)
              | (refine step_appN rfl (.tmp 37) (.tmp 39) 22 rfl w.heap.size 3 _ 1 8 Tryz.elemInt (.slice a1 k c1) k (ints (l.take k)) (by rfl) (by first | exact p1.alloc _ | exact p1) _ 1 1 (ints [n]) (by rfl) (fun h => by cases h) (by rfl) (by first | exact elem_a (w := w1) (by rfl) | exact elem_b (w := w) (by rfl) p3 (by rfl) | exact elem_c (w := w) (by rfl) p3 (by rfl)) (ints_one _) (by unfold maxLen; omega) (by omega) (by first | omega | (simp; done) | (simp; omega)) ?_; intro a2 c2 w2 r1 r2 r3; have B2 : Below w.heap.size w w2 := (by first | exact B1.trans r2 | exact (B1.alloc hz1 _).trans r2); have hz2 := B2.size)
              | (refine step_appN rfl (.tmp 40) (.tmp 43) 22 rfl w.heap.size 3 _ 1 8 Tryz.elemInt (.slice a2 (k + 1) c2) (k + 1) (ints (l.take k) ++ ints [n]) (by rfl) r1 (if c = k then some ⟨g, off, none⟩ else some ⟨g, off + k, none⟩) (l.length - k) (c - k) (ints (l.drop k)) (by rfl) (fun h => by split at h <;> cases h) (by rw [HLD.out, Nat.mul_one]) (HD.out.below B2) (ints_one _) (by unfold maxLen; omega) (by omega) (by first | omega | (simp; done) | (simp; omega)) ?_; intro a3 c3 w3 s1 s2 s3))
          all_goals go_wp2
          all_goals go_ret
          all_goals rw [HV.out, HLV.out, ints_append, ints_append]
          all_goals exact ⟨a3, c3, rfl, ownsRow_rebase s1 hbase, B2.trans s2⟩
    · obtain rfl : k = 0 := by omega
      have hv : putG ltI l n = [n] ++ l := by
        unfold putG
        rw [HPUT.out]
        rw [if_neg (by exact fun h => hk0 h.1)]
        rfl
      have HV := Lib.hid hv
      have HLV := Lib.hid (show ([n] ++ l).length = 1 + l.length by simp; omega)
      clear hv
      cases ad with
      | some a =>
        have hform : a.spot = none ∧ True := by
          rcases HO.out.2 with ⟨h1, _⟩ | ⟨g, c', cur, h1, _⟩
          · cases h1
          · cases h1; exact ⟨rfl, trivial⟩
        obtain ⟨g, off, sp⟩ := a
        obtain ⟨rfl, _⟩ := hform
        go_wp2
        have i2 : (0 : Int) ≤ (c : Int) := by omega
        have i3 : (0 : Int) ≤ (l.length : Int) := by omega
        go_region_held3 (fun _ => True) (trivial)
          (first
            | (refine step_app0 rfl (.tmp 33) (.tmp 36) 22 rfl w.heap.size 3 _ 1 8 Tryz.elemInt _ (by rfl) (by first | exact empty_a (w := w) (by rfl) | exact empty_b (w := w) (by rfl) | exact empty_c (w := w) (by rfl)) _ 0 c [] (by rfl) (fun h => by cases h) (by rfl) (CellsAt.nil _ _) (by simp) (by unfold maxLen; omega) (by omega) (by first | omega | (simp; done) | (simp; omega)) ?_; intro a1 c1 w1 p1 p2 p3; have B1 : Below w.heap.size w w1 := Below.trans (by first | exact below_one (by rfl) rfl rfl rfl | exact below_two (by rfl) rfl rfl rfl) p2; have hz1 := B1.size)
            | (refine step_app0 rfl (.tmp 37) (.tmp 39) 22 rfl w.heap.size 3 _ 1 8 Tryz.elemInt (.slice a1 0 c1) (by rfl) (by first | exact p1.alloc _ | exact p1) _ 1 1 (ints [n]) (by rfl) (fun h => by cases h) (by rfl) (by first | exact elem_a (w := w1) (by rfl) | exact elem_b (w := w) (by rfl) p3 (by rfl) | exact elem_c (w := w) (by rfl) p3 (by rfl)) (ints_one _) (by unfold maxLen; omega) (by omega) (by first | omega | (simp; done) | (simp; omega)) ?_; intro a2 c2 w2 r1 r2 r3; have B2 : Below w.heap.size w w2 := (by first | exact B1.trans r2 | exact (B1.alloc hz1 _).trans r2); have hz2 := B2.size)
            | (refine step_appN rfl (.tmp 40) (.tmp 43) 22 rfl w.heap.size 3 _ 1 8 Tryz.elemInt (.slice a2 1 c2) 1 (ints [n]) (by rfl) r1 (some ⟨g, off, none⟩) l.length c (ints l) (by rfl) (fun h => by cases h) (by rw [hil, Nat.mul_one]) (HC.out.below B2) (ints_one _) (by unfold maxLen; omega) (by omega) (by first | omega | (simp; done) | (simp; omega)) ?_; intro a3 c3 w3 s1 s2 s3))
        all_goals go_wp2
        all_goals go_ret
        all_goals rw [HV.out, HLV.out, ints_append]
        all_goals exact ⟨a3, c3, rfl, ownsRow_rebase s1 hbase, B2.trans s2⟩
      | none =>
        obtain rfl : c = 0 := HNIL.out rfl
        obtain rfl : l = [] := List.eq_nil_of_length_eq_zero (by omega)
        go_wp2
        go_region_held3 (fun _ => True) (trivial)
          (first
            | (refine step_app0 rfl (.tmp 33) (.tmp 36) 22 rfl w.heap.size 3 _ 1 8 Tryz.elemInt _ (by rfl) (by first | exact empty_a (w := w) (by rfl) | exact empty_b (w := w) (by rfl) | exact empty_c (w := w) (by rfl)) _ 0 0 [] (by rfl) (fun _ => rfl) (by rfl) (CellsAt.nil _ _) (by simp) (by unfold maxLen; omega) (by omega) (by first | omega | (simp; done) | (simp; omega)) ?_; intro a1 c1 w1 p1 p2 p3; have B1 : Below w.heap.size w w1 := Below.trans (by first | exact below_one (by rfl) rfl rfl rfl | exact below_two (by rfl) rfl rfl rfl) p2; have hz1 := B1.size)
            | (refine step_app0 rfl (.tmp 37) (.tmp 39) 22 rfl w.heap.size 3 _ 1 8 Tryz.elemInt (.slice a1 0 c1) (by rfl) (by first | exact p1.alloc _ | exact p1) _ 1 1 (ints [n]) (by rfl) (fun h => by cases h) (by rfl) (by first | exact elem_a (w := w1) (by rfl) | exact elem_b (w := w) (by rfl) p3 (by rfl) | exact elem_c (w := w) (by rfl) p3 (by rfl)) (ints_one _) (by unfold maxLen; omega) (by omega) (by first | omega | (simp; done) | (simp; omega)) ?_; intro a2 c2 w2 r1 r2 r3; have B2 : Below w.heap.size w w2 := (by first | exact B1.trans r2 | exact (B1.alloc hz1 _).trans r2); have hz2 := B2.size)
            | (refine step_appN rfl (.tmp 40) (.tmp 43) 22 rfl w.heap.size 3 _ 1 8 Tryz.elemInt (.slice a2 1 c2) 1 (ints [n]) (by rfl) r1 none 0 0 (ints []) (by rfl) (fun _ => rfl) (by rfl) (CellsAt.nil _ _) (ints_one _) (by unfold maxLen; omega) (by omega) (by first | omega | (simp; done) | (simp; omega)) ?_; intro a3 c3 w3 s1 s2 s3))
        all_goals go_wp2
        all_goals go_ret
        all_goals rw [HV.out, HLV.out, ints_append]
        all_goals exact ⟨a3, c3, rfl, ownsRow_rebase s1 hbase, B2.trans s2⟩
end Go.Proofs.YtcoggnoeafpgbaaGreat
