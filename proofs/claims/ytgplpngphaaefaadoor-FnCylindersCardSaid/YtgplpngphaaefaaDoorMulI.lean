/- MulI: the walks of the program's product of two square matrices and of its trace. -/
import Derived.Test.YtgplpngphaaefaaDoorMulM
namespace Go.Proofs.YtgplpngphaaefaaDoor
open Go.RowKit

set_option maxRecDepth 100000 in
set_option maxHeartbeats 1600000 in
theorem product_any (aa ab : Option Addr) (ca cb n : Nat) (A B : List (List Int)) (hA : Sq A n) (hB : Sq B n) (hn : n ≤ 16) (w : World) (ha : MatAt w aa A) (hb : MatAt w ab B) :
    Calls Tryd.prog 28 #[.slice aa n ca, .slice ab n cb] w fun e w' => ∃ ad' cap', e = .returned (.slice ad' n cap') ∧ OwnMat w' w.heap.size (.slice ad' n cap') (mulM A B n) ∧ Below w.heap.size w w' := by
  have HA := Lib.hid hA
  have HB := Lib.hid hB
  have HMA := Lib.hid ha
  have HMB := Lib.hid hb
  have h0 : MulTo w w A B n 0 (.slice none 0 0) := ⟨[], World.ownsRow_nil _ _ _ _, RowsIn.nil _ _, Below.refl _ _⟩
  have H0 := Lib.hid h0
  clear hA hB ha hb h0
  go_enter Tryd.func28, Tryd.ntmps28
  go_wp2
  go_loopw [5, 12] (fun v i wr => ∃ k : Nat, k ≤ n ∧ i = .int .i64 k ∧ MulTo w wr A B n k v) (fun _ i _ => n - (intOf i).toNat)
  case atStart => exact ⟨0, by omega, rfl, H0.out⟩
  case round =>
    obtain ⟨i, hi, rfl, hm⟩ := hrel
    obtain ⟨wo, rfl⟩ : ∃ wo : World, wo = wr := ⟨_, rfl⟩
    obtain ⟨vals, hown, hrows, hbo⟩ := hm
    have HOWN := Lib.hid hown
    have HROWS := Lib.hid hrows
    have HBO := Lib.hid hbo
    have hsz := hbo.size
    by_cases hlt : i < n
    · clear hrows hbo hown
      go_wp2_with (at_make; refine wpList_make _ rfl _ _ 29 rfl 3 (.int .i64 0) 1 8 Tryd.elemInt (.int .i64 0) ?c0 n rfl rfl ?c1 ?c2 (ints (List.replicate n 0)) ?c3 ?_)
      case c0 =>
        intro i hi
        obtain rfl : i = 0 := by simpa [Value.cells] using hi
        rfl
      case c1 => omega
      case c2 => unfold maxLen; omega
      case c3 => rw [ints_length, List.length_replicate]; omega
      intro w1 hrow _ hb1
      rw [zeros_made, ← rowI_start (A.getD i []) B n] at hrow
      have HR := Lib.hid hrow
      have HB1 := Lib.hid hb1
      clear hrow hb1
      go_wp2
      go_loopw [20] (fun x wr => ∃ k : Nat, k ≤ n ∧ x = .int .i64 k ∧ wr.ownsRow wo.heap.size 3 1 (.slice (some ⟨wo.heap.size, 0, none⟩) n n) n (ints (rowI (A.getD i []) B n k 0)) ∧ Below wo.heap.size wo wr) (fun x _ => n - (intOf x).toNat)
      case atStart => exact ⟨0, by omega, rfl, HR.out, HB1.out⟩
      case round =>
        obtain ⟨k, hk, rfl, hrow, hb2⟩ := hrel
        obtain ⟨wp, rfl⟩ : ∃ wp : World, wp = wr := ⟨_, rfl⟩
        have HR2 := Lib.hid hrow
        have HB2 := Lib.hid hb2
        clear hrow hb2 HR HB1
        by_cases hlk : k < n
        · go_wp2
          go_loopw [25] (fun x wr => ∃ j : Nat, j ≤ n ∧ x = .int .i64 j ∧ wr.ownsRow wo.heap.size 3 1 (.slice (some ⟨wo.heap.size, 0, none⟩) n n) n (ints (rowI (A.getD i []) B n k j)) ∧ Below wo.heap.size wo wr) (fun x _ => n - (intOf x).toNat)
          case atStart => exact ⟨0, by omega, rfl, HR2.out, HB2.out⟩
          case round =>
            obtain ⟨j, hj, rfl, hrow, hb3⟩ := hrel
            by_cases hlj : j < n
            · obtain ⟨g, off, gi, oi, ci, rfl, hg, hgi, x1, x2⟩ := HMA.out.at HA.out hlt hlk
              obtain ⟨g', off', gj, oj, cj, rfl, hg', hgj, y1, y2⟩ := HMB.out.at HB.out hlk hlj
              have hbw : Below w.heap.size w wr := HBO.out.trans (hb3.mono hsz)
              have a1 := (hbw.cell (p := ⟨g, off + i, none⟩) hg).trans x1
              have a2 := (hbw.cell (p := ⟨gi, oi + k, none⟩) hgi).trans x2
              have b1 := (hbw.cell (p := ⟨g', off' + k, none⟩) hg').trans y1
              have b2 := (hbw.cell (p := ⟨gj, oj + j, none⟩) hgj).trans y2
              have hck := hrow.cellAt j (by omega)
              rw [ints, List.getElem?_map, List.getElem?_eq_getElem (by rw [rowI_length]; exact hlj), rowI_at _ _ _ hlj] at hck
              simp only [Option.map_some] at hck
              have hfz := hrow.frozenAt j
              have hset := rowI_set (A.getD i []) B (n := n) (j := j) k
              obtain ⟨x, hx⟩ : ∃ x, x = (A.getD i []).getD k 0 := ⟨_, rfl⟩
              obtain ⟨y, hy⟩ : ∃ y, y = (B.getD k []).getD j 0 := ⟨_, rfl⟩
              obtain ⟨d, hd⟩ : ∃ d, d = dotTo (A.getD i []) B j k := ⟨_, rfl⟩
              rw [← hx, ← hy, ← hd] at hset
              rw [← hx] at a2
              rw [← hy] at b2
              rw [← hd] at hck
              have HSET := Lib.hid hset
              have HR3 := Lib.hid hrow
              have HB3 := Lib.hid hb3
              clear hset hrow hx hy hd x1 x2 y1 y2 hb3 hbw
              go_wp2
              go_still_tail 21, (by kernel_rfl)
              go_wp2
              go_roundw
              case rel =>
                refine ⟨j + 1, by omega, by go_num, ?_, HB3.out.drew.setCell (Nat.le_refl _) _⟩
                have q := (ownsRow_drewN HR3.out 1).stored j (.int .i64 (wrap64 (d + wrap64 (x * y))))
                have q1 := q.1
                rw [ints_set, HSET.out] at q1
                exact q1
              case measure => simp [intOf]; omega
            · obtain rfl : j = n := by omega
              have hrow' := hrow
              rw [rowI_next] at hrow'
              have HR3 := Lib.hid hrow'
              have HB3 := Lib.hid hb3
              clear hrow hrow' hb3
              go_wp2
              go_roundw
              case rel => exact ⟨k + 1, by omega, by go_num, HR3.out, HB3.out⟩
              case measure => simp [intOf]; omega
        · obtain rfl : k = n := by omega
          have hfar := ownsRow_far_below HOWN.out HB2.out (Nat.le_refl _)
          have hrow := HR2.out
          rw [rowI_end] at hrow
          have HROW := Lib.hid hrow
          have hsz2 := HB2.out.size
          have HFAR := Lib.hid hfar
          clear hrow hfar
          go_wp2_with (at_builtin; refine wpList_app1 rfl (.tmp 51) (.tmp 53) 37 rfl w.heap.size 29 _ 1 24 Tryd.elemInts _ i vals _ _ _ rfl rfl rfl HFAR.out (by rfl) (by simp [Value.oneCell']) (by unfold maxLen; omega) (by omega) (by omega) ?_; intro g' cap w3 q1 q2 q3 q4 q5 q6)
          go_roundw
          case rel =>
            refine ⟨i + 1, by omega, by go_num, ?_⟩
            exact MulTo.next HROWS.out hsz HB2.out HFAR.out HROW.out q1 q3 ((HBO.out.trans (HB2.out.mono hsz)).trans q2) (by rw [HA.out.1]; exact hlt)
          case measure => simp [intOf]; omega
    · obtain rfl : i = n := by omega
      obtain ⟨ad', cap', rfl, _⟩ := ownsRow_cells hown
      clear hrows hbo hown
      go_wp2
      go_ret
      refine ⟨ad', cap', rfl, ⟨vals, ?_, ?_⟩, HBO.out⟩
      · have e : (mulM A B i).length = i := by rw [mulM, List.length_map]; exact HA.out.1
        rw [e]
        exact HOWN.out
      · have := HROWS.out
        rw [List.take_of_length_le (by rw [HA.out.1]; omega)] at this
        exact this

set_option maxHeartbeats 400000 in
theorem diagonal_any (aa : Option Addr) (ca n : Nat) (A : List (List Int)) (hA : Sq A n) (hn : n ≤ 16) (w : World) (ha : MatAt w aa A) :
    Calls Tryd.prog 29 #[.slice aa n ca] w fun e w' => e = .returned (.int .i64 (traceTo A n)) ∧ w = w' := by
  have HA := Lib.hid hA
  have HMA := Lib.hid ha
  clear hA ha
  go_enter Tryd.func29, Tryd.ntmps29
  go_wp2
  go_loopw [3, 7] (fun v i wr => ∃ k : Nat, k ≤ n ∧ i = .int .i64 k ∧ v = .int .i64 (traceTo A k) ∧ w = wr) (fun _ i _ => n - (intOf i).toNat)
  case atStart => exact ⟨0, by omega, rfl, rfl, rfl⟩
  case round =>
    obtain ⟨k, hk, rfl, rfl, rfl⟩ := hrel
    by_cases hlt : k < n
    · obtain ⟨g, off, gi, oi, ci, rfl, hg, hgi, x1, x2⟩ := HMA.out.at HA.out hlt hlt
      have ht : traceTo A (k + 1) = wrap64 (traceTo A k + (A.getD k []).getD k 0) := rfl
      obtain ⟨x, hx⟩ : ∃ x, x = (A.getD k []).getD k 0 := ⟨_, rfl⟩
      obtain ⟨t, htt⟩ : ∃ t, t = traceTo A k := ⟨_, rfl⟩
      rw [← hx, ← htt] at ht
      rw [← hx] at x2
      rw [← htt]
      have HT := Lib.hid ht
      clear ht hx htt
      go_wp2
      go_roundw
      case rel => exact ⟨k + 1, by omega, by go_num, by rw [HT.out], trivial⟩
      case measure => simp [intOf]; omega
    · obtain rfl : k = n := by omega
      go_wp2
      go_ret
      exact ⟨rfl, rfl⟩
end Go.Proofs.YtgplpngphaaefaaDoor
