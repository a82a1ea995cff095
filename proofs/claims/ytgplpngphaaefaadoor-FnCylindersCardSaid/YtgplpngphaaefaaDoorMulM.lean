/- MulM: the walks of the product of two square matrices, the reference's and the program's, and of the trace. -/
import Derived.Test.YtgplpngphaaefaaDoorMat0
import Derived.Test.YtgplpngphaaefaaDoorAllRows
namespace Go.Proofs.YtgplpngphaaefaaDoor
open Go.RowKit

/-- The row while it is reckoned, by the reference: entry by entry. -/
def rowS (a : List Int) (B : List (List Int)) (n k j : Nat) : List Int := (List.range n).map fun c => if c < k then dotTo a B c n else if c = k then dotTo a B c j else 0
theorem rowS_length (a : List Int) (B : List (List Int)) (n k j : Nat) : (rowS a B n k j).length = n := by simp [rowS]
theorem rowS_start (a : List Int) (B : List (List Int)) (n : Nat) : rowS a B n 0 0 = List.replicate n 0 := by
  apply List.ext_getElem (by simp [rowS])
  intro c h1 h2
  simp only [rowS, List.getElem_map, List.getElem_range, List.getElem_replicate]
  rw [if_neg (by omega)]
  split
  · rfl
  · rfl
theorem rowS_next (a : List Int) (B : List (List Int)) (n k : Nat) : rowS a B n k n = rowS a B n (k + 1) 0 := by
  apply List.ext_getElem (by simp [rowS])
  intro c h1 h2
  simp only [rowS, List.getElem_map, List.getElem_range]
  by_cases q : c < k
  · rw [if_pos q, if_pos (by omega)]
  · by_cases q2 : c = k
    · rw [if_neg q, if_pos q2, if_pos (by omega)]
    · rw [if_neg q, if_neg q2, if_neg (by omega)]
      split <;> rfl
theorem rowS_end (a : List Int) (B : List (List Int)) (n : Nat) : rowS a B n n 0 = mulRow a B n := by
  apply List.ext_getElem (by simp [rowS, mulRow])
  intro c h1 h2
  simp only [rowS, mulRow, List.getElem_map, List.getElem_range]
  rw [if_pos (by simpa [rowS] using h1)]
theorem rowS_at (a : List Int) (B : List (List Int)) {n k : Nat} (j : Nat) (h : k < n) : (rowS a B n k j)[k]'(by rw [rowS_length]; exact h) = dotTo a B k j := by
  simp [rowS]
theorem rowS_set (a : List Int) (B : List (List Int)) {n k : Nat} (j : Nat) : (rowS a B n k j).set k (wrap64 (dotTo a B k j + wrap64 (a.getD j 0 * (B.getD j []).getD k 0))) = rowS a B n k (j + 1) := by
  apply List.ext_getElem (by simp [rowS])
  intro c h1 h2
  rw [List.getElem_set]
  simp only [rowS, List.getElem_map, List.getElem_range]
  by_cases q2 : k = c
  · subst q2
    rw [if_pos rfl, if_neg (by omega), if_pos rfl]
    rfl
  · rw [if_neg q2]
    by_cases q : c < k
    · rw [if_pos q, if_pos q]
    · rw [if_neg q, if_neg q, if_neg (by omega), if_neg (by omega)]
/-- The row while it is reckoned, by the program: addend by addend. -/
def rowI (a : List Int) (B : List (List Int)) (n k j : Nat) : List Int := (List.range n).map fun c => if c < j then dotTo a B c (k + 1) else dotTo a B c k
theorem rowI_length (a : List Int) (B : List (List Int)) (n k j : Nat) : (rowI a B n k j).length = n := by simp [rowI]
theorem rowI_start (a : List Int) (B : List (List Int)) (n : Nat) : rowI a B n 0 0 = List.replicate n 0 := by
  apply List.ext_getElem (by simp [rowI])
  intro c h1 h2
  simp only [rowI, List.getElem_map, List.getElem_range, List.getElem_replicate]
  rw [if_neg (by omega)]
  rfl
theorem rowI_next (a : List Int) (B : List (List Int)) (n k : Nat) : rowI a B n k n = rowI a B n (k + 1) 0 := by
  apply List.ext_getElem (by simp [rowI])
  intro c h1 h2
  simp only [rowI, List.getElem_map, List.getElem_range]
  rw [if_pos (by simpa [rowI] using h1), if_neg (by omega)]
theorem rowI_end (a : List Int) (B : List (List Int)) (n : Nat) : rowI a B n n 0 = mulRow a B n := by
  apply List.ext_getElem (by simp [rowI, mulRow])
  intro c h1 h2
  simp only [rowI, mulRow, List.getElem_map, List.getElem_range]
  rw [if_neg (by omega)]
theorem rowI_at (a : List Int) (B : List (List Int)) {n j : Nat} (k : Nat) (h : j < n) : (rowI a B n k j)[j]'(by rw [rowI_length]; exact h) = dotTo a B j k := by
  simp [rowI]
theorem rowI_set (a : List Int) (B : List (List Int)) {n j : Nat} (k : Nat) : (rowI a B n k j).set j (wrap64 (dotTo a B j k + wrap64 (a.getD k 0 * (B.getD k []).getD j 0))) = rowI a B n k (j + 1) := by
  apply List.ext_getElem (by simp [rowI])
  intro c h1 h2
  rw [List.getElem_set]
  simp only [rowI, List.getElem_map, List.getElem_range]
  by_cases q2 : j = c
  · subst q2
    rw [if_pos rfl, if_pos (by omega)]
    rfl
  · rw [if_neg q2]
    by_cases q : c < j
    · rw [if_pos q, if_pos (by omega)]
    · rw [if_neg q, if_neg (by omega)]
theorem ints_set (xs : List Int) (k : Nat) (x : Int) : (ints xs).set k (.int .i64 x) = ints (xs.set k x) := by simp [ints, List.map_set]
theorem zeros_made (n : Nat) : mixed (.int .i64 0) (ints (List.replicate n 0)) 0 = ints (List.replicate n 0) := by rw [mixed_zero]; simp [ints]
theorem mulM_take {A : List (List Int)} (B : List (List Int)) {n i : Nat} (h : i < A.length) : (A.take (i + 1)).map (fun a => mulRow a B n) = (A.take i).map (fun a => mulRow a B n) ++ [mulRow (A.getD i []) B n] := by
  rw [List.take_succ_eq_append_getElem h, List.map_append]
  simp [List.getD_eq_getElem?_getD, h]

theorem MatAt.at {w : World} {ad : Option Addr} {A : List (List Int)} {n : Nat} (h : MatAt w ad A) (hs : Sq A n) {i j : Nat} (hi : i < n) (hj : j < n) :
    ∃ g off gi oi ci, ad = some ⟨g, off, none⟩ ∧ g < w.heap.size ∧ gi < w.heap.size ∧ w.cell? ⟨g, off + i, none⟩ = some (.slice (some ⟨gi, oi, none⟩) n ci) ∧ w.cell? ⟨gi, oi + j, none⟩ = some (.int .i64 ((A.getD i []).getD j 0)) := by
  obtain ⟨h1, h2⟩ := hs
  obtain ⟨g, off, ai, ci, rfl, hg, hc, hr⟩ := h.row (show i < A.length by omega)
  have hl : A[i].length = n := h2 _ (List.getElem_mem _)
  obtain ⟨gi, oi, rfl, hgi, hcc⟩ := hr.open (by rw [ints_length]; omega)
  rw [hl] at hc
  refine ⟨g, off, gi, oi, ci, rfl, hg, hgi, hc, ?_⟩
  rw [hcc j _ (ints_at A[i] j (by omega))]
  simp [List.getD_eq_getElem?_getD, show i < A.length by omega, show j < A[i].length by omega]

def MulTo (w wr : World) (A B : List (List Int)) (n i : Nat) (v : Value) : Prop :=
  ∃ vals, wr.ownsRow w.heap.size 29 1 v i vals ∧ RowsIn wr w.heap.size vals ((A.take i).map fun a => mulRow a B n) ∧ Below w.heap.size w wr
theorem MulTo.next {w wr w2 w3 : World} {A B : List (List Int)} {n i : Nat} {v v' : Value} {vals : List Value} {g c : Nat} (hrows : RowsIn wr w.heap.size vals ((A.take i).map fun a => mulRow a B n)) (hsz : w.heap.size ≤ wr.heap.size)
    (hb2 : Below wr.heap.size wr w2) (hown : w2.ownsRow w.heap.size 29 1 v i vals) (hrow : w2.ownsRow wr.heap.size 3 1 (.slice (some ⟨g, 0, none⟩) n c) n (ints (mulRow (A.getD i []) B n)))
    (q1 : w3.ownsRow w.heap.size 29 1 v' (i + 1) (vals ++ [.slice (some ⟨g, 0, none⟩) n c])) (q3 : w2.grownBy w3 v.ownBlock) (hb : Below w.heap.size w w3) (hi : i < A.length) : MulTo w w3 A B n (i + 1) v' := by
  have hl : (mulRow (A.getD i []) B n).length = n := by simp [mulRow]
  refine ⟨_, q1, ?_, hb⟩
  have h1 := RowsIn.snoc (xs := mulRow (A.getD i []) B n) (ai := some ⟨g, 0, none⟩) (ci := c) hrows hb2 hsz (by rw [hl]; exact hrow)
  rw [hl] at h1
  rw [mulM_take B hi]
  exact h1.grown hown (by decide) q3

set_option maxRecDepth 100000 in
set_option maxHeartbeats 1600000 in
theorem l12Times_any (aa ab : Option Addr) (ca cb n : Nat) (A B : List (List Int)) (hA : Sq A n) (hB : Sq B n) (hn : n ≤ 16) (w : World) (ha : MatAt w aa A) (hb : MatAt w ab B) :
    Calls Tryd.prog 45 #[.slice aa n ca, .slice ab n cb] w fun e w' => ∃ ad' cap', e = .returned (.slice ad' n cap') ∧ OwnMat w' w.heap.size (.slice ad' n cap') (mulM A B n) ∧ Below w.heap.size w w' := by
  have HA := Lib.hid hA
  have HB := Lib.hid hB
  have HMA := Lib.hid ha
  have HMB := Lib.hid hb
  have h0 : MulTo w (w.alloc (.cells #[] 29)) A B n 0 (.slice (some ⟨w.heap.size, 0, none⟩) 0 0) := ⟨[], ownsRow_empty w 29 1, RowsIn.nil _ _, (Below.refl _ _).alloc (Nat.le_refl _) _⟩
  have H0 := Lib.hid h0
  clear hA hB ha hb h0
  go_enter Tryd.func45, Tryd.ntmps45
  go_wp2
  go_loopw [5, 6] (fun v i wr => ∃ k : Nat, k ≤ n ∧ i = .int .i64 k ∧ MulTo w wr A B n k v) (fun _ i _ => n - (intOf i).toNat)
  case atStart => exact ⟨0, by omega, rfl, H0.out⟩
  case round =>
    obtain ⟨i, hi, rfl, hm⟩ := hrel
    obtain ⟨wo, rfl⟩ : ∃ wo : World, wo = wr := ⟨_, rfl⟩
    obtain ⟨vals, hown, hrows, hbo⟩ := hm
    have HOWN := Lib.hid hown
    have HROWS := Lib.hid hrows
    have HBO := Lib.hid hbo
    have hsz := hbo.size
    by_cases hlt : i < n
    · clear hrows hbo hown
      go_wp2_with (at_make; refine wpList_make _ rfl _ _ 29 rfl 3 (.int .i64 0) 1 8 Tryd.elemInt (.int .i64 0) ?c0 n rfl rfl ?c1 ?c2 (ints (List.replicate n 0)) ?c3 ?_)
      case c0 =>
        intro i hi
        obtain rfl : i = 0 := by simpa [Value.cells] using hi
        rfl
      case c1 => omega
      case c2 => unfold maxLen; omega
      case c3 => rw [ints_length, List.length_replicate]; omega
      intro w1 hrow _ hb1
      rw [zeros_made, ← rowS_start (A.getD i []) B n] at hrow
      have HR := Lib.hid hrow
      have HB1 := Lib.hid hb1
      clear hrow hb1
      go_wp2
      go_loopw [8] (fun x wr => ∃ k : Nat, k ≤ n ∧ x = .int .i64 k ∧ wr.ownsRow wo.heap.size 3 1 (.slice (some ⟨wo.heap.size, 0, none⟩) n n) n (ints (rowS (A.getD i []) B n k 0)) ∧ Below wo.heap.size wo wr) (fun x _ => n - (intOf x).toNat)
      case atStart => exact ⟨0, by omega, rfl, HR.out, HB1.out⟩
      case round =>
        obtain ⟨k, hk, rfl, hrow, hb2⟩ := hrel
        obtain ⟨wp, rfl⟩ : ∃ wp : World, wp = wr := ⟨_, rfl⟩
        have HR2 := Lib.hid hrow
        have HB2 := Lib.hid hb2
        clear hrow hb2 HR HB1
        by_cases hlk : k < n
        · go_wp2
          go_loopw [9] (fun x wr => ∃ j : Nat, j ≤ n ∧ x = .int .i64 j ∧ wr.ownsRow wo.heap.size 3 1 (.slice (some ⟨wo.heap.size, 0, none⟩) n n) n (ints (rowS (A.getD i []) B n k j)) ∧ Below wo.heap.size wo wr) (fun x _ => n - (intOf x).toNat)
          case atStart => exact ⟨0, by omega, rfl, HR2.out, HB2.out⟩
          case round =>
            obtain ⟨j, hj, rfl, hrow, hb3⟩ := hrel
            by_cases hlj : j < n
            · obtain ⟨g, off, gi, oi, ci, rfl, hg, hgi, x1, x2⟩ := HMA.out.at HA.out hlt hlj
              obtain ⟨g', off', gj, oj, cj, rfl, hg', hgj, y1, y2⟩ := HMB.out.at HB.out hlj hlk
              have hbw : Below w.heap.size w wr := HBO.out.trans (hb3.mono hsz)
              have a1 := (hbw.cell (p := ⟨g, off + i, none⟩) hg).trans x1
              have a2 := (hbw.cell (p := ⟨gi, oi + j, none⟩) hgi).trans x2
              have b1 := (hbw.cell (p := ⟨g', off' + j, none⟩) hg').trans y1
              have b2 := (hbw.cell (p := ⟨gj, oj + k, none⟩) hgj).trans y2
              have hck := hrow.cellAt k (by omega)
              rw [ints, List.getElem?_map, List.getElem?_eq_getElem (by rw [rowS_length]; exact hlk), rowS_at _ _ _ hlk] at hck
              simp only [Option.map_some] at hck
              have hfz := hrow.frozenAt k
              have hset := rowS_set (A.getD i []) B (n := n) (k := k) j
              obtain ⟨x, hx⟩ : ∃ x, x = (A.getD i []).getD j 0 := ⟨_, rfl⟩
              obtain ⟨y, hy⟩ : ∃ y, y = (B.getD j []).getD k 0 := ⟨_, rfl⟩
              obtain ⟨d, hd⟩ : ∃ d, d = dotTo (A.getD i []) B k j := ⟨_, rfl⟩
              rw [← hx, ← hy, ← hd] at hset
              rw [← hx] at a2
              rw [← hy] at b2
              rw [← hd] at hck
              have HSET := Lib.hid hset
              have HR3 := Lib.hid hrow
              have HB3 := Lib.hid hb3
              clear hset hrow hx hy hd x1 x2 y1 y2 hb3 hbw
              go_wp2
              go_still_tail 23, (by kernel_rfl)
              go_wp2
              go_roundw
              case rel =>
                refine ⟨j + 1, by omega, by go_num, ?_, HB3.out.drew.setCell (Nat.le_refl _) _⟩
                have q := (ownsRow_drewN HR3.out 1).stored k (.int .i64 (wrap64 (d + wrap64 (x * y))))
                have q1 := q.1
                rw [ints_set, HSET.out] at q1
                exact q1
              case measure => simp [intOf]; omega
            · obtain rfl : j = n := by omega
              have hrow' := hrow
              rw [rowS_next] at hrow'
              have HR3 := Lib.hid hrow'
              have HB3 := Lib.hid hb3
              clear hrow hrow' hb3
              go_wp2
              go_roundw
              case rel => exact ⟨k + 1, by omega, by go_num, HR3.out, HB3.out⟩
              case measure => simp [intOf]; omega
        · obtain rfl : k = n := by omega
          have hfar := ownsRow_far_below HOWN.out HB2.out (Nat.le_refl _)
          have hrow := HR2.out
          rw [rowS_end] at hrow
          have HROW := Lib.hid hrow
          have hsz2 := HB2.out.size
          have HFAR := Lib.hid hfar
          clear hrow hfar
          go_wp2_with (at_builtin; refine wpList_app1 rfl (.tmp 55) (.tmp 57) 37 rfl w.heap.size 29 _ 1 24 Tryd.elemInts _ i vals _ _ _ rfl rfl rfl HFAR.out (by rfl) (by simp [Value.oneCell']) (by unfold maxLen; omega) (by omega) (by omega) ?_; intro g' cap w3 q1 q2 q3 q4 q5 q6)
          go_roundw
          case rel =>
            refine ⟨i + 1, by omega, by go_num, ?_⟩
            exact MulTo.next HROWS.out hsz HB2.out HFAR.out HROW.out q1 q3 ((HBO.out.trans (HB2.out.mono hsz)).trans q2) (by rw [HA.out.1]; exact hlt)
          case measure => simp [intOf]; omega
    · obtain rfl : i = n := by omega
      obtain ⟨ad', cap', rfl, _⟩ := ownsRow_cells hown
      clear hrows hbo hown
      go_wp2
      go_ret
      refine ⟨ad', cap', rfl, ⟨vals, ?_, ?_⟩, HBO.out⟩
      · have e : (mulM A B i).length = i := by rw [mulM, List.length_map]; exact HA.out.1
        rw [e]
        exact HOWN.out
      · have := HROWS.out
        rw [List.take_of_length_le (by rw [HA.out.1]; omega)] at this
        exact this
end Go.Proofs.YtgplpngphaaefaaDoor
