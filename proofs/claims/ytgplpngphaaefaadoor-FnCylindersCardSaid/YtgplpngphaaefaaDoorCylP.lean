/- CylP: the walks of CylinderPlacements, the reference's and the program's. -/
import Derived.Test.YtgplpngphaaefaaDoorCylP0
import Derived.Test.YtgplpngphaaefaaDoorAllBase
import Derived.Test.YtgplpngphaaefaaDoorPut
import Derived.Test.YtgplpngphaaefaaDoorOrdered
import Derived.StillTailTactics
import Derived.Deep.RegionLaw
import Derived.Deep.DrawnRows
namespace Go.Proofs.YtgplpngphaaefaaDoor
open Go.RowKit

attribute [local go_sem ↓] Go.wp_at_zero Go.wp_at_succ

theorem fine_nat {a b : Int} (h : CylFine a b) : ∃ A B : Nat, a = (A : Int) ∧ b = (B : Int) ∧ 1 ≤ A ∧ A ≤ 4 ∧ 3 ≤ B ∧ B ≤ 6 := ⟨a.toNat, b.toNat, by have := h.1.1; omega, by have := h.2.1; omega, by have := h.1.1; omega, by have := h.1.2; omega, by have := h.2.1; omega, by have := h.2.2; omega⟩

set_option maxRecDepth 100000 in
set_option maxHeartbeats 3200000 in
theorem specCylP (a b : Int) (w : World) :
    Calls Tryd.prog 11 #[.int .i64 a, .int .i64 b] w fun e w' => ∃ ad' c', e = .returned (.slice ad' (cylL a b).length c') ∧ w'.ownsRow w.heap.size 3 1 (.slice ad' (cylL a b).length c') (cylL a b).length (ints (cylL a b)) ∧ Below w.heap.size w w' := by
  by_cases hf : CylFine a b
  · have hL : cylL a b = putAllG ltI (cylAll a.toNat b.toNat b.toNat) := if_pos hf
    obtain ⟨A, B, rfl, rfl, hA1, hA2, hB1, hB2⟩ := fine_nat hf
    rw [Int.toNat_natCast, Int.toNat_natCast] at hL
    have HL := Lib.hid hL
    clear hL hf
    go_enter Tryd.func11, Tryd.ntmps11
    go_wp2_with (first | (go_at_call 25; refine (l1In_yes _ _ _ _ (by omega) (by omega)).mono ?_; rintro e w' ⟨rfl, rfl⟩))
    have b0 : ¬ B = 0 := by omega
    go_loopw [5, 6] (fun s i wr => ∃ y : Nat, y ≤ B ∧ i = .int .i64 y ∧ wr.ownsRow w.heap.size 3 1 s (putAllG ltI (cylAll A B y)).length (ints (putAllG ltI (cylAll A B y))) ∧ Below w.heap.size w wr) (fun _ i _ => B - (intOf i).toNat)
    case atStart => exact ⟨0, by omega, rfl, ownsRow_empty w 3 1, (Below.refl _ _).alloc (Nat.le_refl _) _⟩
    case round =>
      obtain ⟨y, hy, rfl, hown, hb⟩ := hrel
      obtain ⟨wo, rfl⟩ : ∃ wo, wo = wr := ⟨_, rfl⟩
      have HW := Lib.hid hown
      have HB := Lib.hid hb
      clear hown hb
      by_cases hyl : y < B
      · go_wp2
        go_loopw [5, 7] (fun s i wr => ∃ x : Nat, x ≤ A ∧ i = .int .i64 x ∧ wr.ownsRow w.heap.size 3 1 s (putAllG ltI (cylAll A B y ++ cylRow A B y x)).length (ints (putAllG ltI (cylAll A B y ++ cylRow A B y x))) ∧ Below w.heap.size w wr) (fun _ i _ => A - (intOf i).toNat)
        case atStart => exact ⟨0, by omega, rfl, by simpa [cylRow] using HW.out, HB.out⟩
        case round =>
          obtain ⟨x, hx, rfl, hown, hb⟩ := hrel
          obtain ⟨wi, rfl⟩ : ∃ wi, wi = wr := ⟨_, rfl⟩
          have HWI := Lib.hid hown
          have HBI := Lib.hid hb
          have hlen := putAllG_length (lt := ltI) (cylAll A B y ++ cylRow A B y x)
          have hl1 := cylAll_length A B hA2 y
          have hl2 := cylRow_length A B y x
          rw [List.length_append] at hlen
          have hsz := hb.size
          clear hown hb
          by_cases hxl : x < A
          · skip
            obtain ⟨u, v, hu, hv, hu23, hv23, hne, hmod⟩ := cyl_places hA2 ⟨hB1, hB2⟩ hyl hxl
            have eu : (y : Int) * (A : Int) = (u : Int) := by rw [hu]; norm_cast
            obtain ⟨z, hz⟩ : ∃ z, z = (y + 1) % B := ⟨_, rfl⟩
            obtain ⟨y1, hy1⟩ : ∃ y1, y1 = y + 1 := ⟨_, rfl⟩
            have ey1 : (y : Int) + 1 = (y1 : Int) := by rw [hy1]; norm_cast
            have ez : (y1 : Int).tmod (B : Int) = (z : Int) := by rw [hz, ← hy1, Int.tmod_eq_emod_of_nonneg (by omega)]; norm_cast
            have ez' : (y1 : Int) % (B : Int) = (z : Int) := by rw [hz, ← hy1]; norm_cast
            have ev : (z : Int) * (A : Int) = (v : Int) := by rw [hv, hz]; norm_cast
            have hz6 : z ≤ 6 := by rw [hz]; omega
            have hy7 : y1 ≤ 7 := by omega
            have hrow : cylAll A B y ++ cylRow A B y (x + 1) = cylAll A B y ++ cylRow A B y x ++ cylCell A B y x := by rw [cylRow, List.append_assoc]
            obtain ⟨L, hL⟩ : ∃ L, L = cylAll A B y ++ cylRow A B y x := ⟨_, rfl⟩
            rw [← hL] at HWI hrow hlen
            obtain ⟨p, hp⟩ : ∃ p, p = u + x := ⟨_, rfl⟩
            obtain ⟨q, hq⟩ : ∃ q, q = v + x := ⟨_, rfl⟩
            obtain ⟨p1, hp1⟩ : ∃ p1, p1 = p + 1 := ⟨_, rfl⟩
            have ep : (u : Int) + (x : Int) = (p : Int) := by rw [hp]; norm_cast
            have eq' : (v : Int) + (x : Int) = (q : Int) := by rw [hq]; norm_cast
            have hcell : cylCell A B y x = (if x + 1 < A then [((2 ^ p + 2 ^ p1 : Nat) : Int)] else []) ++ [((2 ^ p + 2 ^ q : Nat) : Int)] := by rw [hp1, hp, hq, hu, hv]; rfl
            rw [← hp] at hu23 hne
            rw [← hq] at hv23 hne
            have e1 : (p : Int) + 1 = (p1 : Int) := by rw [hp1]; norm_cast
            have hp24 : p1 ≤ 24 := by omega
            obtain ⟨M1, hM1⟩ : ∃ M1 : Int, M1 = ((2 ^ p + 2 ^ p1 : Nat) : Int) := ⟨_, rfl⟩
            obtain ⟨M2, hM2⟩ : ∃ M2 : Int, M2 = ((2 ^ p + 2 ^ q : Nat) : Int) := ⟨_, rfl⟩
            rw [← hM1, ← hM2] at hcell
            have HV1 := Lib.hid (show wrap64 (wrap64 ((2 : Int) ^ p) + wrap64 ((2 : Int) ^ p1)) = M1 by rw [hM1]; exact wrap_pows (by omega) (by omega))
            have HV2 := Lib.hid (show wrap64 (wrap64 ((2 : Int) ^ p) + wrap64 ((2 : Int) ^ q)) = M2 by rw [hM2]; exact wrap_pows (by omega) (by omega))
            have HROW := Lib.hid hrow
            have HCELL := Lib.hid hcell
            clear hrow hcell hu hv hz hL hp hq hp1 hM1 hM2 hy1
            obtain ⟨a1, c1, rfl, _⟩ := ownsRow_cells HWI.out
            by_cases hx1 : x + 1 < A
            · have HC2 := Lib.hid (HCELL.out.trans (by rw [if_pos hx1]; rfl : _ = [M1, M2]))
              go_wp2
              have s1 : IntKind.i64.wrap (u : Int) = (u : Int) := IntWalk.i64_in _ (by omega)
              have s2 : IntKind.i64.wrap (p : Int) = (p : Int) := IntWalk.i64_in _ (by omega)
              have s3 : IntKind.i64.wrap (p1 : Int) = (p1 : Int) := IntWalk.i64_in _ (by omega)
              have s4 : IntKind.i64.wrap (q : Int) = (q : Int) := IntWalk.i64_in _ (by omega)
              have s5 : IntKind.i64.wrap (v : Int) = (v : Int) := IntWalk.i64_in _ (by omega)
              have s6 : IntKind.i64.wrap (z : Int) = (z : Int) := IntWalk.i64_in _ (by omega)
              have s7 : IntKind.i64.wrap (y1 : Int) = (y1 : Int) := IntWalk.i64_in _ (by omega)
              go_still_tail 15, (by kernel_rfl)
              go_wp2_with fail
              rw [HV1.out]
              clear s1 s2 s3 s4 s5 s6 s7
              refine (l7Put_any w.heap.size a1 c1 (putAllG ltI L) M1 wi.drew (by omega) hsz (show (wi.drew).ownsRow _ _ _ _ _ _ from HWI.out)).mono ?_
              rintro e w2 ⟨a2, c2, rfl, ho2, hb2⟩
              rw [← putAllG_snoc] at ho2
              have HO2 := Lib.hid ho2
              have HB2 := Lib.hid (HBI.out.trans (((Below.refl _ _).drew.trans (hb2.mono (Nat.le_refl _))).mono hsz))
              have hlen2 := putAllG_length (lt := ltI) (L ++ [M1])
              have hlx : (L ++ [M1]).length = L.length + 1 := by simp
              rw [hlx] at hlen2
              have hlL : (putAllG ltI L).length ≤ 100 := by omega
              have hlL2 : (putAllG ltI (L ++ [M1])).length ≤ 101 := by have := putG_length (lt := ltI) (putAllG ltI L) M1; rw [← putAllG_snoc] at this; omega
              have hsz2 := HB2.out.size
              have HPS := Lib.hid (putAllG_snoc (lt := ltI) L M1)
              clear ho2 hb2 hlx hlen2
              go_wp2
              rw [← HPS.out]
              have s1 : IntKind.i64.wrap (u : Int) = (u : Int) := IntWalk.i64_in _ (by omega)
              have s2 : IntKind.i64.wrap (p : Int) = (p : Int) := IntWalk.i64_in _ (by omega)
              have s3 : IntKind.i64.wrap (p1 : Int) = (p1 : Int) := IntWalk.i64_in _ (by omega)
              have s4 : IntKind.i64.wrap (q : Int) = (q : Int) := IntWalk.i64_in _ (by omega)
              have s5 : IntKind.i64.wrap (v : Int) = (v : Int) := IntWalk.i64_in _ (by omega)
              have s6 : IntKind.i64.wrap (z : Int) = (z : Int) := IntWalk.i64_in _ (by omega)
              have s7 : IntKind.i64.wrap (y1 : Int) = (y1 : Int) := IntWalk.i64_in _ (by omega)
              go_still_tail 17, (by kernel_rfl)
              go_wp2_with fail
              rw [HV2.out]
              clear s1 s2 s3 s4 s5 s6 s7
              refine (l7Put_any w.heap.size a2 c2 (putAllG ltI (L ++ [M1])) M2 w2.drew (by omega) hsz2 (show (w2.drew).ownsRow _ _ _ _ _ _ from HO2.out)).mono ?_
              rintro e w3 ⟨a3, c3, rfl, ho3, hb3⟩
              have HO3 := Lib.hid ho3
              have HB3 := Lib.hid (HB2.out.trans (((Below.refl _ _).drew.trans (hb3.mono (Nat.le_refl _))).mono hsz2))
              clear ho3 hb3
              go_wp2
              go_roundw
              case rel => exact ⟨x + 1, by omega, by go_num, by have h3 := HO3.out; rw [HROW.out, HC2.out, show L ++ [M1, M2] = L ++ [M1] ++ [M2] by simp]; simp only [putAllG_snoc] at h3 ⊢; exact h3, HB3.out⟩
              case measure => simp [intOf]; omega
            · have HC2 := Lib.hid (HCELL.out.trans (by rw [if_neg hx1]; rfl : _ = [M2]))
              go_wp2
              have s1 : IntKind.i64.wrap (u : Int) = (u : Int) := IntWalk.i64_in _ (by omega)
              have s2 : IntKind.i64.wrap (p : Int) = (p : Int) := IntWalk.i64_in _ (by omega)
              have s3 : IntKind.i64.wrap (p1 : Int) = (p1 : Int) := IntWalk.i64_in _ (by omega)
              have s4 : IntKind.i64.wrap (q : Int) = (q : Int) := IntWalk.i64_in _ (by omega)
              have s5 : IntKind.i64.wrap (v : Int) = (v : Int) := IntWalk.i64_in _ (by omega)
              have s6 : IntKind.i64.wrap (z : Int) = (z : Int) := IntWalk.i64_in _ (by omega)
              have s7 : IntKind.i64.wrap (y1 : Int) = (y1 : Int) := IntWalk.i64_in _ (by omega)
              go_still_tail 17, (by kernel_rfl)
              go_wp2_with fail
              rw [HV2.out]
              clear s1 s2 s3 s4 s5 s6 s7
              refine (l7Put_any w.heap.size a1 c1 (putAllG ltI L) M2 wi.drew (by omega) hsz (show (wi.drew).ownsRow _ _ _ _ _ _ from HWI.out)).mono ?_
              rintro e w3 ⟨a3, c3, rfl, ho3, hb3⟩
              have HO3 := Lib.hid ho3
              have HB3 := Lib.hid (HBI.out.trans (((Below.refl _ _).drew.trans (hb3.mono (Nat.le_refl _))).mono hsz))
              clear ho3 hb3
              go_wp2
              go_roundw
              case rel => exact ⟨x + 1, by omega, by go_num, by rw [HROW.out, HC2.out, putAllG_snoc]; exact HO3.out, HB3.out⟩
              case measure => simp [intOf]; omega
          · obtain rfl : x = A := by omega
            go_wp2
            go_roundw
            case rel => exact ⟨y + 1, by omega, by go_num, HWI.out, HBI.out⟩
            case measure => simp [intOf]; omega
      · obtain rfl : y = B := by omega
        go_wp2
        go_ret
        rw [HL.out]
        obtain ⟨ad', c', rfl, _⟩ := ownsRow_cells HW.out
        exact ⟨ad', c', rfl, HW.out, HB.out⟩
  · have hL : cylL a b = [] := if_neg hf
    have HL := Lib.hid hL
    have hbd : (a < 1 ∨ 4 < a) ∨ ((1 ≤ a ∧ a ≤ 4) ∧ (b < 3 ∨ 6 < b)) := by unfold CylFine at hf; omega
    clear hL hf
    rcases hbd with h | ⟨⟨h1, h2⟩, h⟩
    · have H3 := Lib.hid h
      clear h
      go_enter Tryd.func11, Tryd.ntmps11
      go_wp2_with fail
      refine (l1In_no _ _ _ _ H3.out).mono ?_
      rintro e w' ⟨rfl, rfl⟩
      go_wp2
      go_ret
      rw [HL.out]
      exact ⟨_, _, rfl, ownsRow_empty w 3 1, (Below.refl _ _).alloc (Nat.le_refl _) _⟩
    · have H3 := Lib.hid h
      clear h
      go_enter Tryd.func11, Tryd.ntmps11
      go_wp2_with fail
      refine (l1In_yes _ _ _ _ h1 h2).mono ?_
      rintro e w' ⟨rfl, rfl⟩
      go_wp2_with fail
      refine (l1In_no _ _ _ _ H3.out).mono ?_
      rintro e w' ⟨rfl, rfl⟩
      go_wp2
      go_ret
      rw [HL.out]
      exact ⟨_, _, rfl, ownsRow_empty w 3 1, (Below.refl _ _).alloc (Nat.le_refl _) _⟩

set_option maxRecDepth 100000 in
set_option maxHeartbeats 3200000 in
theorem implCylP (a b : Int) (w : World) :
    Calls Tryd.prog 10 #[.int .i64 a, .int .i64 b] w fun e w' => ∃ ad' c', e = .returned (.slice ad' (cylL a b).length c') ∧ w'.ownsRow w.heap.size 3 1 (.slice ad' (cylL a b).length c') (cylL a b).length (ints (cylL a b)) ∧ Below w.heap.size w w' := by
  by_cases hf : CylFine a b
  · have hL : cylL a b = putAllG ltI (cylAll a.toNat b.toNat b.toNat) := if_pos hf
    obtain ⟨A, B, rfl, rfl, hA1, hA2, hB1, hB2⟩ := fine_nat hf
    rw [Int.toNat_natCast, Int.toNat_natCast] at hL
    have HL := Lib.hid hL
    clear hL hf
    go_enter Tryd.func10, Tryd.ntmps10
    go_wp2_with (first | (go_at_call 23; refine (between_yes _ _ _ _ (by omega) (by omega)).mono ?_; rintro e w' ⟨rfl, rfl⟩))
    have b0 : ¬ B = 0 := by omega
    go_loopw [5, 17] (fun s i wr => ∃ y : Nat, y ≤ B ∧ i = .int .i64 y ∧ wr.ownsRow w.heap.size 3 1 s (cylAll A B y).length (ints (cylAll A B y)) ∧ Below w.heap.size w wr) (fun _ i _ => B - (intOf i).toNat)
    case atStart => exact ⟨0, by omega, rfl, World.ownsRow_nil _ _ _ _, Below.refl _ _⟩
    case round =>
      obtain ⟨y, hy, rfl, hown, hb⟩ := hrel
      obtain ⟨wo, rfl⟩ : ∃ wo, wo = wr := ⟨_, rfl⟩
      have HW := Lib.hid hown
      have HB := Lib.hid hb
      have hl1 := cylAll_length A B hA2 y
      clear hown hb
      by_cases hyl : y < B
      · go_wp2
        go_loopw [5, 21] (fun s i wr => ∃ x : Nat, x ≤ A ∧ i = .int .i64 x ∧ wr.ownsRow w.heap.size 3 1 s (cylAll A B y ++ cylRow A B y x).length (ints (cylAll A B y ++ cylRow A B y x)) ∧ Below w.heap.size w wr) (fun _ i _ => A - (intOf i).toNat)
        case atStart => exact ⟨0, by omega, rfl, by simpa [cylRow] using HW.out, HB.out⟩
        case round =>
          obtain ⟨x, hx, rfl, hown, hb⟩ := hrel
          obtain ⟨wi, rfl⟩ : ∃ wi, wi = wr := ⟨_, rfl⟩
          have HWI := Lib.hid hown
          have HBI := Lib.hid hb
          have hl2 := cylRow_length A B y x
          have hlen : (cylAll A B y ++ cylRow A B y x).length ≤ 100 := by rw [List.length_append]; omega
          have hsz := hb.size
          clear hown hb
          by_cases hxl : x < A
          · skip
            obtain ⟨u, v, hu, hv, hu23, hv23, hne, hmod⟩ := cyl_places hA2 ⟨hB1, hB2⟩ hyl hxl
            have eu : (y : Int) * (A : Int) = (u : Int) := by rw [hu]; norm_cast
            obtain ⟨z, hz⟩ : ∃ z, z = (y + 1) % B := ⟨_, rfl⟩
            obtain ⟨y1, hy1⟩ : ∃ y1, y1 = y + 1 := ⟨_, rfl⟩
            have ey1 : (y : Int) + 1 = (y1 : Int) := by rw [hy1]; norm_cast
            have ez : (y1 : Int).tmod (B : Int) = (z : Int) := by rw [hz, ← hy1, Int.tmod_eq_emod_of_nonneg (by omega)]; norm_cast
            have ez' : (y1 : Int) % (B : Int) = (z : Int) := by rw [hz, ← hy1]; norm_cast
            have ev : (z : Int) * (A : Int) = (v : Int) := by rw [hv, hz]; norm_cast
            have hz6 : z ≤ 6 := by rw [hz]; omega
            have hy7 : y1 ≤ 7 := by omega
            have hrow : cylAll A B y ++ cylRow A B y (x + 1) = cylAll A B y ++ cylRow A B y x ++ cylCell A B y x := by rw [cylRow, List.append_assoc]
            obtain ⟨L, hL⟩ : ∃ L, L = cylAll A B y ++ cylRow A B y x := ⟨_, rfl⟩
            rw [← hL] at HWI hrow hlen
            obtain ⟨p, hp⟩ : ∃ p, p = u + x := ⟨_, rfl⟩
            obtain ⟨q, hq⟩ : ∃ q, q = v + x := ⟨_, rfl⟩
            obtain ⟨p1, hp1⟩ : ∃ p1, p1 = p + 1 := ⟨_, rfl⟩
            have ep : (u : Int) + (x : Int) = (p : Int) := by rw [hp]; norm_cast
            have eq' : (v : Int) + (x : Int) = (q : Int) := by rw [hq]; norm_cast
            have hcell : cylCell A B y x = (if x + 1 < A then [((2 ^ p + 2 ^ p1 : Nat) : Int)] else []) ++ [((2 ^ p + 2 ^ q : Nat) : Int)] := by rw [hp1, hp, hq, hu, hv]; rfl
            rw [← hp] at hu23 hne
            rw [← hq] at hv23 hne
            have e1 : (p : Int) + 1 = (p1 : Int) := by rw [hp1]; norm_cast
            have hp24 : p1 ≤ 24 := by omega
            obtain ⟨M1, hM1⟩ : ∃ M1 : Int, M1 = ((2 ^ p + 2 ^ p1 : Nat) : Int) := ⟨_, rfl⟩
            obtain ⟨M2, hM2⟩ : ∃ M2 : Int, M2 = ((2 ^ p + 2 ^ q : Nat) : Int) := ⟨_, rfl⟩
            rw [← hM1, ← hM2] at hcell
            have HV1 := Lib.hid (show wrap64 (3 * (2 : Int) ^ p) = M1 by rw [hM1, hp1]; exact three_pow (by omega))
            have HV2 := Lib.hid (show bits .or .i64 (IntKind.i64.wrap ((2 : Int) ^ p)) (IntKind.i64.wrap ((2 : Int) ^ q)) = M2 by rw [hM2, w64, w64]; exact or_pows (by omega) (by omega) hne)
            have HROW := Lib.hid hrow
            have HCELL := Lib.hid hcell
            clear hrow hcell hu hv hz hL hp hq hp1 hM1 hM2 hy1
            obtain ⟨a1, c1, rfl, _⟩ := ownsRow_cells HWI.out
            by_cases hx1 : x + 1 < A
            · have HC2 := Lib.hid (HCELL.out.trans (by rw [if_pos hx1]; rfl : _ = [M1, M2]))
              go_wp2_with (at_builtin; refine wpList_app1 rfl (.tmp 28) (.tmp 35) 29 rfl w.heap.size 3 _ 1 8 Tryd.elemInt _ _ _ _ _ _ rfl rfl rfl HWI.out (by rfl) (by simp [Value.oneCell']) (by unfold maxLen; omega) (by omega) (by omega) ?_; intro g2 cap2 w2 r1 r2 r3 r4 r5 r6)
              have HO2 := Lib.hid r1
              have HB2 := Lib.hid (HBI.out.trans r2)
              have hsz2 := HB2.out.size
              clear r1 r2 r3 r6
              have s1 : IntKind.i64.wrap (u : Int) = (u : Int) := IntWalk.i64_in _ (by omega)
              have s2 : IntKind.i64.wrap (p : Int) = (p : Int) := IntWalk.i64_in _ (by omega)
              have s3 : IntKind.i64.wrap (p1 : Int) = (p1 : Int) := IntWalk.i64_in _ (by omega)
              have s4 : IntKind.i64.wrap (q : Int) = (q : Int) := IntWalk.i64_in _ (by omega)
              have s5 : IntKind.i64.wrap (v : Int) = (v : Int) := IntWalk.i64_in _ (by omega)
              have s6 : IntKind.i64.wrap (z : Int) = (z : Int) := IntWalk.i64_in _ (by omega)
              have s7 : IntKind.i64.wrap (y1 : Int) = (y1 : Int) := IntWalk.i64_in _ (by omega)
              go_region_law (refine step_app1 rfl (.tmp 37) (.tmp 54) 29 rfl w.heap.size 3 _ 1 8 Tryd.elemInt _ _ _ _ _ _ rfl rfl rfl HO2.out (by rfl) (by simp [Value.oneCell']) (by unfold maxLen; omega) (by omega) (by omega) ?_; intro g' cap w3 q1 q2 q3 q4 q5 q6)
              all_goals clear s1 s2 s3 s4 s5 s6 s7
              all_goals go_wp2
              all_goals go_roundw
              case rel =>
                refine ⟨x + 1, by omega, by go_num, ?_, HB2.out.trans q2⟩
                rw [HROW.out, HC2.out, show L ++ [M1, M2] = L ++ [M1] ++ [M2] by simp, ints_append, ints_append, List.length_append, List.length_append]
                have q1' := q1
                rw [HV2.out] at q1'
                rw [HV1.out] at q1'
                exact q1'
              case measure => simp [intOf]; omega
            · have HC2 := Lib.hid (HCELL.out.trans (by rw [if_neg hx1]; rfl : _ = [M2]))
              go_wp2
              have s1 : IntKind.i64.wrap (u : Int) = (u : Int) := IntWalk.i64_in _ (by omega)
              have s2 : IntKind.i64.wrap (p : Int) = (p : Int) := IntWalk.i64_in _ (by omega)
              have s3 : IntKind.i64.wrap (p1 : Int) = (p1 : Int) := IntWalk.i64_in _ (by omega)
              have s4 : IntKind.i64.wrap (q : Int) = (q : Int) := IntWalk.i64_in _ (by omega)
              have s5 : IntKind.i64.wrap (v : Int) = (v : Int) := IntWalk.i64_in _ (by omega)
              have s6 : IntKind.i64.wrap (z : Int) = (z : Int) := IntWalk.i64_in _ (by omega)
              have s7 : IntKind.i64.wrap (y1 : Int) = (y1 : Int) := IntWalk.i64_in _ (by omega)
              go_region_law (refine step_app1 rfl (.tmp 37) (.tmp 54) 29 rfl w.heap.size 3 _ 1 8 Tryd.elemInt _ _ _ _ _ _ rfl rfl rfl HWI.out (by rfl) (by simp [Value.oneCell']) (by unfold maxLen; omega) (by omega) (by omega) ?_; intro g' cap w3 q1 q2 q3 q4 q5 q6)
              all_goals clear s1 s2 s3 s4 s5 s6 s7
              all_goals go_wp2
              all_goals go_roundw
              case rel =>
                refine ⟨x + 1, by omega, by go_num, ?_, HBI.out.trans q2⟩
                rw [HROW.out, HC2.out, ints_append, List.length_append]
                have q1' := q1
                rw [HV2.out] at q1'
                exact q1'
              case measure => simp [intOf]; omega
          · obtain rfl : x = A := by omega
            go_wp2
            go_roundw
            case rel => exact ⟨y + 1, by omega, by go_num, HWI.out, HBI.out⟩
            case measure => simp [intOf]; omega
      · obtain rfl : y = B := by omega
        obtain ⟨a1, c1, rfl, hcc⟩ := ownsRow_cells HW.out
        obtain ⟨_, hnil⟩ := ownsRow_le_cap HW.out
        have HCC := Lib.hid hcc
        have HNIL := Lib.hid hnil
        have hsz := HB.out.size
        clear hcc hnil
        go_wp2_with fail
        refine (ordered_any a1 c1 (cylAll A y y) _ (by omega) HNIL.out HCC.out).mono ?_
        rintro e w2 ⟨a2, c2, rfl, ho2, hb2⟩
        have HO2 := Lib.hid ho2
        clear ho2
        go_wp2
        go_ret
        rw [HL.out]
        exact ⟨a2, c2, rfl, ownsRow_rebase HO2.out hsz, HB.out.trans (hb2.mono hsz)⟩
  · have hL : cylL a b = [] := if_neg hf
    have HL := Lib.hid hL
    have hbd : (a < 1 ∨ 4 < a) ∨ ((1 ≤ a ∧ a ≤ 4) ∧ (b < 3 ∨ 6 < b)) := by unfold CylFine at hf; omega
    clear hL hf
    rcases hbd with h | ⟨⟨h1, h2⟩, h⟩
    · have H3 := Lib.hid h
      clear h
      go_enter Tryd.func10, Tryd.ntmps10
      go_wp2_with fail
      refine (between_no _ _ _ _ H3.out).mono ?_
      rintro e w' ⟨rfl, rfl⟩
      go_wp2
      go_ret
      rw [HL.out]
      exact ⟨none, 0, rfl, World.ownsRow_nil _ _ _ _, Below.refl _ _⟩
    · have H3 := Lib.hid h
      clear h
      go_enter Tryd.func10, Tryd.ntmps10
      go_wp2_with fail
      refine (between_yes _ _ _ _ h1 h2).mono ?_
      rintro e w' ⟨rfl, rfl⟩
      go_wp2_with fail
      refine (between_no _ _ _ _ H3.out).mono ?_
      rintro e w' ⟨rfl, rfl⟩
      go_wp2
      go_ret
      rw [HL.out]
      exact ⟨none, 0, rfl, World.ownsRow_nil _ _ _ _, Below.refl _ _⟩
end Go.Proofs.YtgplpngphaaefaaDoor
