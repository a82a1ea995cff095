/- TorAll: the walks of l16All and of torusAll: the masks of valid pieces on a valid torus. -/
import Derived.Test.YtmpcmeeoiapbdaaGreatDoorAllPl
import Derived.Test.YtmpcmeeoiapbdaaGreatDoorTorusS
import Derived.Test.YtmpcmeeoiapbdaaGreatDoorTorusI
import Derived.Test.YtmpcmeeoiapbdaaGreatDoorTorusNo
import Derived.Test.YtmpcmeeoiapbdaaGreatDoorPieces
namespace Go.Proofs.YtmpcmeeoiapbdaaGreatDoor
open Go.RowKit

attribute [local go_sem ↓] Go.wp_at_zero Go.wp_at_succ

theorem specTorP (W H : Nat) (hW : 1 ≤ W ∧ W ≤ 5) (hH : 1 ≤ H ∧ H ≤ 5) (a2 : Option Addr) (c2 : Nat) (p : List Cl) (w' : World) (hn : p.length ≤ 1048576) (h : CellsAt w' a2 (cls p)) :
    Calls Tryz.prog 66 #[.int .i64 W, .int .i64 H, .slice a2 p.length c2] w' fun e w'' => ∃ ad' c', e = .returned (.slice ad' (torP W H p).length c') ∧ w''.ownsRow w'.heap.size 3 1 (.slice ad' (torP W H p).length c') (torP W H p).length (ints (torP W H p)) ∧ Below w'.heap.size w' w'' := specTorus_yes W H hW hH a2 c2 p w' hn h
theorem implTorP (W H : Nat) (hW : 1 ≤ W ∧ W ≤ 5) (hH : 1 ≤ H ∧ H ≤ 5) (a2 : Option Addr) (c2 : Nat) (p : List Cl) (w' : World) (hs : Shape p) (hn : p.length ≤ 1048576) (h : CellsAt w' a2 (cls p)) :
    Calls Tryz.prog 70 #[.int .i64 W, .int .i64 H, .slice a2 p.length c2] w' fun e w'' => ∃ ad' c', e = .returned (.slice ad' (torP W H p).length c') ∧ w''.ownsRow w'.heap.size 3 1 (.slice ad' (torP W H p).length c') (torP W H p).length (ints (torP W H p)) ∧ Below w'.heap.size w' w'' := implTorus_yes W H hW hH a2 c2 p w' hs hn h

set_option maxRecDepth 100000 in
set_option maxHeartbeats 3200000 in
theorem specTAll (W H : Nat) (hW : 1 ≤ W ∧ W ≤ 5) (hH : 1 ≤ H ∧ H ≤ 5) (sa : Option Addr) (cs : Nat) (ps : List (List Cl)) (w : World) (hp : Pcs ps) (hcp : ShpsAt w sa ps) :
    Calls Tryz.prog 44 #[.int .i64 W, .int .i64 H, .slice sa ps.length cs] w fun e w' => ∃ ad' c', e = .returned (.slice ad' (torAll W H ps).length c') ∧ w'.ownsRow w.heap.size 3 1 (.slice ad' (torAll W H ps).length c') (torAll W H ps).length (ints (torAll W H ps)) ∧ Below w.heap.size w w' := by
  have hal : torAll W H ps = putAllG ltI (torAllTo W H ps ps.length) := rfl
  rw [hal]
  have hp5 := hp.2.2
  have h25 : W * H ≤ 25 := Nat.mul_le_mul hW.2 hH.2
  have HPL := Lib.hid (show ∀ p ∈ ps, p.length ≤ 1048576 from fun p h => by have := (hp.1 p h).2.2; omega)
  have HPLA := Lib.hid (fun a2 c2 p w' hn h => specTorP W H hW hH a2 c2 p w' hn h)
  have HLEN := Lib.hid (fun p => torP_length h25 p)
  have HTL := Lib.hid (fun i => torAllTo_length h25 ps i)
  have HCP := Lib.hid hcp
  clear hcp hal hp h25
  obtain ⟨wA, hwA⟩ : ∃ wA, wA = w.alloc (.cells #[] 3) := ⟨_, rfl⟩
  have hbA : Below w.heap.size w wA := by rw [hwA]; exact (Below.refl _ _).alloc (Nat.le_refl _) _
  have hoA : wA.ownsRow w.heap.size 3 1 (.slice (some ⟨w.heap.size, 0, none⟩) 0 0) 0 [] := by rw [hwA]; exact ownsRow_empty _ _ _
  have HBA := Lib.hid hbA
  have HWA := Lib.hid hwA
  have HOA := Lib.hid hoA
  have hszA := hbA.size
  clear hbA hwA hoA
  go_enter Tryz.func44, Tryz.ntmps44
  go_wp2
  rw [← HWA.out]
  go_loopw [7, 8] (fun s i wr => ∃ k : Nat, k ≤ ps.length ∧ i = .int .i64 k ∧ (∃ ad' c', s = .slice ad' (putAllG ltI (torAllTo W H ps k)).length c' ∧ wr.ownsRow w.heap.size 3 1 (.slice ad' (putAllG ltI (torAllTo W H ps k)).length c') (putAllG ltI (torAllTo W H ps k)).length (ints (putAllG ltI (torAllTo W H ps k)))) ∧ Below wA.heap.size wA wr) (fun _ i _ => ps.length - (intOf i).toNat)
  case atStart => exact ⟨0, by omega, rfl, ⟨_, _, rfl, HOA.out⟩, Below.refl _ _⟩
  case round =>
    obtain ⟨i, hi, rfl, ⟨a2, c2, rfl, ho2⟩, hb2⟩ := hrel
    have HO2 := Lib.hid ho2
    have HB2 := Lib.hid hb2
    have hsz2 := hb2.size
    have hti := HTL.out i
    clear ho2 hb2
    by_cases hilt : i < ps.length
    · have hil : (i : Int) < (ps.length : Int) := by omega
      obtain ⟨g, off, ai, ci, rfl, hg, hcell, hrow⟩ := HCP.out.row hilt
      have hst : torAllTo W H ps (i + 1) = torAllTo W H ps i ++ torP W H ps[i] := by rw [← getDG hilt]; rfl
      have hpl := HPL.out _ (List.getElem_mem hilt)
      have HST := Lib.hid hst
      have HROW := Lib.hid hrow
      have HCELL := Lib.hid hcell
      clear hst hrow hcell
      generalize ps[i] = p at hpl HST HROW HCELL
      have hlp := HLEN.out p
      generalize torAllTo W H ps i = L at hti HO2 HST ⊢
      have HBW := Lib.hid (HBA.out.trans (HB2.out.mono hszA))
      have x0 := (HBW.out.cell (p := ⟨g, off + i, none⟩) hg).trans HCELL.out
      go_wp2_with fail
      refine (HPLA.out ai ci p wr hpl (HROW.out.below HBW.out)).mono ?_
      rintro e w4 ⟨a4, c4, rfl, ho4, hb4⟩
      have HO4 := Lib.hid (ownsRow_cellsAt ho4)
      have HB4 := Lib.hid (HB2.out.trans (hb4.mono hsz2))
      have HOO := Lib.hid (ownsRow_far_below HO2.out hb4 (Nat.le_refl _))
      have hsz4 := HB4.out.size
      clear ho4 hb4 x0
      generalize torP W H p = Q at HO4 HST hlp ⊢
      go_wp2
      go_loopw [7, 10] (fun s i wr => ∃ k : Nat, k ≤ Q.length ∧ i = .int .i64 k ∧ (∃ ad' c', s = .slice ad' (putAllG ltI (L ++ Q.take k)).length c' ∧ wr.ownsRow w.heap.size 3 1 (.slice ad' (putAllG ltI (L ++ Q.take k)).length c') (putAllG ltI (L ++ Q.take k)).length (ints (putAllG ltI (L ++ Q.take k)))) ∧ Below w4.heap.size w4 wr) (fun _ i _ => Q.length - (intOf i).toNat)
      case atStart => exact ⟨0, by omega, rfl, by rw [List.take_zero, List.append_nil]; exact ⟨a2, c2, rfl, HOO.out⟩, Below.refl _ _⟩
      case round =>
        obtain ⟨k, hk, rfl, ⟨a5, c5, rfl, ho5⟩, hb5⟩ := hrel
        have HO5 := Lib.hid ho5
        have HB5 := Lib.hid hb5
        have hsz5 := hb5.size
        clear ho5 hb5
        by_cases hlt : k < Q.length
        · have hkl : (k : Int) < (Q.length : Int) := by omega
          obtain ⟨gq, oq, rfl, hgq, hcq⟩ := HO4.out.open (by rw [ints_length]; omega)
          have z0 := (HB5.out.cell (p := ⟨gq, oq + k, none⟩) hgq).trans (hcq k _ (ints_at Q k hlt))
          have htk := List.take_succ_eq_append_getElem hlt
          have hlen := putAllG_length (lt := ltI) (L ++ Q.take k)
          rw [List.length_append, List.length_take] at hlen
          clear hcq
          generalize Q[k] = v at z0 htk
          have hpu := l7Put_any w.heap.size a5 c5 (putAllG ltI (L ++ Q.take k)) v wr (by omega) (by omega) HO5.out
          rw [← putAllG_snoc, List.append_assoc, ← htk] at hpu
          have HPU := Lib.hid hpu
          clear hpu htk
          generalize (putAllG ltI (L ++ Q.take k)).length = nR at HPU hlen ⊢
          go_wp2_with fail
          refine HPU.out.mono ?_
          rintro e w8 ⟨a8, c8, rfl, ho8, hb8⟩
          have HO8 := Lib.hid ho8
          have HB8 := Lib.hid (HB5.out.trans (hb8.mono hsz5))
          clear ho8 hb8
          go_wp2
          go_roundw
          case rel => exact ⟨k + 1, by omega, by go_num, ⟨a8, c8, rfl, HO8.out⟩, HB8.out⟩
          case measure => simp [intOf]; omega
        · obtain rfl : k = Q.length := by omega
          rw [List.take_length, ← HST.out] at HO5
          go_wp2
          go_roundw
          case rel => exact ⟨i + 1, by omega, by go_num, by rw [List.take_length, ← HST.out]; exact ⟨a5, c5, rfl, HO5.out⟩, HB4.out.trans (HB5.out.mono hsz4)⟩
          case measure => simp [intOf]; omega
    · obtain rfl : i = ps.length := by omega
      go_wp2
      go_ret
      exact ⟨a2, c2, rfl, HO2.out, HBA.out.trans (HB2.out.mono hszA)⟩

set_option maxRecDepth 100000 in
set_option maxHeartbeats 3200000 in
theorem implTAll_yes (W H : Nat) (hW : 1 ≤ W ∧ W ≤ 5) (hH : 1 ≤ H ∧ H ≤ 5) (sa : Option Addr) (cs : Nat) (ps : List (List Cl)) (w : World) (hp : Pcs ps) (hcp : ShpsAt w sa ps) :
    Calls Tryz.prog 45 #[.int .i64 W, .int .i64 H, .slice sa ps.length cs] w fun e w' => ∃ ad' c', e = .returned (.tuple #[.slice ad' (torAll W H ps).length c', .bool true]) ∧ w'.ownsRow w.heap.size 3 1 (.slice ad' (torAll W H ps).length c') (torAll W H ps).length (ints (torAll W H ps)) ∧ Below w.heap.size w w' := by
  have hal : torAll W H ps = putAllG ltI (torAllTo W H ps ps.length) := rfl
  rw [hal]
  have hp5 := hp.2.2
  have h25 : W * H ≤ 25 := Nat.mul_le_mul hW.2 hH.2
  have hpl0 : ∀ p ∈ ps, p.length ≤ 1048576 := fun p h => by have := (hp.1 p h).2.2; omega
  have hpc := implPieces sa cs ps w (by omega) hpl0 hcp
  rw [decide_eq_true hp] at hpc
  have HPC := Lib.hid hpc
  have HSH := Lib.hid hp.1
  have HPL := Lib.hid hpl0
  have HPLA := Lib.hid (fun a2 c2 p w' hs hn h => implTorP W H hW hH a2 c2 p w' hs hn h)
  have HLEN := Lib.hid (fun p => torP_length h25 p)
  have HTL := Lib.hid (fun i => torAllTo_length h25 ps i)
  have HCP := Lib.hid hcp
  have HF := Lib.hid (isTorus_yes (W : Int) (H : Int) w (by omega) (by omega) (by omega) (by omega))
  clear hcp hal hp h25 hpc hpl0
  go_enter Tryz.func45, Tryz.ntmps45
  go_wp2_with fail
  refine HF.out.mono ?_
  rintro e w' ⟨rfl, rfl⟩
  go_wp2_with fail
  refine HPC.out.mono ?_
  rintro e wA ⟨rfl, hbA⟩
  have HBA := Lib.hid hbA
  have hszA := hbA.size
  clear hbA
  go_wp2
  go_loopw [8, 22] (fun s i wr => ∃ k : Nat, k ≤ ps.length ∧ i = .int .i64 k ∧ (∃ ad' c', s = .slice ad' (torAllTo W H ps k).length c' ∧ wr.ownsRow wA.heap.size 3 1 (.slice ad' (torAllTo W H ps k).length c') (torAllTo W H ps k).length (ints (torAllTo W H ps k))) ∧ Below wA.heap.size wA wr) (fun _ i _ => ps.length - (intOf i).toNat)
  case atStart => exact ⟨0, by omega, rfl, ⟨none, 0, rfl, World.ownsRow_nil _ _ _ _⟩, Below.refl _ _⟩
  case round =>
    obtain ⟨i, hi, rfl, ⟨a2, c2, rfl, ho2⟩, hb2⟩ := hrel
    have HO2 := Lib.hid ho2
    have HB2 := Lib.hid hb2
    have hsz2 := hb2.size
    have hti := HTL.out i
    clear ho2 hb2
    by_cases hilt : i < ps.length
    · have hil : (i : Int) < (ps.length : Int) := by omega
      obtain ⟨g, off, ai, ci, rfl, hg, hcell, hrow⟩ := HCP.out.row hilt
      have hst : torAllTo W H ps (i + 1) = torAllTo W H ps i ++ torP W H ps[i] := by rw [← getDG hilt]; rfl
      have hpl := HPL.out _ (List.getElem_mem hilt)
      have hsh := HSH.out _ (List.getElem_mem hilt)
      have HSP := Lib.hid hsh
      have HST := Lib.hid hst
      have HROW := Lib.hid hrow
      have HCELL := Lib.hid hcell
      clear hst hrow hcell hsh
      generalize ps[i] = p at hpl HST HROW HCELL HSP
      have hlp := HLEN.out p
      generalize torAllTo W H ps i = L at hti HO2 HST ⊢
      have HBW := Lib.hid (HBA.out.trans (HB2.out.mono hszA))
      have x0 := (HBW.out.cell (p := ⟨g, off + i, none⟩) hg).trans HCELL.out
      go_wp2_with fail
      refine (HPLA.out ai ci p wr HSP.out hpl (HROW.out.below HBW.out)).mono ?_
      rintro e w4 ⟨a4, c4, rfl, ho4, hb4⟩
      have HO4 := Lib.hid (ownsRow_cellsAt ho4)
      have HN4 := Lib.hid (ownsRow_le_cap ho4).2
      have HB4 := Lib.hid (HB2.out.trans (hb4.mono hsz2))
      have HOO := Lib.hid (ownsRow_far_below HO2.out hb4 (Nat.le_refl _))
      have hsz4 := HB4.out.size
      clear ho4 hb4 x0
      generalize torP W H p = Q at HO4 HN4 HST hlp ⊢
      have hLl := ints_length L
      have hQl := ints_length Q
      go_wp2_with (at_builtin; refine wpList_appN rfl (.tmp 26) (.tmp 30) 37 rfl wA.heap.size 3 _ 1 8 Tryz.elemInt _ L.length (ints L) rfl HOO.out a4 Q.length c4 (ints Q) rfl HN4.out (by omega) HO4.out (ints_one Q) (by unfold maxLen; omega) (by omega) (by omega) ?_; intro a5 c5 w5 q1 q2 q3)
      have HO5 := Lib.hid q1
      have HB5 := Lib.hid (HB4.out.trans q2)
      clear q1 q2 q3
      go_roundw
      case rel =>
        refine ⟨i + 1, by omega, by go_num, ?_, HB5.out⟩
        rw [HST.out]
        refine ⟨a5, c5, by rw [List.length_append], ?_⟩
        rw [List.length_append, ints_append]
        exact HO5.out
      case measure => simp [intOf]; omega
    · obtain rfl : i = ps.length := by omega
      have hod := ordered_any a2 c2 (torAllTo W H ps ps.length) wr (by omega) (ownsRow_le_cap HO2.out).2 (ownsRow_cellsAt HO2.out)
      have HOD := Lib.hid hod
      clear hod
      generalize hLL : torAllTo W H ps ps.length = L at HOD
      have HLL := Lib.hid hLL
      clear hLL
      go_wp2_with fail
      refine HOD.out.mono ?_
      rintro e w4 ⟨a4, c4, rfl, ho4, hb4⟩
      have HO4 := Lib.hid ho4
      have HB4 := Lib.hid (HBA.out.trans ((HB2.out.trans (hb4.mono hsz2)).mono hszA))
      clear ho4 hb4
      go_wp2
      go_ret2
      rw [HLL.out]
      exact ⟨a4, c4, rfl, ownsRow_rebase HO4.out (by omega), HB4.out⟩

set_option maxRecDepth 100000 in
set_option maxHeartbeats 3200000 in
theorem implTAll_no (x y : Int) (sa : Option Addr) (cs : Nat) (ps : List (List Cl)) (w : World) (h : ¬ ((1 ≤ x ∧ x ≤ 5 ∧ 1 ≤ y ∧ y ≤ 5) ∧ Pcs ps)) (hnp : ps.length ≤ 1048576) (hl : ∀ p ∈ ps, p.length ≤ 1048576) (hcp : ShpsAt w sa ps) :
    Calls Tryz.prog 45 #[.int .i64 x, .int .i64 y, .slice sa ps.length cs] w fun e w' => e = .returned (.tuple #[.slice none 0 0, .bool false]) ∧ Below w.heap.size w w' := by
  by_cases hf : 1 ≤ x ∧ x ≤ 5 ∧ 1 ≤ y ∧ y ≤ 5
  · have hs : ¬ Pcs ps := fun q => h ⟨hf, q⟩
    obtain ⟨h1, h2, h3, h4⟩ := hf
    have hpc := implPieces sa cs ps w hnp hl hcp
    rw [decide_eq_false hs] at hpc
    have HPC := Lib.hid hpc
    have HF := Lib.hid (isTorus_yes x y w (by omega) (by omega) (by omega) (by omega))
    clear hs h hcp hpc hl
    go_enter Tryz.func45, Tryz.ntmps45
    go_wp2_with fail
    refine HF.out.mono ?_
    rintro e w' ⟨rfl, rfl⟩
    go_wp2_with fail
    refine HPC.out.mono ?_
    rintro e w1 ⟨rfl, hb1⟩
    have HB1 := Lib.hid hb1
    clear hb1
    go_wp2
    go_ret2
    exact ⟨rfl, HB1.out⟩
  · have HF := Lib.hid (isTorus_no x y w hf)
    clear h hcp hf hl
    go_enter Tryz.func45, Tryz.ntmps45
    go_wp2_with fail
    refine HF.out.mono ?_
    rintro e w' ⟨rfl, rfl⟩
    go_wp2
    go_ret2
    exact ⟨rfl, Below.refl _ _⟩
end Go.Proofs.YtmpcmeeoiapbdaaGreatDoor
