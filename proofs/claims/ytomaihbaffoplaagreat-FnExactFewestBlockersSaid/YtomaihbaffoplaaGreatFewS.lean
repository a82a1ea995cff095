/- FewS: the walk of the reference's FewestBlockers. -/
import Derived.Test.YtomaihbaffoplaaGreatFewW
namespace Go.Proofs.YtomaihbaffoplaaGreat
open Go.RowKit

set_option maxRecDepth 100000 in
set_option maxHeartbeats 3200000 in
theorem specFB_yes (B : Nat) (ad : Option Addr) (c : Nat) (xs : List Int) (sa : Option Addr) (cs : Nat) (ps : List (List Cl)) (w : World) (hn : xs.length ≤ 1048576) (hnp : ps.length ≤ 1048576) (hl : ∀ p ∈ ps, p.length ≤ 1048576) (hc : CellsAt w ad (ints xs)) (hcp : ShpsAt w sa ps) (hs : SmallP (B : Int) xs ps) :
    Calls Tryz.prog 8 #[.agg #[.int .i64 B, .slice ad xs.length c], .slice sa ps.length cs] w fun e w' => e = .returned (.tuple #[.int .i64 (fewB (allL B xs ps) (regMask B xs) : Nat), .bool true]) ∧ Below w.heap.size w w' := by
  have hsm := fun w' h1 h2 => specFine (B : Int) ad c xs sa cs ps w' hn hnp hl h1 h2
  rw [decide_eq_true hs] at hsm
  obtain ⟨⟨hr, hp⟩, ha⟩ := hs
  obtain ⟨hpc, hbl, hcl, hpl⟩ := small_facts hr ha
  have hM := regMask_lt hr
  have hb6 : B ≤ 6 := by have := hr.1.2; omega
  have HAL := Lib.hid (fun w' h1 h2 => specAll B ad c xs sa cs ps w' hr hp h1 h2)
  have HMK := Lib.hid (fun w' h1 => specMask B ad c xs w' hr h1)
  have HCE := Lib.hid (fun w' h1 => specCellsOf B ad c xs w' hr h1)
  have HCF := Lib.hid (fun c h => cellsTo_facts (B := B) (xs := xs) xs.length c h)
  have hlen := allL_length hr hp
  have HSM := Lib.hid (allL_small hr ps)
  have HC := Lib.hid hc
  have HCP := Lib.hid hcp
  have HISM := Lib.hid hsm
  clear hc hcp hl hsm hr hp ha
  have hval : fewB (allL B xs ps) (regMask B xs) = ((partsL (regMask B xs)).foldl (stepQ (allL B xs ps)) (regMask B xs, pc (regMask B xs))).1 := rfl
  rw [hval]
  clear hval
  generalize allL B xs ps = A at HAL hlen HSM ⊢
  have hpcM : pc (regMask B xs) = (smBits 36 (regMask B xs)).length := (smBits_all hM (Nat.le_refl _)).symm
  generalize cellsTo B xs xs.length = L at HCE HCF hcl hpl
  have hasc := smBits_asc 36 (regMask B xs)
  have hblt := fun p (h : p ∈ smBits 36 (regMask B xs)) => smBits_lt h
  have hdep := fun k hk => subL_dep (regMask B xs) 36 k hk
  have hFl : (partsL (regMask B xs)).length = 2 ^ (smBits 36 (regMask B xs)).length := (subL_dep (regMask B xs) 36 0 (by rw [subL_length]; exact Nat.two_pow_pos _)).2
  have hF : partsL (regMask B xs) = subL (regMask B xs) 36 := rfl
  rw [← hF] at hdep
  generalize regMask (B : Int) xs = M at HMK hM hpcM hasc hblt hdep hFl hbl hcl hpl hpc ⊢
  generalize partsL M = F at hdep hFl ⊢
  generalize smBits 36 M = P at hasc hblt hdep hFl hbl hcl hpl hpcM
  have hdl := fun code j (hj : j ≤ P.length) => depTo_lt hasc code j hj 36 (fun i hi => by
    rw [List.getD_eq_getElem?_getD, List.getElem?_eq_getElem (by omega)]
    exact hblt _ (List.getElem_mem _))
  have hdp := fun code => depTo_pc hasc hblt code P.length (Nat.le_refl _)
  have hpl2 : ∀ i (hi : i < L.length), ∃ hp : i < P.length, pbit B L[i] = P[i] := by
    intro i hi
    have h1 : (L.map (pbit B))[i]? = some (pbit B L[i]) := by rw [List.getElem?_map, List.getElem?_eq_getElem hi]; rfl
    have hip : i < P.length := by omega
    rw [hpl, List.getElem?_eq_getElem hip] at h1
    exact ⟨hip, (Option.some.inj h1).symm⟩
  have HDEP := Lib.hid (fun k hk => (hdep k hk).1)
  have HDL := Lib.hid hdl
  have HDP := Lib.hid hdp
  have HPL := Lib.hid hpl2
  have HBLT := Lib.hid hblt
  have HPC := Lib.hid hpcM
  have hN : F.length ≤ 4096 := by rw [hFl]; exact Nat.le_trans (Nat.pow_le_pow_right (by decide) hbl) (by decide)
  have hpw : ((2 : Int) ^ L.length) = (F.length : Int) := by rw [hcl, hFl]; norm_cast
  have hpw1 : wrap64 ((2 : Int) ^ L.length) = (F.length : Int) := by rw [hpw]; exact IntWalk.wrap64_in _ (by omega)
  have hpw2 : IntKind.i64.wrap ((2 : Int) ^ L.length) = (F.length : Int) := by rw [IntWalk.i64_left]; exact hpw1
  have hL12 : L.length ≤ 12 := by omega
  have hLi : (L.length : Int) < 64 := by omega
  have hPL : P.length = L.length := hcl.symm
  have hM36 : M < 68719476736 := hM
  clear hdep hdl hdp hpl2 hasc hblt hpl hF hFl hpcM hpc hM hbl hcl hpw
  obtain ⟨wA, hwA⟩ : ∃ wA, wA = w.alloc (.cells #[.int .i64 B, .slice ad xs.length c] 30) := ⟨_, rfl⟩
  have hbA : Below w.heap.size w wA := by rw [hwA]; exact (Below.refl _ _).alloc (Nat.le_refl _) _
  have hzA : wA.heap.size = w.heap.size + 1 := by rw [hwA]; simp
  have hblkA : wA.heap[w.heap.size]? = some (.cells #[.int .i64 B, .slice ad xs.length c] 30 (0, 0)) := by rw [hwA]; exact heap_alloc_new w _
  have HBA := Lib.hid hbA
  have HBLKA := Lib.hid hblkA
  have HWA := Lib.hid hwA
  have hszA := hbA.size
  clear hbA hblkA hwA
  go_enter Tryz.func8, Tryz.ntmps8
  go_wp2_with fail
  rw [← HWA.out]
  refine (HISM.out wA (HC.out.below HBA.out) (HCP.out.below HBA.out)).mono ?_
  rintro e w1 ⟨rfl, hb1⟩
  have HB1 := Lib.hid (HBA.out.trans (hb1.mono hszA))
  have HX1 := Lib.hid hb1
  have hsz1 := HB1.out.size
  have hs1 := hb1.size
  have hblk1 := (hb1.block w.heap.size (by omega)).trans HBLKA.out
  have x10 : w1.cell? ⟨w.heap.size, 0, none⟩ = some (.int .i64 B) := by rw [cell_of_row w1 _ 0 _ _ _ hblk1]; rfl
  have x11 : w1.cell? ⟨w.heap.size, 1, none⟩ = some (.slice ad xs.length c) := by rw [cell_of_row w1 _ 1 _ _ _ hblk1]; rfl
  clear hblk1 hb1
  go_wp2_with fail
  refine (HAL.out w1 (HC.out.below HB1.out) (HCP.out.below HB1.out)).mono ?_
  rintro e w2 ⟨a2, c2, rfl, ho2, hb2⟩
  have HB2 := Lib.hid (HB1.out.trans (hb2.mono hsz1))
  have HX2 := Lib.hid (HX1.out.trans (hb2.mono hs1))
  have hsz2 := HB2.out.size
  have hs2 := HX2.out.size
  have hblk2 := (HX2.out.block w.heap.size (by omega)).trans HBLKA.out
  have x20 : w2.cell? ⟨w.heap.size, 0, none⟩ = some (.int .i64 B) := by rw [cell_of_row w2 _ 0 _ _ _ hblk2]; rfl
  have x21 : w2.cell? ⟨w.heap.size, 1, none⟩ = some (.slice ad xs.length c) := by rw [cell_of_row w2 _ 1 _ _ _ hblk2]; rfl
  have HA2 := Lib.hid (ownsRow_cellsAt ho2)
  clear hblk2 hb2 ho2 x10 x11
  go_wp2_with fail
  refine (HCE.out w2 (HC.out.below HB2.out)).mono ?_
  rintro e w3 ⟨a3, c3, rfl, ho3, hb3⟩
  have HB3 := Lib.hid (HB2.out.trans (hb3.mono hsz2))
  have HX3 := Lib.hid (HX2.out.trans (hb3.mono hs2))
  have hsz3 := HB3.out.size
  have hs3 := HX3.out.size
  have hblk3 := (HX3.out.block w.heap.size (by omega)).trans HBLKA.out
  have x30 : w3.cell? ⟨w.heap.size, 0, none⟩ = some (.int .i64 B) := by rw [cell_of_row w3 _ 0 _ _ _ hblk3]; rfl
  have x31 : w3.cell? ⟨w.heap.size, 1, none⟩ = some (.slice ad xs.length c) := by rw [cell_of_row w3 _ 1 _ _ _ hblk3]; rfl
  have HA3 := Lib.hid (HA2.out.below hb3)
  have HL3 := Lib.hid (ownsRow_cellsAt ho3)
  clear hblk3 hb3 ho3 x20 x21
  go_wp2_with fail
  refine (HMK.out w3 (HC.out.below HB3.out)).mono ?_
  rintro e w4 ⟨rfl, hb4⟩
  have HB4 := Lib.hid (HB3.out.trans (hb4.mono hsz3))
  have HX4 := Lib.hid (HX3.out.trans (hb4.mono hs3))
  have hsz4 := HB4.out.size
  have hs4 := HX4.out.size
  have HBLK4 := Lib.hid ((HX4.out.block w.heap.size (by omega)).trans HBLKA.out)
  have HA4 := Lib.hid (HA3.out.below hb4)
  have HL4 := Lib.hid (HL3.out.below hb4)
  have hw4 : w.heap.size < w4.heap.size := by omega
  clear hb4 x30 x31
  go_wp2
  go_loopw [8, 9, 10] (fun bv sv i wr => ∃ (k : Nat) (st : Nat × Nat), k ≤ F.length ∧ i = .int .i64 k ∧ st = (F.take k).foldl (stepQ A) (M, pc M) ∧ (st.1 < 68719476736 ∧ st.2 ≤ 36) ∧ bv = .int .i64 (st.1 : Nat) ∧ sv = .int .i64 (st.2 : Nat) ∧ Below w4.heap.size w4 wr) (fun _ _ i _ => F.length - (intOf i).toNat)
  case atStart => exact ⟨0, (M, pc M), Nat.zero_le _, rfl, rfl, ⟨hM36, by rw [HPC.out]; omega⟩, rfl, by rw [HPC.out, hPL], Below.refl _ _⟩
  case round =>
    obtain ⟨k, ⟨s1, s2⟩, hk, rfl, hst, ⟨hs1', hs2'⟩, rfl, rfl, hb⟩ := hrel
    have HST := Lib.hid hst
    have HB := Lib.hid hb
    have hszr := hb.size
    clear hst hb
    by_cases hlt : k < F.length
    · have i1 : (k : Int) < (F.length : Int) := by omega
      obtain ⟨wo, rfl⟩ : ∃ wo : World, wo = wr := ⟨_, rfl⟩
      have hstep := foldl_take_succ (stepQ A) (M, pc M) hlt
      rw [← HST.out] at hstep
      have hget : F[k] = depTo P k P.length := by
        have q := HDEP.out k hlt
        rwa [List.getD_eq_getElem?_getD, List.getElem?_eq_getElem hlt] at q
      rw [hget] at hstep
      have HSTEP := Lib.hid hstep
      clear hstep hget
      go_wp2
      go_loopw [11, 12, 13] (fun mv nv i wi => ∃ j : Nat, j ≤ L.length ∧ i = .int .i64 j ∧ mv = .int .i64 (depTo P k j : Nat) ∧ nv = .int .i64 (cntC k j : Nat) ∧ ∃ m, wi = wo.drewN m) (fun _ _ i _ => L.length - (intOf i).toNat)
      case atStart => exact ⟨0, Nat.zero_le _, rfl, rfl, rfl, 0, rfl⟩
      case round =>
        obtain ⟨j, hj, rfl, rfl, rfl, m, hwi⟩ := hrel
        have HWI := Lib.hid hwi
        have hbi : Below wo.heap.size wo wr := by rw [hwi]; exact below_drewN (Below.refl _ _) m
        have HBI := Lib.hid hbi
        have hszi := hbi.size
        have hd : depTo P k j < 68719476736 := HDL.out k j (by omega)
        have hcn := cntC_le k j
        clear hwi hbi
        by_cases hjl : j < L.length
        · have i2 : (j : Int) < (L.length : Int) := by omega
          have hj64 : (j : Int) < 64 := by omega
          have hsh := and_shr_one k j (by omega)
          have hds : depTo P k (j + 1) = depTo P k j + if k.testBit j then 2 ^ P.getD j 0 else 0 := rfl
          have hcs : cntC k (j + 1) = cntC k j + if k.testBit j then 1 else 0 := rfl
          cases hbit : k.testBit j with
          | true =>
            rw [hbit, if_pos rfl] at hsh hds hcs
            obtain ⟨hip, hpb⟩ := HPL.out j hjl
            have hp36 := HBLT.out _ (List.getElem_mem hip)
            obtain ⟨X, Y, hXY⟩ := HCF.out _ (List.getElem_mem hjl)
            rw [List.getD_eq_getElem?_getD, List.getElem?_eq_getElem hip] at hds
            have hpe : P[j] = Y * B + X := by
              rw [← hpb, hXY]
              show ((Y : Int)).toNat * B + ((X : Int)).toNat = Y * B + X
              rw [Int.toNat_natCast, Int.toNat_natCast]
            obtain ⟨g, off, hga, hg, hcc⟩ := cl_open HL4.out (by omega)
            obtain ⟨y0, y1⟩ := hcc j hjl
            have hbw := HB.out.trans (HBI.out.mono hszr)
            have u0 := (hbw.cell (p := ⟨g, off + j * 2, none⟩) hg).trans y0
            have u1 := (hbw.cell (p := ⟨g, off + j * 2 + 1, none⟩) hg).trans y1
            rw [hXY] at u0 u1
            have hblkr := (hbw.block w.heap.size hw4).trans HBLK4.out
            have x0 : wr.cell? ⟨w.heap.size, 0, none⟩ = some (.int .i64 B) := by rw [cell_of_row wr _ 0 _ _ _ hblkr]; rfl
            obtain ⟨q, hq⟩ : ∃ q, q = Y * B := ⟨_, rfl⟩
            obtain ⟨p, hp⟩ : ∃ p, p = P[j] := ⟨_, rfl⟩
            have hds2 : depTo P k (j + 1) = depTo P k j + 2 ^ p := by rw [hds, hp]; rfl
            have HDS := Lib.hid hds2
            have HCS := Lib.hid hcs
            rw [← hp] at hp36
            have hpq : p = q + X := by rw [hp, hq]; exact hpe
            have t0 : (Y : Int) * (B : Int) = (q : Int) := by rw [hq]; norm_cast
            have hq36 : q < 36 := Nat.lt_of_le_of_lt (by rw [hpq]; exact Nat.le_add_right _ _) hp36
            have t1 : wrap64 (q : Int) = (q : Int) := wrap_nat (Nat.lt_trans hq36 (by decide))
            have t2 : IntKind.i64.wrap (q : Int) = (q : Int) := by rw [IntWalk.i64_left]; exact t1
            have t3 : (q : Int) + (X : Int) = (p : Int) := by rw [hpq]; norm_cast
            have t4 : wrap64 (p : Int) = (p : Int) := wrap_nat (Nat.lt_trans hp36 (by decide))
            have t5 : IntKind.i64.wrap (p : Int) = (p : Int) := by rw [IntWalk.i64_left]; exact t4
            have t6 : (p : Int) < 64 := Int.ofNat_lt.2 (Nat.lt_trans hp36 (by decide))
            have t6n : p < 64 := Nat.lt_trans hp36 (by decide)
            have t6m : min p 64 = p := Nat.min_eq_left (Nat.le_of_lt t6n)
            have hd60 : depTo P k j ≤ 1152921504606846976 := Nat.le_trans (Nat.le_of_lt hd) (by decide)
            have t7 := wrap_add_pow (depTo P k j) p (Nat.le_trans (Nat.le_of_lt hp36) (by decide)) hd60
            have T7 := Lib.hid t7
            subst hga
            clear hcc y0 y1 hblkr hbw hXY hpb hpe hds hds2 hcs hip hbit hq hp t7 hpq hq36 hp36
            generalize depTo P k j = D at hd hd60 HDS T7 ⊢
            generalize cntC k j = N1 at hcn HCS ⊢
            go_wp2
            go_big_quiet (fail)
            go_wp2
            go_roundw
            case rel =>
              refine ⟨j + 1, hjl, by go_num, ?_, by rw [HCS.out]; go_num, _, by rw [HWI.out]; exact World.drewN_drewN ..⟩
              rw [HDS.out]
              first | (rw [← T7.out]; done) | (rw [← T7.out]; rfl) | (congr 1; exact T7.out) | (congr 1; rw [← T7.out]; rfl)
            case measure => simp [intOf]; omega
          | false =>
            rw [hbit, if_neg (by decide)] at hsh hds hcs
            have HDS := Lib.hid hds
            have HCS := Lib.hid hcs
            clear hbit hds hcs
            go_wp2
            go_roundw
            case rel => exact ⟨j + 1, hjl, by go_num, by rw [HDS.out, Nat.add_zero], by rw [HCS.out, Nat.add_zero], m, HWI.out⟩
            case measure => simp [intOf]; omega
        · have hjl2 : j = P.length := by omega
          subst hjl2
          have hdp := HDP.out k
          have hsq : stepQ A (s1, s2) (depTo P k P.length) = if pc (depTo P k P.length) < s2 ∧ blocksL A (depTo P k P.length) = true then (depTo P k P.length, pc (depTo P k P.length)) else (s1, s2) := rfl
          rw [hsq, hdp] at HSTEP
          have i2 : ¬ (P.length : Int) < (L.length : Int) := by omega
          clear hsq hdp
          generalize depTo P k P.length = D at hd HSTEP ⊢
          generalize cntC k P.length = N1 at hcn HSTEP ⊢
          have hbw := HB.out.trans (HBI.out.mono hszr)
          have HBW := Lib.hid hbw
          have hszw := hbw.size
          have HBL := Lib.hid (specBlocks a2 c2 A D wr (by omega) HSM.out (by omega) (HA4.out.below hbw))
          clear hbw
          by_cases hq : N1 < s2
          · have g1 : decide ((N1 : Int) < (s2 : Int)) = true := decide_eq_true (by omega)
            have g2 : decide (N1 < s2) = true := decide_eq_true hq
            cases hbl : blocksL A D with
            | true =>
              rw [hbl] at HBL
              rw [hbl, if_pos ⟨hq, rfl⟩] at HSTEP
              clear hbl hq
              go_wp2_with fail
              refine HBL.out.mono ?_
              rintro e w6 ⟨rfl, hb6⟩
              have HB6 := Lib.hid (HBW.out.trans (hb6.mono hszw))
              clear hb6
              go_wp2
              go_roundw
              case rel => exact ⟨k + 1, (D, N1), hlt, by go_num, HSTEP.out.symm, ⟨hd, by show N1 ≤ 36; omega⟩, rfl, rfl, HB6.out⟩
              case measure => simp [intOf]; omega
            | false =>
              rw [hbl] at HBL
              rw [hbl, if_neg (fun q : _ ∧ _ => by cases q.2)] at HSTEP
              clear hbl hq
              go_wp2_with fail
              refine HBL.out.mono ?_
              rintro e w6 ⟨rfl, hb6⟩
              have HB6 := Lib.hid (HBW.out.trans (hb6.mono hszw))
              clear hb6
              go_wp2
              go_roundw
              case rel => exact ⟨k + 1, (s1, s2), hlt, by go_num, HSTEP.out.symm, ⟨hs1', hs2'⟩, rfl, rfl, HB6.out⟩
              case measure => simp [intOf]; omega
          · have g1 : decide ((N1 : Int) < (s2 : Int)) = false := decide_eq_false (by omega)
            have g2 : decide (N1 < s2) = false := decide_eq_false hq
            rw [if_neg (fun q : _ ∧ _ => hq q.1)] at HSTEP
            clear hq
            go_wp2
            go_roundw
            case rel => exact ⟨k + 1, (s1, s2), hlt, by go_num, HSTEP.out.symm, ⟨hs1', hs2'⟩, rfl, rfl, HBW.out⟩
            case measure => simp [intOf]; omega
    · obtain rfl : k = F.length := by omega
      have hst := HST.out
      rw [List.take_length] at hst
      have HV := Lib.hid hst
      clear hst
      go_wp2
      go_ret2
      rw [← HV.out]
      exact ⟨rfl, HB4.out.trans (HB.out.mono hsz4)⟩

set_option maxRecDepth 100000 in
set_option maxHeartbeats 1600000 in
theorem specFB (b : Int) (ad : Option Addr) (c : Nat) (xs : List Int) (sa : Option Addr) (cs : Nat) (ps : List (List Cl)) (w : World) (hn : xs.length ≤ 1048576) (hnp : ps.length ≤ 1048576) (hl : ∀ p ∈ ps, p.length ≤ 1048576) (hc : CellsAt w ad (ints xs)) (hcp : ShpsAt w sa ps) :
    Calls Tryz.prog 8 #[.agg #[.int .i64 b, .slice ad xs.length c], .slice sa ps.length cs] w fun e w' => e = .returned (.tuple #[.int .i64 (fewR b xs ps), .bool (decide (SmallP b xs ps))]) ∧ Below w.heap.size w w' := by
  by_cases hs : SmallP b xs ps
  · obtain ⟨B, rfl⟩ := Int.eq_ofNat_of_zero_le (by have := hs.1.1.1.1; omega : 0 ≤ b)
    rw [decide_eq_true hs, show fewR B xs ps = (fewB (allL B xs ps) (regMask B xs) : Nat) from if_pos hs]
    exact specFB_yes B ad c xs sa cs ps w hn hnp hl hc hcp hs
  · rw [decide_eq_false hs, show fewR b xs ps = 0 from if_neg hs]
    have hsm := fun w' h1 h2 => specFine b ad c xs sa cs ps w' hn hnp hl h1 h2
    rw [decide_eq_false hs] at hsm
    have HC := Lib.hid hc
    have HCP := Lib.hid hcp
    have HISM := Lib.hid hsm
    clear hc hcp hl hsm hs
    obtain ⟨wA, hwA⟩ : ∃ wA, wA = w.alloc (.cells #[.int .i64 b, .slice ad xs.length c] 30) := ⟨_, rfl⟩
    have hbA : Below w.heap.size w wA := by rw [hwA]; exact (Below.refl _ _).alloc (Nat.le_refl _) _
    have HBA := Lib.hid hbA
    have HWA := Lib.hid hwA
    have hszA := hbA.size
    clear hbA hwA
    go_enter Tryz.func8, Tryz.ntmps8
    go_wp2_with fail
    rw [← HWA.out]
    refine (HISM.out wA (HC.out.below HBA.out) (HCP.out.below HBA.out)).mono ?_
    rintro e w1 ⟨rfl, hb1⟩
    have HB1 := Lib.hid (HBA.out.trans (hb1.mono hszA))
    clear hb1
    go_wp2
    go_ret2
    exact ⟨rfl, HB1.out⟩
end Go.Proofs.YtomaihbaffoplaaGreat
