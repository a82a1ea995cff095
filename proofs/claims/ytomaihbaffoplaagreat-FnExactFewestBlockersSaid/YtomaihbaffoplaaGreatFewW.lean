/- FewW: the walks of FewestBlockers, the reference's and the program's. -/
import Derived.Test.YtomaihbaffoplaaGreatAreaW
import Derived.Test.YtomaihbaffoplaaGreatSubsW
import Derived.Test.YtomaihbaffoplaaGreatBlocks
namespace Go.Proofs.YtomaihbaffoplaaGreat
open Go.RowKit

def fewR (b : Int) (xs : List Int) (ps : List (List Cl)) : Int := if SmallP b xs ps then (fewB (allL b.toNat xs ps) (regMask b xs) : Nat) else 0
theorem foldl_take_succ {α β : Type} (f : β → α → β) (b : β) {l : List α} {k : Nat} (h : k < l.length) : (l.take (k + 1)).foldl f b = f ((l.take k).foldl f b) l[k] := by
  rw [List.take_succ_eq_append_getElem h, List.foldl_append]
  rfl
theorem cellsTo_facts {B : Nat} {xs : List Int} : ∀ k, ∀ c ∈ cellsTo B xs k, ∃ X Y : Nat, c = ⟨(X : Int), (Y : Int)⟩
  | 0, c, h => by simp [cellsTo] at h
  | k + 1, c, h => by
    rw [cellsTo] at h
    rcases List.mem_append.1 h with h | h
    · exact cellsTo_facts k c h
    · unfold rowC at h
      obtain ⟨i, _, rfl⟩ := List.mem_map.1 h
      exact ⟨i, k, rfl⟩
/-- What the walks want of a small region. -/
theorem small_facts {B : Nat} {xs : List Int} (hr : Reg (B : Int) xs) (ha : areaR B xs ≤ 12) :
    pc (regMask B xs) ≤ 12 ∧ (smBits 36 (regMask B xs)).length ≤ 12 ∧ (cellsTo B xs xs.length).length = (smBits 36 (regMask B xs)).length ∧ (cellsTo B xs xs.length).map (pbit B) = smBits 36 (regMask B xs) := by
  have hnat : ∀ x ∈ regN xs, x < 2 ^ B := by have := reg_nat hr; rwa [Int.toNat_natCast] at this
  have hb6 : B ≤ 6 := by have := hr.1.2; omega
  have h1 := cellsTo_length hnat (show B ≤ 36 by omega) xs.length (Nat.le_refl _)
  have h2 := cellsR_place hr
  have hM := regMask_lt hr
  have hn : xs.length * B ≤ 6 * 6 := Nat.mul_le_mul hr.2.1.2 hb6
  have hlt : regMask (B : Int) xs < 2 ^ (xs.length * B) := by
    unfold regMask
    rw [Int.toNat_natCast]
    exact maskTo_lt hnat xs.length (by rw [regN_length]; exact Nat.le_refl _)
  have e : smBits 36 (regMask B xs) = smBits (xs.length * B) (regMask B xs) := smBits_of_zero _ _ 36 (by omega) (Nat.div_eq_of_lt hlt)
  unfold cellsR at h2
  rw [if_pos hr, Int.toNat_natCast, ← e] at h2
  have h3 : (cellsTo B xs xs.length).length = (smBits 36 (regMask B xs)).length := by rw [← h2, List.length_map]
  have h4 : (areaTo xs xs.length : Int) ≤ 12 := by
    unfold areaR at ha
    rwa [if_pos hr] at ha
  have h5 := smBits_all (n := 36) hM (Nat.le_refl _)
  exact ⟨by omega, by omega, h3, h2⟩

set_option maxRecDepth 100000 in
set_option maxHeartbeats 3200000 in
theorem implFB_yes (B : Nat) (ad : Option Addr) (c : Nat) (xs : List Int) (sa : Option Addr) (cs : Nat) (ps : List (List Cl)) (w : World) (hn : xs.length ≤ 1048576) (hnp : ps.length ≤ 1048576) (hl : ∀ p ∈ ps, p.length ≤ 1048576) (hc : CellsAt w ad (ints xs)) (hcp : ShpsAt w sa ps) (hs : SmallP (B : Int) xs ps) :
    Calls Tryz.prog 11 #[.agg #[.int .i64 B, .slice ad xs.length c], .slice sa ps.length cs] w fun e w' => e = .returned (.tuple #[.int .i64 (fewB (allL B xs ps) (regMask B xs) : Nat), .bool true]) ∧ Below w.heap.size w w' := by
  have hsm := fun w' h1 h2 => implSm (B : Int) ad c xs sa cs ps w' hn hnp hl h1 h2
  rw [decide_eq_true hs] at hsm
  obtain ⟨⟨hr, hp⟩, ha⟩ := hs
  obtain ⟨hpc, _, _, _⟩ := small_facts hr ha
  have hM := regMask_lt hr
  have hag := few_agree (A := allL B xs ps) hM (blocksL_full hr hp)
  have HAL := Lib.hid (fun w' h1 h2 => implAll B ad c xs sa cs ps w' hr hp h1 h2)
  have HMK := Lib.hid (fun w' h1 => implMask B ad c xs w' hr h1)
  have hlen := allL_length hr hp
  have HSM := Lib.hid (allL_small hr ps)
  have HC := Lib.hid hc
  have HCP := Lib.hid hcp
  have HISM := Lib.hid hsm
  clear hc hcp hl hsm hr hp ha
  generalize fewB (allL B xs ps) (regMask B xs) = r0 at hag ⊢
  generalize allL B xs ps = A at HAL hlen HSM hag
  generalize regMask (B : Int) xs = M at HMK hM hpc hag
  have HSUB := Lib.hid (fun w' => implSubs M 36 w' hM (Nat.le_refl _) (by omega))
  have HLT := Lib.hid (fun v (h : v ∈ partsL M) => subL_lt M 36 v h)
  have hF : partsL M = subL M 36 := rfl
  have hfl := (subL_small (m := M) (by omega) (Nat.le_refl 36)).2
  rw [← hF] at HSUB hfl
  generalize partsL M = F at hag HSUB HLT hfl
  have HAG := Lib.hid hag
  clear hF hag hpc
  obtain ⟨wA, hwA⟩ : ∃ wA, wA = w.alloc (.cells #[.int .i64 B, .slice ad xs.length c] 30) := ⟨_, rfl⟩
  have hbA : Below w.heap.size w wA := by rw [hwA]; exact (Below.refl _ _).alloc (Nat.le_refl _) _
  have hzA : wA.heap.size = w.heap.size + 1 := by rw [hwA]; simp
  have hblkA : wA.heap[w.heap.size]? = some (.cells #[.int .i64 B, .slice ad xs.length c] 30 (0, 0)) := by rw [hwA]; exact heap_alloc_new w _
  have HBA := Lib.hid hbA
  have HBLKA := Lib.hid hblkA
  have HWA := Lib.hid hwA
  have hszA := hbA.size
  clear hbA hblkA hwA
  go_enter Tryz.func11, Tryz.ntmps11
  go_wp2_with fail
  rw [← HWA.out]
  refine (HISM.out wA (HC.out.below HBA.out) (HCP.out.below HBA.out)).mono ?_
  rintro e w1 ⟨rfl, hb1⟩
  have HB1 := Lib.hid (HBA.out.trans (hb1.mono hszA))
  have HX1 := Lib.hid hb1
  have hsz1 := HB1.out.size
  have hs1 := hb1.size
  have hblk1 := (hb1.block w.heap.size (by omega)).trans HBLKA.out
  have x10 : w1.cell? ⟨w.heap.size, 0, none⟩ = some (.int .i64 B) := by rw [cell_of_row w1 _ 0 _ _ _ hblk1]; rfl
  have x11 : w1.cell? ⟨w.heap.size, 1, none⟩ = some (.slice ad xs.length c) := by rw [cell_of_row w1 _ 1 _ _ _ hblk1]; rfl
  clear hblk1 hb1
  go_wp2_with fail
  refine (HAL.out w1 (HC.out.below HB1.out) (HCP.out.below HB1.out)).mono ?_
  rintro e w2 ⟨a2, c2, rfl, ho2, hb2⟩
  have HB2 := Lib.hid (HB1.out.trans (hb2.mono hsz1))
  have HX2 := Lib.hid (HX1.out.trans (hb2.mono hs1))
  have hsz2 := HB2.out.size
  have hs2 := HX2.out.size
  have hblk2 := (HX2.out.block w.heap.size (by omega)).trans HBLKA.out
  have x20 : w2.cell? ⟨w.heap.size, 0, none⟩ = some (.int .i64 B) := by rw [cell_of_row w2 _ 0 _ _ _ hblk2]; rfl
  have x21 : w2.cell? ⟨w.heap.size, 1, none⟩ = some (.slice ad xs.length c) := by rw [cell_of_row w2 _ 1 _ _ _ hblk2]; rfl
  have HA2 := Lib.hid (ownsRow_cellsAt ho2)
  clear hblk2 hb2 ho2 x10 x11
  go_wp2_with fail
  refine (HMK.out w2 (HC.out.below HB2.out)).mono ?_
  rintro e w3 ⟨rfl, hb3⟩
  have HB3 := Lib.hid (HB2.out.trans (hb3.mono hsz2))
  have hsz3 := HB3.out.size
  have HA3 := Lib.hid (HA2.out.below hb3)
  clear hb3 x20 x21
  go_wp2_with fail
  refine (HSUB.out w3).mono ?_
  rintro e w4 ⟨a4, c4, rfl, ho4, hb4⟩
  have HB4 := Lib.hid (HB3.out.trans (hb4.mono hsz3))
  have hsz4 := HB4.out.size
  have HA4 := Lib.hid (HA3.out.below hb4)
  have HF4 := Lib.hid (ownsRow_cellsAt ho4)
  clear hb4 ho4
  go_wp2
  go_loopw [7, 8, 22] (fun bv fv i wr => ∃ (k : Nat) (st : Option Nat), k ≤ F.length ∧ i = .int .i64 k ∧ st = (F.take k).foldl (stepP A) none ∧ (∀ v, st = some v → v < 68719476736) ∧ bv = .int .i64 (st.getD 0 : Nat) ∧ fv = .bool st.isSome ∧ Below w4.heap.size w4 wr) (fun _ _ i _ => F.length - (intOf i).toNat)
  case atStart => exact ⟨0, none, Nat.zero_le _, rfl, rfl, (fun v h => by cases h), rfl, rfl, Below.refl _ _⟩
  case round =>
    obtain ⟨k, st, hk, rfl, hst, hsb, rfl, rfl, hb⟩ := hrel
    have HST := Lib.hid hst
    have HSB := Lib.hid hsb
    have HB := Lib.hid hb
    have hszr := hb.size
    clear hst hsb hb
    by_cases hlt : k < F.length
    · obtain ⟨g, off, hga, hg, hcc⟩ := HF4.out.open (by rw [ints_length, zs_length]; omega)
      have x0 := (HB.out.cell (p := ⟨g, off + k, none⟩) hg).trans (hcc k _ (zs_at F k hlt))
      have hu := HLT.out _ (List.getElem_mem hlt)
      have hstep := foldl_take_succ (stepP A) none hlt
      rw [← HST.out] at hstep
      have HSTEP := Lib.hid hstep
      have i1 : (k : Int) < (F.length : Int) := by omega
      clear hcc hstep
      generalize F[k] = u at x0 hu HSTEP
      have hu36 : u < 68719476736 := hu
      have hwu : IntKind.u64.wrap (u : Int) = (u : Int) := IntWalk.u64_in _ (by omega)
      have HBL := Lib.hid (implBlocks a2 c2 A u wr (by omega) HSM.out (by omega) (HA4.out.below HB.out))
      have HONE := Lib.hid (onesPc u hu36 wr)
      subst hga
      clear hu
      cases st with
      | none =>
        have hsp : stepP A none u = if blocksL A u = true then some u else none := rfl
        rw [hsp] at HSTEP
        clear hsp
        cases hbl : blocksL A u with
        | true =>
          rw [hbl] at HBL
          rw [hbl, if_pos rfl] at HSTEP
          clear hbl
          go_wp2_with fail
          refine HBL.out.mono ?_
          rintro e w6 ⟨rfl, hb6⟩
          have HB6 := Lib.hid (HB.out.trans (hb6.mono hszr))
          clear hb6
          go_wp2
          go_roundw
          case rel => exact ⟨k + 1, some u, hlt, by go_num, HSTEP.out.symm, (fun v h => by cases h; exact hu36), rfl, rfl, HB6.out⟩
          case measure => simp [intOf]; omega
        | false =>
          rw [hbl] at HBL
          rw [hbl, if_neg (by decide)] at HSTEP
          clear hbl
          go_wp2_with fail
          refine HBL.out.mono ?_
          rintro e w6 ⟨rfl, hb6⟩
          have HB6 := Lib.hid (HB.out.trans (hb6.mono hszr))
          clear hb6
          go_wp2
          go_roundw
          case rel => exact ⟨k + 1, none, hlt, by go_num, HSTEP.out.symm, (fun v h => by cases h), rfl, rfl, HB6.out⟩
          case measure => simp [intOf]; omega
      | some b0 =>
        have hb36 := HSB.out b0 rfl
        have hsp : stepP A (some b0) u = if pc u < pc b0 ∧ blocksL A u = true then some u else some b0 := rfl
        rw [hsp] at HSTEP
        clear hsp
        have hwb : IntKind.u64.wrap (b0 : Int) = (b0 : Int) := IntWalk.u64_in _ (by omega)
        have HONB := Lib.hid (onesPc b0 hb36 wr)
        generalize hpu : pc u = pu at HONE HSTEP
        generalize hpb : pc b0 = pb at HONB HSTEP
        clear hpu hpb
        by_cases hq : pu < pb
        · have g1 : decide ((pu : Int) < (pb : Int)) = true := decide_eq_true (by omega)
          have g2 : decide (pu < pb) = true := decide_eq_true hq
          cases hbl : blocksL A u with
          | true =>
            rw [hbl] at HBL
            rw [hbl, if_pos ⟨hq, rfl⟩] at HSTEP
            clear hbl hq
            go_wp2_with fail
            refine HONE.out.mono ?_
            rintro e w5 ⟨rfl, rfl⟩
            go_wp2_with fail
            refine HONB.out.mono ?_
            rintro e w5 ⟨rfl, rfl⟩
            go_wp2_with fail
            refine HBL.out.mono ?_
            rintro e w6 ⟨rfl, hb6⟩
            have HB6 := Lib.hid (HB.out.trans (hb6.mono hszr))
            clear hb6
            go_wp2
            go_roundw
            case rel => exact ⟨k + 1, some u, hlt, by go_num, HSTEP.out.symm, (fun v h => by cases h; exact hu36), rfl, rfl, HB6.out⟩
            case measure => simp [intOf]; omega
          | false =>
            rw [hbl] at HBL
            rw [hbl, if_neg (fun q : _ ∧ _ => by cases q.2)] at HSTEP
            clear hbl hq
            go_wp2_with fail
            refine HONE.out.mono ?_
            rintro e w5 ⟨rfl, rfl⟩
            go_wp2_with fail
            refine HONB.out.mono ?_
            rintro e w5 ⟨rfl, rfl⟩
            go_wp2_with fail
            refine HBL.out.mono ?_
            rintro e w6 ⟨rfl, hb6⟩
            have HB6 := Lib.hid (HB.out.trans (hb6.mono hszr))
            clear hb6
            go_wp2
            go_roundw
            case rel => exact ⟨k + 1, some b0, hlt, by go_num, HSTEP.out.symm, (fun v h => by cases h; exact hb36), rfl, rfl, HB6.out⟩
            case measure => simp [intOf]; omega
        · have g1 : decide ((pu : Int) < (pb : Int)) = false := decide_eq_false (by omega)
          have g2 : decide (pu < pb) = false := decide_eq_false hq
          rw [if_neg (fun q : _ ∧ _ => hq q.1)] at HSTEP
          clear hq
          go_wp2_with fail
          refine HONE.out.mono ?_
          rintro e w5 ⟨rfl, rfl⟩
          go_wp2_with fail
          refine HONB.out.mono ?_
          rintro e w5 ⟨rfl, rfl⟩
          go_wp2
          go_roundw
          case rel => exact ⟨k + 1, some b0, hlt, by go_num, HSTEP.out.symm, (fun v h => by cases h; exact hb36), rfl, rfl, HB.out⟩
          case measure => simp [intOf]; omega
    · obtain rfl : k = F.length := by omega
      have hst := HST.out
      rw [List.take_length, HAG.out] at hst
      subst hst
      go_wp2
      go_ret2
      exact ⟨rfl, HB4.out.trans (HB.out.mono hsz4)⟩

set_option maxRecDepth 100000 in
set_option maxHeartbeats 1600000 in
theorem implFB (b : Int) (ad : Option Addr) (c : Nat) (xs : List Int) (sa : Option Addr) (cs : Nat) (ps : List (List Cl)) (w : World) (hn : xs.length ≤ 1048576) (hnp : ps.length ≤ 1048576) (hl : ∀ p ∈ ps, p.length ≤ 1048576) (hc : CellsAt w ad (ints xs)) (hcp : ShpsAt w sa ps) :
    Calls Tryz.prog 11 #[.agg #[.int .i64 b, .slice ad xs.length c], .slice sa ps.length cs] w fun e w' => e = .returned (.tuple #[.int .i64 (fewR b xs ps), .bool (decide (SmallP b xs ps))]) ∧ Below w.heap.size w w' := by
  by_cases hs : SmallP b xs ps
  · obtain ⟨B, rfl⟩ := Int.eq_ofNat_of_zero_le (by have := hs.1.1.1.1; omega : 0 ≤ b)
    rw [decide_eq_true hs, show fewR B xs ps = (fewB (allL B xs ps) (regMask B xs) : Nat) from if_pos hs]
    exact implFB_yes B ad c xs sa cs ps w hn hnp hl hc hcp hs
  · rw [decide_eq_false hs, show fewR b xs ps = 0 from if_neg hs]
    have hsm := fun w' h1 h2 => implSm b ad c xs sa cs ps w' hn hnp hl h1 h2
    rw [decide_eq_false hs] at hsm
    have HC := Lib.hid hc
    have HCP := Lib.hid hcp
    have HISM := Lib.hid hsm
    clear hc hcp hl hsm hs
    obtain ⟨wA, hwA⟩ : ∃ wA, wA = w.alloc (.cells #[.int .i64 b, .slice ad xs.length c] 30) := ⟨_, rfl⟩
    have hbA : Below w.heap.size w wA := by rw [hwA]; exact (Below.refl _ _).alloc (Nat.le_refl _) _
    have HBA := Lib.hid hbA
    have HWA := Lib.hid hwA
    have hszA := hbA.size
    clear hbA hwA
    go_enter Tryz.func11, Tryz.ntmps11
    go_wp2_with fail
    rw [← HWA.out]
    refine (HISM.out wA (HC.out.below HBA.out) (HCP.out.below HBA.out)).mono ?_
    rintro e w1 ⟨rfl, hb1⟩
    have HB1 := Lib.hid (HBA.out.trans (hb1.mono hszA))
    clear hb1
    go_wp2
    go_ret2
    exact ⟨rfl, HB1.out⟩
end Go.Proofs.YtomaihbaffoplaaGreat
