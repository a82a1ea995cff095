/- HalfS: the walk of the reference's HalvesOf. -/
import Derived.Test.YtcoggnoeafpgbaaHalfI
import Derived.Test.YtcoggnoeafpgbaaConnS
import Derived.Test.YtcoggnoeafpgbaaAllMoc
import Derived.Test.YtcoggnoeafpgbaaAllFrame
namespace Go.Proofs.Ytcoggnoeafpgbaa
open Go.RowKit

theorem cntC_len (ps : List Nat) (code : Nat) : ∀ k, (unsTo ps code k).length ≤ k
  | 0 => Nat.le_refl _
  | k + 1 => by
    have := cntC_len ps code k
    rw [unsTo, List.length_append]
    split <;> simp <;> omega
/-- What the reference's loop does at a code. -/
theorem half_code {B : Nat} {xs : List Int} {N : Nat} {L : List Cl} (hr : Reg (B : Int) xs) (hN : (smBits 36 (regMask B xs)).length = N) (hL : cellsTo B xs xs.length = L) (h2 : 2 ≤ N) (h16 : N ≤ 16) (C : Nat) (hC : C < 2 ^ N) :
    ∃ (S U : Nat → List Cl) (m : Nat), S 0 = [] ∧ U 0 = [] ∧ (∀ i (hi : i < L.length), (C.testBit i = true → S (i + 1) = S i ++ [L[i]] ∧ U (i + 1) = U i) ∧ (C.testBit i = false → S (i + 1) = S i ∧ U (i + 1) = U i ++ [L[i]])) ∧
      (∀ i, i ≤ N → (S i).length ≤ i ∧ (U i).length ≤ i) ∧ goodP B (smBits 36 (regMask B xs)) C = goodC N (S N) (U N) ∧ ((S N).length = N / 2 → Shape (S N)) ∧ mocS B xs (S N) 0 = some m ∧ m = depTo (smBits 36 (regMask B xs)) C (smBits 36 (regMask B xs)).length ∧ m ≤ regMask B xs ∧
      ∀ d ∈ S N, (0 ≤ d.x ∧ d.x ≤ 50) ∧ 0 ≤ d.y ∧ d.y ≤ 50 := by
  have hM := regMask_lt hr
  have hb : 1 ≤ B ∧ B ≤ 6 := by have := hr.1.1; have := hr.1.2; omega
  have hpl := place_lt hr
  have hLP := (cells_places hr).1
  rw [hL] at hLP
  have hmoc := moc_half hr C (k := N) (by omega)
  have hle : depTo (smBits 36 (regMask B xs)) C (smBits 36 (regMask B xs)).length ≤ regMask B xs := (dep_rest hM (by rw [hN]; exact hC)).2
  have hsm := places_small hb (ps := selTo (smBits 36 (regMask B xs)) C (smBits 36 (regMask B xs)).length) (sel_sub hpl)
  have hasc := places_asc (B := B) (selTo_asc (smBits_asc 36 (regMask B xs)) C _ (Nat.le_refl _))
  have hlen := cntC_le C
  have hgp : goodP B (smBits 36 (regMask B xs)) C = goodC (smBits 36 (regMask B xs)).length (placesOf B (selTo (smBits 36 (regMask B xs)) C (smBits 36 (regMask B xs)).length)) (placesOf B (unsTo (smBits 36 (regMask B xs)) C (smBits 36 (regMask B xs)).length)) := rfl
  rw [hN] at hsm hasc hle hgp
  rw [hgp, hN]
  generalize smBits 36 (regMask B xs) = P at hN hLP hmoc hle hsm hasc ⊢
  refine ⟨fun i => placesOf B (selTo P C i), fun i => placesOf B (unsTo P C i), _, rfl, rfl, fun i hi => ?_, fun i hi => ?_, rfl, fun h => ?_, hmoc, rfl, hle, fun d hd => ?_⟩
  · have hiP : i < P.length := by rw [hLP, placesOf_length] at hi; exact hi
    have e : L[i] = ⟨((P[i] % B : Nat) : Int), ((P[i] / B : Nat) : Int)⟩ := by
      subst hLP
      exact placesOf_at hiP
    have e2 : P.getD i 0 = P[i] := by rw [List.getD_eq_getElem?_getD, List.getElem?_eq_getElem hiP]; rfl
    refine ⟨fun hb => ⟨?_, ?_⟩, fun hb => ⟨?_, ?_⟩⟩
    · show placesOf B (selTo P C (i + 1)) = _
      rw [selTo, hb, if_pos rfl, placesOf_snoc, e, e2]
    · show placesOf B (unsTo P C (i + 1)) = _
      rw [unsTo, hb, if_pos rfl, List.append_nil]
    · show placesOf B (selTo P C (i + 1)) = _
      rw [selTo, hb, if_neg (by decide), List.append_nil]
    · show placesOf B (unsTo P C (i + 1)) = _
      rw [unsTo, hb, if_neg (by decide), placesOf_snoc, e, e2]
  · show (placesOf B (selTo P C i)).length ≤ i ∧ (placesOf B (unsTo P C i)).length ≤ i
    rw [placesOf_length, placesOf_length, selTo_length]
    exact ⟨hlen i, cntC_len P C i⟩
  · refine ⟨⟨hasc, fun c hc => ?_⟩, ?_, ?_⟩
    · have := hsm c hc
      unfold OnB
      omega
    · show 1 ≤ (placesOf B (selTo P C N)).length
      have : (placesOf B (selTo P C N)).length = N / 2 := h
      omega
    · show (placesOf B (selTo P C N)).length ≤ 8
      have : (placesOf B (selTo P C N)).length = N / 2 := h
      omega
  · have := hsm d hd
    omega
/-- Two rows in blocks of their own. -/
def Apart (v1 v2 : Value) : Prop := ∀ g, v1.ownBlock = some g → v2.ownBlock ≠ some g
theorem apart_kept {w w' : World} {base e size n : Nat} {v1 v2 : Value} {l : List Value} (h : w.ownsRow base e size v2 n l) (hg : w.grownBy w' v1.ownBlock) (ha : Apart v1 v2) : w'.ownsRow base e size v2 n l := by
  refine h.kept hg ?_
  cases h2 : v2.ownBlock with
  | none => exact .inl rfl
  | some g => exact .inr fun q => ha g q.symm h2
theorem apart_symm {v1 v2 : Value} (h : Apart v1 v2) : Apart v2 v1 := fun g h1 h2 => h g h2 h1
theorem apart_grown {w : World} {base e size n g n' cap' : Nat} {v1 v2 : Value} {l : List Value} (h : w.ownsRow base e size v2 n l) (ha : Apart v1 v2) (hg : v1.ownBlock = some g ∨ w.heap.size ≤ g) : Apart (.slice (some ⟨g, 0, none⟩) n' cap') v2 := by
  intro g1 h1 h2
  have e : g = g1 := by simpa [Value.ownBlock] using h1
  subst e
  rcases hg with q | q
  · exact ha g q h2
  · have := (h.lt g h2).2
    omega
theorem apart_alloc {w : World} {base base' e size n : Nat} {v1 v2 : Value} {l : List Value} (h : w.ownsRow base e size v2 n l) (h1 : v1.ownBlock = some base') (hb : base' < base) : Apart v1 v2 := by
  intro g h2 h3
  rw [h1] at h2
  cases h2
  have := (h.lt _ h3).1
  omega

set_option maxRecDepth 100000 in
set_option maxHeartbeats 6400000 in
theorem specHalves_yes (B : Nat) (ad : Option Addr) (c : Nat) (xs : List Int) (w : World) (h : Halv (B : Int) xs) (hc : CellsAt w ad (ints xs)) :
    Calls Try.prog 5 #[.agg #[.int .i64 B, .slice ad xs.length c]] w (HalvAt w (halvesO B xs) (halvesL B xs)) := by
  have hr := h.1
  have hb6 : B ≤ 6 := by have := hr.1.2; omega
  have hl6 : xs.length ≤ 6 := hr.2.1.2
  have har := fun w h => specArea (B : Int) ad c xs w (by omega) h
  have hmk := fun w h => specMask B ad c xs w hr h
  have hce := fun w h => specCellsOf B ad c xs w hr h
  have hmo := fun sa cs s w h1 h2 h3 h4 => specMoc B ad c xs sa cs s w hr h1 h2 h3 h4
  have hnone := halves_none h
  have hsome := fun k m h1 h2 h3 h4 => halves_some h (k := k) (m := m) h1 h2 h3 h4
  have hM := regMask_lt hr
  have hn := area_places hr
  have ha : areaR (B : Int) xs = (areaTo xs xs.length : Nat) := if_pos hr
  rw [ha, hn] at har
  have h2 := h.2
  rw [hn] at h2
  have hLl : (cellsTo B xs xs.length).length = (smBits 36 (regMask B xs)).length := by rw [(cells_places hr).1, placesOf_length]
  obtain ⟨h2, h16, hev⟩ := h2
  obtain ⟨N, hN⟩ : ∃ N, (smBits 36 (regMask (B : Int) xs)).length = N := ⟨_, rfl⟩
  obtain ⟨L, hL⟩ : ∃ L, cellsTo B xs xs.length = L := ⟨_, rfl⟩
  rw [hN] at h2 h16 hev har hLl hnone hsome
  rw [hL] at hce hLl
  have hcode := half_code hr hN hL h2 h16
  rw [hN] at hcode
  clear ha hn hr h hN hL
  generalize regMask (B : Int) xs = M at hmk hnone hsome hM har hcode
  generalize halvesO (B : Int) xs = O at hnone hsome ⊢
  generalize halvesL (B : Int) xs = R at hnone hsome ⊢
  generalize hG : goodP B (smBits 36 M) = G at hnone hsome hcode
  generalize smBits 36 M = P at hnone hsome hcode hG
  clear hG
  subst hLl
  have hL2 : 2 ≤ L.length := h2
  have hL16 : L.length ≤ 16 := h16
  have hpw : ((2 : Int) ^ L.length) = ((2 ^ L.length : Nat) : Int) := by norm_cast
  have hps : 2 ^ L.length = 2 * 2 ^ (L.length - 1) := by
    rw [show L.length = L.length - 1 + 1 by omega, Nat.pow_succ, Nat.mul_comm, Nat.add_sub_cancel]
  have hpb : 2 ^ L.length ≤ 65536 := Nat.le_trans (Nat.pow_le_pow_right (by decide) hL16) (by decide)
  rw [hps] at hpw hpb hcode
  generalize 2 ^ (L.length - 1) = F at hnone hsome hpw hpb hcode
  have hpw1 : wrap64 ((2 : Int) ^ L.length) = ((2 * F : Nat) : Int) := by rw [hpw]; exact IntWalk.wrap64_in _ (by omega)
  have hpw2 : IntKind.i64.wrap ((2 : Int) ^ L.length) = ((2 * F : Nat) : Int) := by rw [IntWalk.i64_left]; exact hpw1
  have hLi : (L.length : Int) < 64 := by omega
  have h64M : M < 68719476736 := hM
  have hNm : ((L.length : Int) % 2) = 0 := by omega
  have hmod : (((L.length : Int) % 2 == 1)) = false := by rw [hNm]; rfl
  have hFb : F ≤ 32768 := by omega
  have HAR := Lib.hid har
  have HMK := Lib.hid hmk
  have HCE := Lib.hid hce
  have HMO := Lib.hid hmo
  have HNONE := Lib.hid hnone
  have HSOME := Lib.hid hsome
  have HCODE := Lib.hid hcode
  have HC := Lib.hid hc
  clear har hmk hce hmo hnone hsome hcode hc hpw hpb hps hM hev h2 h16
  obtain ⟨wA, hwA⟩ : ∃ wA, wA = w.alloc (.cells #[.int .i64 B, .slice ad xs.length c] 28) := ⟨_, rfl⟩
  have hbA : Below w.heap.size w wA := by rw [hwA]; exact (Below.refl _ _).alloc (Nat.le_refl _) _
  have hzA : wA.heap.size = w.heap.size + 1 := by rw [hwA]; simp
  have hblkA : wA.heap[w.heap.size]? = some (.cells #[.int .i64 B, .slice ad xs.length c] 28 (0, 0)) := by rw [hwA]; exact heap_alloc_new w _
  have HBA := Lib.hid hbA
  have HBLKA := Lib.hid hblkA
  have HWA := Lib.hid hwA
  have hszA := hbA.size
  unfold HalvAt
  have x00 : wA.cell? ⟨w.heap.size, 0, none⟩ = some (.int .i64 B) := by rw [cell_of_row wA _ 0 _ _ _ hblkA]; rfl
  have x01 : wA.cell? ⟨w.heap.size, 1, none⟩ = some (.slice ad xs.length c) := by rw [cell_of_row wA _ 1 _ _ _ hblkA]; rfl
  clear hbA hblkA hwA
  go_enter Try.func5, Try.ntmps5
  go_wp2_with fail
  rw [← HWA.out]
  go_wp2_with fail
  refine (HAR.out wA (HC.out.below HBA.out)).mono ?_
  rintro e w1 ⟨rfl, hb1⟩
  have HB1 := Lib.hid (HBA.out.trans (hb1.mono hszA))
  have HX1 := Lib.hid hb1
  have hsz1 := HB1.out.size
  have hs1 := hb1.size
  have hblk1 := (hb1.block w.heap.size (by omega)).trans HBLKA.out
  have x10 : w1.cell? ⟨w.heap.size, 0, none⟩ = some (.int .i64 B) := by rw [cell_of_row w1 _ 0 _ _ _ hblk1]; rfl
  have x11 : w1.cell? ⟨w.heap.size, 1, none⟩ = some (.slice ad xs.length c) := by rw [cell_of_row w1 _ 1 _ _ _ hblk1]; rfl
  clear hblk1 hb1 x00 x01
  go_wp2_with fail
  refine (HMK.out w1 (HC.out.below HB1.out)).mono ?_
  rintro e w2 ⟨rfl, hb2⟩
  have HB2 := Lib.hid (HB1.out.trans (hb2.mono hsz1))
  have HX2 := Lib.hid (HX1.out.trans (hb2.mono hs1))
  have hsz2 := HB2.out.size
  have hs2 := HX2.out.size
  have hblk2 := (HX2.out.block w.heap.size (by omega)).trans HBLKA.out
  have x20 : w2.cell? ⟨w.heap.size, 0, none⟩ = some (.int .i64 B) := by rw [cell_of_row w2 _ 0 _ _ _ hblk2]; rfl
  have x21 : w2.cell? ⟨w.heap.size, 1, none⟩ = some (.slice ad xs.length c) := by rw [cell_of_row w2 _ 1 _ _ _ hblk2]; rfl
  clear hb2 x10 x11 hblk2
  go_wp2_with fail
  refine (HCE.out w2 (HC.out.below HB2.out)).mono ?_
  rintro e w3 ⟨a3, c3, rfl, ho3, hb3⟩
  have HB3 := Lib.hid (HB2.out.trans (hb3.mono hsz2))
  have HX3 := Lib.hid (HX2.out.trans (hb3.mono hs2))
  have hsz3 := HB3.out.size
  have hs3 := HX3.out.size
  have HBLK3 := Lib.hid ((HX3.out.block w.heap.size (by omega)).trans HBLKA.out)
  have hw3 : w.heap.size < w3.heap.size := by omega
  have HL3 := Lib.hid (ownsRow_cellsAt ho3)
  clear hb3 ho3 x20 x21
  go_wp2
  go_loopw [7] (fun i wr => ∃ k C : Nat, k ≤ F ∧ C = 2 * k + 1 ∧ i = .int .i64 C ∧ (∀ j, j < k → G (2 * j + 1) = false) ∧ Below w3.heap.size w3 wr) (fun i _ => 2 * F + 2 - (intOf i).toNat)
  case atStart => exact ⟨0, 1, Nat.zero_le _, rfl, rfl, (fun j hj => by omega), Below.refl _ _⟩
  case round =>
    obtain ⟨k, C, hk, hC, rfl, hno, hb⟩ := hrel
    have HNO := Lib.hid hno
    have HB := Lib.hid hb
    have hszr := hb.size
    clear hno hb
    by_cases hlt : k < F
    · have i1 : (C : Int) < ((2 * F : Nat) : Int) := by omega
      obtain ⟨wo, rfl⟩ : ∃ wo : World, wo = wr := ⟨_, rfl⟩
      obtain ⟨S, U, m, hS0, hU0, hstep, hln, hgood, hshape, hmoc, hm, hmM, hbd⟩ := HCODE.out C (by omega)
      have HST := Lib.hid hstep
      have HLN := Lib.hid hln
      have HGOOD := Lib.hid hgood
      have HSHAPE := Lib.hid hshape
      have HMOC := Lib.hid hmoc
      have HEM := Lib.hid hm
      have HBD := Lib.hid hbd
      have HKC := Lib.hid hC
      have hm36 : m < 68719476736 := Nat.lt_of_le_of_lt hmM h64M
      have hC16 : C < 65536 := by omega
      have hsub : (M : Int) - (m : Int) = ((M - m : Nat) : Int) := by omega
      have HSUB := Lib.hid hsub
      have hC0 : 1 ≤ C := by omega
      clear hstep hln hgood hshape hmoc hm hbd hC hsub
      obtain ⟨wC, hwC⟩ : ∃ wC, wC = (wo.alloc (.cells #[] 39)).alloc (.cells #[] 39) := ⟨_, rfl⟩
      have hbC : Below w3.heap.size w3 wC := by rw [hwC]; exact (HB.out.alloc hszr _).alloc (by simp; omega) _
      have hoS : wC.ownsRow w3.heap.size 39 2 (.slice (some ⟨wo.heap.size, 0, none⟩) 0 0) 0 [] := by
        rw [hwC]
        exact (ownsRow_rebase (ownsRow_empty wo 39 2) hszr).alloc _
      have hoU : wC.ownsRow (wo.heap.size + 1) 39 2 (.slice (some ⟨wo.heap.size + 1, 0, none⟩) 0 0) 0 [] := by
        rw [hwC]
        have q := ownsRow_empty (wo.alloc (.cells #[] 39)) 39 2
        simpa using q
      have hap : Apart (.slice (some ⟨wo.heap.size, 0, none⟩) 0 0) (.slice (some ⟨wo.heap.size + 1, 0, none⟩) 0 0) := apart_alloc hoU rfl (Nat.lt_succ_self _)
      have HWC := Lib.hid hwC
      have HBC := Lib.hid hbC
      have HOS := Lib.hid hoS
      have HOU := Lib.hid (ownsRow_rebase hoU (show w3.heap.size ≤ wo.heap.size + 1 by omega))
      have HAP := Lib.hid hap
      clear hwC hbC hoS hoU hap
      go_wp2
      rw [← HWC.out]
      go_loopw [8, 9, 10] (fun sv uv i wr => ∃ j : Nat, j ≤ L.length ∧ i = .int .i64 j ∧ wr.ownsRow w3.heap.size 39 2 sv (S j).length (cls (S j)) ∧ wr.ownsRow w3.heap.size 39 2 uv (U j).length (cls (U j)) ∧ Apart sv uv ∧ Below w3.heap.size w3 wr) (fun _ _ i _ => L.length - (intOf i).toNat)
      case atStart => exact ⟨0, Nat.zero_le _, rfl, by rw [hS0]; exact HOS.out, by rw [hU0]; exact HOU.out, HAP.out, HBC.out⟩
      case round =>
        obtain ⟨j, hj, rfl, hoS, hoU, hap, hb⟩ := hrel
        obtain ⟨wi, rfl⟩ : ∃ wi : World, wi = wr := ⟨_, rfl⟩
        have HS := Lib.hid hoS
        have HU := Lib.hid hoU
        have HAPJ := Lib.hid hap
        have HBJ := Lib.hid hb
        have hszj := hb.size
        obtain ⟨hSl, hUl⟩ := HLN.out j hj
        clear hoS hoU hap hb
        by_cases hjl : j < L.length
        · have i2 : (j : Int) < (L.length : Int) := by omega
          have hj64 : (j : Int) < 64 := by omega
          have hsh := and_shr_one C j (by omega)
          obtain ⟨g, off, hga, hg, hcc⟩ := cl_open HL3.out (by omega)
          obtain ⟨b0, b1⟩ := hcc j hjl
          have u0 := (HBJ.out.cell (p := ⟨g, off + j * 2, none⟩) hg).trans b0
          have u1 := (HBJ.out.cell (p := ⟨g, off + j * 2 + 1, none⟩) hg).trans b1
          have hst := HST.out j hjl
          generalize L[j] = d at u0 u1 hst
          subst hga
          clear hcc b0 b1
          cases hbit : C.testBit j with
          | true =>
            rw [hbit, if_pos rfl] at hsh
            obtain ⟨s1, s2⟩ := hst.1 hbit
            have HS1 := Lib.hid s1
            have HS2 := Lib.hid s2
            clear s1 s2 hst hbit
            go_wp2_with (at_builtin; refine wpList_app1 rfl (.tmp 49) (.tmp 54) 36 rfl w3.heap.size 39 _ 2 16 Try.elemCl _ _ _ _ _ _ rfl rfl rfl HS.out (by rfl) (by simp [Value.oneCell']) (by unfold maxLen; omega) (by omega) (by omega) ?_; intro g' cap w6 q1 q2 q3 q4 q5 q6)
            go_wp2
            go_roundw
            case rel =>
              refine ⟨_, _, _, ⟨j + 1, hjl, rfl, ?_, by rw [HS2.out]; exact apart_kept HU.out q3 HAPJ.out, apart_grown HU.out HAPJ.out q6, HBJ.out.trans q2⟩, rfl, rfl, by go_num⟩
              rw [HS1.out, cls_append]
              simp only [List.length_append, List.length_singleton]
              exact q1
            case measure => simp [intOf]; omega
          | false =>
            rw [hbit, if_neg (by decide)] at hsh
            obtain ⟨s1, s2⟩ := hst.2 hbit
            have HS1 := Lib.hid s1
            have HS2 := Lib.hid s2
            clear s1 s2 hst hbit
            go_wp2_with (at_builtin; refine wpList_app1 rfl (.tmp 56) (.tmp 61) 36 rfl w3.heap.size 39 _ 2 16 Try.elemCl _ _ _ _ _ _ rfl rfl rfl HU.out (by rfl) (by simp [Value.oneCell']) (by unfold maxLen; omega) (by omega) (by omega) ?_; intro g' cap w6 q1 q2 q3 q4 q5 q6)
            go_wp2
            go_roundw
            case rel =>
              refine ⟨_, _, _, ⟨j + 1, hjl, rfl, by rw [HS1.out]; exact apart_kept HS.out q3 (apart_symm HAPJ.out), ?_, apart_symm (apart_grown HS.out (apart_symm HAPJ.out) q6), HBJ.out.trans q2⟩, rfl, rfl, by go_num⟩
              rw [HS2.out, cls_append]
              simp only [List.length_append, List.length_singleton]
              exact q1
            case measure => simp [intOf]; omega
        · obtain rfl : j = L.length := by omega
          obtain ⟨a8, c8, rfl, hcS⟩ := ownsRow_cells HS.out
          obtain ⟨a9, c9, rfl, hcU⟩ := ownsRow_cells HU.out
          have HCS := Lib.hid hcS
          have HCU := Lib.hid hcU
          clear hcS hcU HLN HST
          obtain ⟨s, hs⟩ : ∃ s, s = S L.length := ⟨_, rfl⟩
          obtain ⟨t, ht⟩ : ∃ t, t = U L.length := ⟨_, rfl⟩
          rw [← hs] at HGOOD HSHAPE HMOC HBD HCS hSl ⊢
          rw [← ht] at HGOOD HCU hUl ⊢
          clear HS HU HAPJ hs ht hS0 hU0
          by_cases hq : s.length = L.length / 2
          · have d0 : (((s.length : Nat) : Int) != (L.length : Int) / 2) = false := by rw [hq]; simp
            have HCN0 := Lib.hid (fun b w hb hc => specConn a8 c8 s b w (HSHAPE.out hq) hb hc)
            cases hh : hangsB s with
            | false =>
              have HNB := Lib.hid (show G (2 * k + 1) = false by rw [← HKC.out, HGOOD.out]; unfold goodC; rw [hh]; simp)
              have HIF := Lib.hid (show ¬ Hangs s by rw [← hangsB_iff, hh]; exact Bool.noConfusion)
              have HCN := Lib.hid (fun w hc => HCN0.out false w ⟨fun h => Bool.noConfusion h, fun h => absurd h HIF.out⟩ hc)
              clear hh hq HCN0
              go_wp2_with fail
              refine (HCN.out wi HCS.out).mono ?_
              rintro e w5 ⟨rfl, hb5⟩
              have HB5 := Lib.hid (HBJ.out.trans (hb5.mono hszj))
              have HCS5 := Lib.hid (HCS.out.below hb5)
              have HCU5 := Lib.hid (HCU.out.below hb5)
              have hsz5 := HB5.out.size
              clear hb5
              go_wp2
              go_roundw
              case rel =>
                refine ⟨k + 1, C + 2, hlt, by have := HKC.out; omega, by go_num, fun j hj => ?_, HB5.out⟩
                by_cases ej : j = k
                · rw [ej]; exact HNB.out
                · exact HNO.out j (by omega)
              case measure => simp [intOf]; omega
            | true =>
              have HIF := Lib.hid (show Hangs s from hangsB_iff.1 hh)
              have HCN := Lib.hid (fun w hc => HCN0.out true w ⟨fun _ => HIF.out, fun _ => rfl⟩ hc)
              have HCG := Lib.hid (fun a1 c1 a2 c2 w h1 h2 => specCong a1 a2 c1 c2 s t w (by omega) (by omega) h1 h2)
              cases hcg : decide (Cong s t) with
              | false =>
                have HNB := Lib.hid (show G (2 * k + 1) = false by rw [← HKC.out, HGOOD.out]; unfold goodC; rw [hcg]; simp)
                rw [hcg] at HCG
                clear hh hq hcg HCN0
                go_wp2_with fail
                refine (HCN.out wi HCS.out).mono ?_
                rintro e w5 ⟨rfl, hb5⟩
                have HB5 := Lib.hid (HBJ.out.trans (hb5.mono hszj))
                have HCS5 := Lib.hid (HCS.out.below hb5)
                have HCU5 := Lib.hid (HCU.out.below hb5)
                have hsz5 := HB5.out.size
                clear hb5
                go_wp2_with fail
                refine (HCG.out _ _ _ _ w5 HCS5.out HCU5.out).mono ?_
                rintro e w6 ⟨rfl, hb6⟩
                have HB6 := Lib.hid (HB5.out.trans (hb6.mono hsz5))
                have HCS6 := Lib.hid (HCS5.out.below hb6)
                have hsz6 := HB6.out.size
                clear hb6
                go_wp2
                go_roundw
                case rel =>
                  refine ⟨k + 1, C + 2, hlt, by have := HKC.out; omega, by go_num, fun j hj => ?_, HB6.out⟩
                  by_cases ej : j = k
                  · rw [ej]; exact HNB.out
                  · exact HNO.out j (by omega)
                case measure => simp [intOf]; omega
              | true =>
                have HYES := Lib.hid (show G (2 * k + 1) = true by rw [← HKC.out, HGOOD.out]; unfold goodC; rw [hcg, hh, decide_eq_true hq]; rfl)
                rw [hcg] at HCG
                have HMO2 := Lib.hid (fun sa cs w h3 h4 => HMO.out sa cs s w (by omega) HBD.out h3 h4)
                rw [HMOC.out] at HMO2
                clear hh hq hcg HCN0
                go_wp2_with fail
                refine (HCN.out wi HCS.out).mono ?_
                rintro e w5 ⟨rfl, hb5⟩
                have HB5 := Lib.hid (HBJ.out.trans (hb5.mono hszj))
                have HCS5 := Lib.hid (HCS.out.below hb5)
                have HCU5 := Lib.hid (HCU.out.below hb5)
                have hsz5 := HB5.out.size
                clear hb5
                go_wp2_with fail
                refine (HCG.out _ _ _ _ w5 HCS5.out HCU5.out).mono ?_
                rintro e w6 ⟨rfl, hb6⟩
                have HB6 := Lib.hid (HB5.out.trans (hb6.mono hsz5))
                have HCS6 := Lib.hid (HCS5.out.below hb6)
                have hsz6 := HB6.out.size
                clear hb6
                have hblk6 := (HB6.out.block w.heap.size hw3).trans HBLK3.out
                have x60 : w6.cell? ⟨w.heap.size, 0, none⟩ = some (.int .i64 B) := by rw [cell_of_row w6 _ 0 _ _ _ hblk6]; rfl
                have x61 : w6.cell? ⟨w.heap.size, 1, none⟩ = some (.slice ad xs.length c) := by rw [cell_of_row w6 _ 1 _ _ _ hblk6]; rfl
                have HBB := Lib.hid (HB3.out.trans (HB6.out.mono hsz3))
                clear hblk6
                go_wp2_with fail
                refine (HMO2.out _ _ w6 (HC.out.below HBB.out) HCS6.out).mono ?_
                rintro e w7 ⟨rfl, hb7⟩
                have hsz6' := HBB.out.size
                have HB7 := Lib.hid (HBB.out.trans (hb7.mono hsz6'))
                have hsz7 := HB7.out.size
                clear hb7 x60 x61
                obtain ⟨hO, hR⟩ := HSOME.out k m hlt HNO.out HYES.out (by rw [HEM.out, HKC.out])
                subst hO
                subst hR
                have hm1 : (ofMoc (some m)).1 = (m : Int) := rfl
                have hm2 : (ofMoc (some m)).2 = true := rfl
                rw [hm1, hm2]
                have hsub := HSUB.out
                have hwr : wrap64 ((M : Int) - (m : Int)) = ((M - m : Nat) : Int) := by rw [hsub]; exact IntWalk.wrap64_in _ (by omega)
                go_wp2
                go_ret2
                exact ⟨_, _, rfl, ownsRow_rebase (pair_made rfl) hsz7, HB7.out.alloc hsz7 _⟩
          · have d0 : (((s.length : Nat) : Int) != (L.length : Int) / 2) = true := by simp; omega
            have HNB := Lib.hid (show G (2 * k + 1) = false by rw [← HKC.out, HGOOD.out]; unfold goodC; rw [decide_eq_false hq]; rfl)
            clear hq
            go_wp2
            go_roundw
            case rel =>
              refine ⟨k + 1, C + 2, hlt, by have := HKC.out; omega, by go_num, fun j hj => ?_, HBJ.out⟩
              by_cases ej : j = k
              · rw [ej]; exact HNB.out
              · exact HNO.out j (by omega)
            case measure => simp [intOf]; omega
    · obtain rfl : k = F := by omega
      have i1 : ¬ (C : Int) < ((2 * k : Nat) : Int) := by omega
      obtain ⟨hO, hR⟩ := HNONE.out HNO.out
      subst hO
      subst hR
      have HBB := Lib.hid (HB3.out.trans (HB.out.mono hsz3))
      have hszB := HBB.out.size
      go_wp2
      go_ret2
      exact ⟨_, _, rfl, ownsRow_rebase (ownsRow_empty _ _ _) hszB, HBB.out.alloc hszB _⟩
end Go.Proofs.Ytcoggnoeafpgbaa
