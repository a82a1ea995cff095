/- AllSm: parts laid together: RectsT, SmallR. -/
import Derived.Test.YtajmdgcnnipdoaaGreatDoorAllTil
import Derived.Test.YtajmdgcnnipdoaaGreatDoorAllLeast
import Derived.Deep.DrawnRows
import Derived.BigQuiet

/- RectsT: the walks of RectanglesTiled, the reference's and the program's. -/
namespace Go.Proofs.YtajmdgcnnipdoaaGreatDoor
open Go.RowKit

attribute [local go_sem ↓] Go.wp_at_zero Go.wp_at_succ

def okR (l : List Cl) (a b : Nat) : Bool := trR l (a : Int) (b : Int)
/-- The rectangles that a shape tiles. -/
def rectL (l : List Cl) : List (Nat × Nat) := rtTo (okR l) id 5
theorem trR_shape {l : List Cl} (h : ¬ Shape l) (x y : Int) : trR l x y = false := by
  unfold trR
  rw [regF_shape h]
  simp [someT]
theorem trR_div {l : List Cl} {a b : Nat} (ha : 1 ≤ a ∧ a ≤ 6) (hb : 1 ≤ b ∧ b ≤ 6) (h : trR l (a : Int) (b : Int) = true) : a * b % l.length = 0 := by
  unfold trR at h
  rw [Bool.and_eq_true] at h
  exact tiled_div ha hb h.2
/-- The pairs of the first j widths and some of the next. -/
def gP (ok : Nat → Nat → Bool) (f : Nat → Nat) (j m : Nat) : List (Nat × Nat) := rtTo ok f j ++ rtRow ok (f (j + 1)) (j + 1) m
theorem gP_start {ok : Nat → Nat → Bool} {f : Nat → Nat} {j m : Nat} (h : m = 0 ∨ m < f (j + 1)) : gP ok f j m = rtTo ok f j := by
  unfold gP
  rcases h with h | h
  · subst h; rw [rtRow, List.append_nil]
  · rw [rtRow_start h, List.append_nil]
theorem gP_end (ok : Nat → Nat → Bool) (f : Nat → Nat) (j : Nat) : gP ok f j 5 = rtTo ok f (j + 1) := rfl
theorem gP_yes {ok : Nat → Nat → Bool} {f : Nat → Nat} {j m : Nat} (h0 : f (j + 1) ≤ m + 1) (h1 : ok (j + 1) (m + 1) = true) : gP ok f j (m + 1) = gP ok f j m ++ [(j + 1, m + 1)] := by
  unfold gP
  rw [rtRow_yes h0 h1, List.append_assoc]
theorem gP_no {ok : Nat → Nat → Bool} {f : Nat → Nat} {j m : Nat} (h1 : ok (j + 1) (m + 1) = false) : gP ok f j (m + 1) = gP ok f j m := by
  unfold gP
  rw [rtRow_no h1]
theorem gP_length (ok : Nat → Nat → Bool) (f : Nat → Nat) {j m : Nat} (hj : j ≤ 5) (hm : m ≤ 5) : (gP ok f j m).length ≤ 30 := by
  unfold gP
  have h1 := rtTo_length ok f j
  have h2 := rtRow_length ok (f (j + 1)) (j + 1) m
  rw [List.length_append]
  omega
/-- Pairs in memory, in rows of the call's own. -/
def PrAt (w : World) (base : Nat) (ps : List (Nat × Nat)) (v : Value) : Prop := ∃ ad c, v = .slice ad ps.length c ∧ OwnMat w base (.slice ad ps.length c) (rowsP ps)
theorem PrAt.below {w w' : World} {base : Nat} {ps : List (Nat × Nat)} {v : Value} (h : PrAt w base ps v) (hb : Below w.heap.size w w') : PrAt w' base ps v := by
  obtain ⟨ad, c, h1, h2⟩ := h
  exact ⟨ad, c, h1, h2.below hb⟩
theorem PrAt.nil (w : World) (base : Nat) : PrAt w base [] (.slice none 0 0) := ⟨none, 0, rfl, [], World.ownsRow_nil _ _ _ _, RowsIn.nil _ _⟩

set_option maxRecDepth 100000 in
set_option maxHeartbeats 3200000 in
theorem specRT (ad : Option Addr) (c : Nat) (l : List Cl) (w : World) (hn : l.length ≤ 1048576) (hc : CellsAt w ad (cls l)) :
    Calls Tryz.prog 26 #[.slice ad l.length c] w fun e w' => ∃ ad' c', e = .returned (.slice ad' (rectL l).length c') ∧ OwnMat w' w.heap.size (.slice ad' (rectL l).length c') (rowsP (rectL l)) ∧ Below w.heap.size w w' := by
  have HSH := Lib.hid (fun w' h2 => specShape ad c l w' hn h2)
  have HTR := Lib.hid (fun (a b : Nat) w' h2 => specTR ad c l (a : Int) (b : Int) w' hn h2)
  have HC := Lib.hid hc
  obtain ⟨wA, hwA⟩ : ∃ wA, wA = w.alloc (.cells #[] 24) := ⟨_, rfl⟩
  have hbA : Below w.heap.size w wA := by rw [hwA]; exact (Below.refl _ _).alloc (Nat.le_refl _) _
  have hoA : wA.ownsRow w.heap.size 24 1 (.slice (some ⟨w.heap.size, 0, none⟩) 0 0) 0 [] := by rw [hwA]; exact ownsRow_empty _ _ _
  have HBA := Lib.hid hbA
  have HWA := Lib.hid hwA
  have HOA := Lib.hid hoA
  have hszA := hbA.size
  clear hbA hwA hoA hc
  by_cases hs : Shape l
  · rw [decide_eq_true hs] at HSH
    have hok : ∀ a b : Nat, okR l a b = trR l (a : Int) (b : Int) := fun a b => rfl
    have HOK := Lib.hid hok
    clear hok
    have hrd : rectL l = rtTo (okR l) id 5 := rfl
    rw [hrd]
    clear hs hrd
    generalize okR l = ok at HOK ⊢
    go_enter Tryz.func26, Tryz.ntmps26
    go_wp2_with fail
    rw [← HWA.out]
    go_loopw [3, 4] (fun v i wr => ∃ j k : Nat, j ≤ 5 ∧ k = j + 1 ∧ i = .int .i64 k ∧ PrAt wr w.heap.size (rtTo ok id j) v ∧ Below w.heap.size w wr) (fun _ i _ => 6 - (intOf i).toNat)
    case atStart => exact ⟨0, 1, by omega, rfl, rfl, ⟨_, _, rfl, [], HOA.out, RowsIn.nil _ _⟩, HBA.out⟩
    case round =>
      obtain ⟨j, k, hj, hkj, rfl, hpr, hb⟩ := hrel
      obtain ⟨wo, rfl⟩ : ∃ wo : World, wo = wr := ⟨_, rfl⟩
      have HKJ := Lib.hid hkj
      have HPO := Lib.hid hpr
      have HB := Lib.hid hb
      have hszo := hb.size
      have hk6 : k ≤ 6 := by omega
      have hk1 : 1 ≤ k := by omega
      have HJ := Lib.hid hj
      clear hkj hpr hb hj
      by_cases hlt : k ≤ 5
      · have i1 : (k : Int) ≤ 5 := by omega
        have HY := Lib.hid (fun (m h : Nat) (hh : h = m + 1) (hjm : j ≤ m) (h1 : trR l (k : Int) (h : Int) = true) => (by
          have := gP_yes (ok := ok) (f := id) (j := j) (m := m) (by show j + 1 ≤ m + 1; omega) (by rw [← HKJ.out, ← hh, HOK.out]; exact h1)
          rw [← HKJ.out, ← hh] at this
          exact this : gP ok id j h = gP ok id j m ++ [(k, h)]))
        have HNO := Lib.hid (fun (m h : Nat) (hh : h = m + 1) (h1 : trR l (k : Int) (h : Int) = false) => (by
          have := gP_no (ok := ok) (f := id) (j := j) (m := m) (by rw [← HKJ.out, ← hh, HOK.out]; exact h1)
          rw [← hh] at this
          exact this : gP ok id j h = gP ok id j m))
        have HGL := Lib.hid (fun m (hm : m ≤ 5) => gP_length ok id (j := j) (m := m) HJ.out hm)
        have HG0 := Lib.hid (gP_start (ok := ok) (f := id) (j := j) (m := j) (.inr (Nat.lt_succ_self j)))
        have HG5 := Lib.hid (gP_end ok id j)
        generalize gP ok id j = G at HY HNO HGL HG0 HG5
        go_wp2_with fail
        refine (HSH.out wo (HC.out.below HB.out)).mono ?_
        rintro e w1 ⟨rfl, hb1⟩
        have HB1 := Lib.hid (HB.out.trans (hb1.mono hszo))
        have HP1 := Lib.hid (HPO.out.below hb1)
        clear hb1
        go_wp2
        go_loopw [3, 5] (fun v i wi => ∃ m h : Nat, j ≤ m ∧ m ≤ 5 ∧ h = m + 1 ∧ i = .int .i64 h ∧ PrAt wi w.heap.size (G m) v ∧ Below w.heap.size w wi) (fun _ i _ => 6 - (intOf i).toNat)
        case atStart => exact ⟨j, k, Nat.le_refl _, HJ.out, HKJ.out, rfl, by rw [HG0.out]; exact HP1.out, HB1.out⟩
        case round =>
          obtain ⟨m, h, hjm, hm, hhm, rfl, hpr, hb⟩ := hrel
          have HHM := Lib.hid hhm
          have HPI := Lib.hid hpr
          have HBI := Lib.hid hb
          have hszi := hb.size
          have hgl := HGL.out m hm
          have HJM := Lib.hid hjm
          have hh6 : h ≤ 6 := by omega
          have hh1 : 1 ≤ h := by omega
          have HM := Lib.hid hm
          clear hhm hpr hb
          by_cases hlh : h ≤ 5
          · have i2 : (h : Int) ≤ 5 := by omega
            have HCALL := Lib.hid (HTR.out k h wr (HC.out.below HBI.out))
            have HYK := Lib.hid (HY.out m h HHM.out HJM.out)
            have HNK := Lib.hid (HNO.out m h HHM.out)
            have hm5 : m + 1 ≤ 5 := by have := HHM.out; omega
            obtain ⟨n, hnG⟩ : ∃ n, n = (G m).length := ⟨_, rfl⟩
            have hn30 : n ≤ 30 := by rw [hnG]; exact hgl
            have HN := Lib.hid hnG.symm
            clear hgl hnG
            obtain ⟨av, cv, rfl, hmat⟩ := HPI.out
            have HMT := Lib.hid hmat
            clear hmat
            rw [HN.out] at HMT ⊢
            cases htr : trR l (k : Int) (h : Int) with
            | true =>
              rw [htr] at HCALL
              have HST0 := Lib.hid (HYK.out htr)
              have HST := Lib.hid (show G (m + 1) = G m ++ [(k, h)] by rw [← HHM.out]; exact HST0.out)
              clear HYK HNK htr HST0
              go_wp2_with fail
              refine HCALL.out.mono ?_
              rintro e w2 ⟨rfl, hb2⟩
              have HBW := Lib.hid (HBI.out.trans (hb2.mono hszi))
              have hszW := HBW.out.size
              have HMTW := Lib.hid (HMT.out.below hb2)
              clear hb2
              obtain ⟨vals, hown, hrows⟩ := HMTW.out
              have HRWS := Lib.hid hrows
              rw [rowsP_length, HN.out] at hown
              have HOWN3 := Lib.hid (show (w2.alloc (.cells #[.int .i64 (k : Int), .int .i64 (h : Int)] 3)).ownsRow w.heap.size 24 1 (.slice av n cv) n vals from hown.alloc _)
              have hsW : (w2.alloc (.cells #[.int .i64 (k : Int), .int .i64 (h : Int)] 3)).heap.size = w2.heap.size + 1 := by simp
              clear hown hrows
              go_wp2_with (at_builtin; refine wpList_app1 rfl (.tmp 24) (.tmp 28) 44 rfl w.heap.size 24 (.slice none 0 0) 1 24 Tryz.elemInts (.slice av n cv) n vals #[.slice (some ⟨w2.heap.size, 0, none⟩) 2 2] (w2.heap.size + 1) (0, 0) rfl rfl hsW HOWN3.out (by rfl) (by simp [Value.oneCell']) (by unfold maxLen; omega) (by omega) (by omega) ?_; intro g4 c4 w4 r1 r2 r3 r4 r5 r6)
              have hb4 : Below w.heap.size w w4 := (HBW.out.alloc hszW (.cells #[.int .i64 (k : Int), .int .i64 (h : Int)] 3)).trans r2
              have HP := Lib.hid (pair_push (a := k) (b := h) HN.out.symm HRWS.out hszW HOWN3.out r1 r3)
              have HB4 := Lib.hid hb4
              clear r1 r2 r3 r4 r5 r6 hb4 hsW
              go_wp2
              go_roundw
              case rel =>
                refine ⟨m + 1, h + 1, by omega, by omega, by rw [HHM.out], by go_num, ⟨some ⟨g4, 0, none⟩, c4, ?_, ?_⟩, HB4.out⟩
                · rw [HST.out, List.length_append, HN.out]; rfl
                · rw [HST.out, List.length_append, HN.out]; exact HP.out
              case measure => simp [intOf]; omega
            | false =>
              rw [htr] at HCALL
              have HST0 := Lib.hid (HNK.out htr)
              have HST := Lib.hid (show G (m + 1) = G m by rw [← HHM.out]; exact HST0.out)
              clear HYK HNK htr HST0
              go_wp2_with fail
              refine HCALL.out.mono ?_
              rintro e w2 ⟨rfl, hb2⟩
              have HB2 := Lib.hid (HBI.out.trans (hb2.mono hszi))
              have HPR := Lib.hid (show PrAt w2 w.heap.size (G m) (.slice av n cv) from ⟨av, cv, by rw [HN.out], by rw [HN.out]; exact HMT.out.below hb2⟩)
              clear hb2
              go_wp2
              go_roundw
              case rel => exact ⟨m + 1, h + 1, by omega, by omega, by rw [HHM.out], by go_num, by rw [HST.out]; exact HPR.out, HB2.out⟩
              case measure => simp [intOf]; omega
          · obtain rfl : m = 5 := by have := HHM.out; omega
            have hp5 := HPI.out
            rw [HG5.out, ← HKJ.out] at hp5
            have HP5 := Lib.hid hp5
            clear hp5
            go_wp2
            go_roundw
            case rel => exact ⟨k, k + 1, hlt, rfl, by go_num, HP5.out, HBI.out⟩
            case measure => simp [intOf]; omega
      · obtain rfl : j = 5 := by have := HKJ.out; have := HJ.out; omega
        obtain ⟨av, cv, rfl, hmat⟩ := HPO.out
        have HMT := Lib.hid hmat
        clear hmat
        go_wp2
        go_ret
        exact ⟨av, cv, rfl, HMT.out, HB.out⟩
  · rw [decide_eq_false hs] at HSH
    have hrd : rectL l = [] := rtTo_none (fun a b => trR_shape hs _ _) 5
    rw [hrd]
    clear hs hrd
    go_enter Tryz.func26, Tryz.ntmps26
    go_wp2_with fail
    rw [← HWA.out]
    go_loopw [3, 4] (fun v i wr => v = .slice (some ⟨w.heap.size, 0, none⟩) 0 0 ∧ i = .int .i64 1 ∧ wA = wr) (fun _ _ _ => 0)
    case atStart => exact ⟨rfl, rfl, rfl⟩
    case round =>
      obtain ⟨rfl, rfl, rfl⟩ := hrel
      go_wp2_with fail
      refine (HSH.out wA (HC.out.below HBA.out)).mono ?_
      rintro e w1 ⟨rfl, hb1⟩
      have HB1 := Lib.hid (HBA.out.trans (hb1.mono hszA))
      have HO1 := Lib.hid (ownsRow_far_below HOA.out hb1 (Nat.le_refl _))
      clear hb1
      go_wp2
      go_ret
      exact ⟨_, _, rfl, ⟨[], HO1.out, RowsIn.nil _ _⟩, HB1.out⟩

set_option maxRecDepth 100000 in
set_option maxHeartbeats 3200000 in
theorem implRT (ad : Option Addr) (c : Nat) (l : List Cl) (w : World) (hn : l.length ≤ 1048576) (hT : Tab w) (hc : CellsAt w ad (cls l)) :
    Calls Tryz.prog 24 #[.slice ad l.length c] w fun e w' => ∃ ad' c', e = .returned (.slice ad' (rectL l).length c') ∧ OwnMat w' w.heap.size (.slice ad' (rectL l).length c') (rowsP (rectL l)) ∧ Below w.heap.size w w' := by
  have HSH := Lib.hid (fun w' h2 => implShape ad c l w' hn h2)
  have HTR := Lib.hid (fun (a b : Nat) w' h1 h2 => implTR ad c l (a : Int) (b : Int) w' hn h1 h2)
  have HC := Lib.hid hc
  have HT := Lib.hid hT
  have hok : ∀ a b : Nat, okR l a b = trR l (a : Int) (b : Int) := fun a b => rfl
  have HOK := Lib.hid hok
  clear hok
  have hrd : rectL l = rtTo (okR l) id 5 := rfl
  rw [hrd]
  clear hrd hc hT
  generalize okR l = ok at HOK ⊢
  go_enter Tryz.func24, Tryz.ntmps24
  go_wp2
  go_loopw [3, 4] (fun v i wr => ∃ j k : Nat, j ≤ 5 ∧ k = j + 1 ∧ i = .int .i64 k ∧ PrAt wr w.heap.size (rtTo ok id j) v ∧ Below w.heap.size w wr) (fun _ i _ => 6 - (intOf i).toNat)
  case atStart => exact ⟨0, 1, by omega, rfl, rfl, PrAt.nil _ _, Below.refl _ _⟩
  case round =>
    obtain ⟨j, k, hj, hkj, rfl, hpr, hb⟩ := hrel
    obtain ⟨wo, rfl⟩ : ∃ wo : World, wo = wr := ⟨_, rfl⟩
    have HKJ := Lib.hid hkj
    have HPO := Lib.hid hpr
    have HB := Lib.hid hb
    have hszo := hb.size
    have hk6 : k ≤ 6 := by omega
    have hk1 : 1 ≤ k := by omega
    have HJ := Lib.hid hj
    clear hkj hpr hb hj
    by_cases hlt : k ≤ 5
    · have i1 : (k : Int) ≤ 5 := by omega
      have HY := Lib.hid (fun (m h : Nat) (hh : h = m + 1) (hjm : j ≤ m) (h1 : trR l (k : Int) (h : Int) = true) => (by
        have := gP_yes (ok := ok) (f := id) (j := j) (m := m) (by show j + 1 ≤ m + 1; omega) (by rw [← HKJ.out, ← hh, HOK.out]; exact h1)
        rw [← HKJ.out, ← hh] at this
        exact this : gP ok id j h = gP ok id j m ++ [(k, h)]))
      have HNO := Lib.hid (fun (m h : Nat) (hh : h = m + 1) (h1 : trR l (k : Int) (h : Int) = false) => (by
        have := gP_no (ok := ok) (f := id) (j := j) (m := m) (by rw [← HKJ.out, ← hh, HOK.out]; exact h1)
        rw [← hh] at this
        exact this : gP ok id j h = gP ok id j m))
      have HGL := Lib.hid (fun m (hm : m ≤ 5) => gP_length ok id (j := j) (m := m) HJ.out hm)
      have HG0 := Lib.hid (gP_start (ok := ok) (f := id) (j := j) (m := j) (.inr (Nat.lt_succ_self j)))
      have HG5 := Lib.hid (gP_end ok id j)
      generalize gP ok id j = G at HY HNO HGL HG0 HG5
      go_wp2
      go_loopw [3, 5] (fun v i wi => ∃ m h : Nat, j ≤ m ∧ m ≤ 5 ∧ h = m + 1 ∧ i = .int .i64 h ∧ PrAt wi w.heap.size (G m) v ∧ Below w.heap.size w wi) (fun _ i _ => 6 - (intOf i).toNat)
      case atStart => exact ⟨j, k, Nat.le_refl _, HJ.out, HKJ.out, rfl, by rw [HG0.out]; exact HPO.out, HB.out⟩
      case round =>
        obtain ⟨m, h, hjm, hm, hhm, rfl, hpr, hb⟩ := hrel
        have HHM := Lib.hid hhm
        have HPI := Lib.hid hpr
        have HBI := Lib.hid hb
        have hszi := hb.size
        have hgl := HGL.out m hm
        have HJM := Lib.hid hjm
        have hh6 : h ≤ 6 := by omega
        have hh1 : 1 ≤ h := by omega
        have HM := Lib.hid hm
        clear hhm hpr hb
        by_cases hlh : h ≤ 5
        · have i2 : (h : Int) ≤ 5 := by omega
          have HCALL := Lib.hid (fun w2 (hb2 : Below w.heap.size w w2) => HTR.out k h w2 (HT.out.below hb2) (HC.out.below hb2))
          have HYK := Lib.hid (HY.out m h HHM.out HJM.out)
          have HNK := Lib.hid (HNO.out m h HHM.out)
          have hm5 : m + 1 ≤ 5 := by have := HHM.out; omega
          obtain ⟨n, hnG⟩ : ∃ n, n = (G m).length := ⟨_, rfl⟩
          have hn30 : n ≤ 30 := by rw [hnG]; exact hgl
          have HN := Lib.hid hnG.symm
          clear hgl hnG
          obtain ⟨av, cv, rfl, hmat⟩ := HPI.out
          have HMT := Lib.hid hmat
          clear hmat
          rw [HN.out] at HMT ⊢
          have HSHC := Lib.hid (HSH.out wr (HC.out.below HBI.out))
          by_cases hs : Shape l
          · have hl1 := hs.2.1
            rw [decide_eq_true hs] at HSHC
            have HDV := Lib.hid (fun h1 => trR_div (l := l) (a := k) (b := h) ⟨hk1, hk6⟩ ⟨hh1, hh6⟩ h1)
            have hN : (k : Int) * (h : Int) = ((k * h : Nat) : Int) := by norm_cast
            have hNb : k * h ≤ 36 := Nat.mul_le_mul hk6 hh6
            generalize k * h = N at hN hNb HDV
            have sN : IntKind.i64.wrap (N : Int) = (N : Int) := IntWalk.i64_in _ (by omega)
            have hl0 : ¬ ((l.length : Int) = 0) := by omega
            have hrm : (N : Int).tmod (l.length : Int) = ((N % l.length : Nat) : Int) := by rw [Int.tmod_eq_emod_of_nonneg (by omega)]; norm_cast
            have hrm2 : (N : Int) % (l.length : Int) = ((N % l.length : Nat) : Int) := by norm_cast
            have hqb : N % l.length ≤ 36 := Nat.le_trans (Nat.mod_le _ _) hNb
            generalize N % l.length = q at hrm hrm2 hqb HDV
            have sq : IntKind.i64.wrap (q : Int) = (q : Int) := IntWalk.i64_in _ (by omega)
            clear hs
            by_cases hq : q = 0
            · subst hq
              have hq0 : (((0 : Nat) : Int) == 0) = true := rfl
              clear HDV
              go_wp2_with fail
              refine HSHC.out.mono ?_
              rintro e w1 ⟨rfl, hb1⟩
              have HB1 := Lib.hid (HBI.out.trans (hb1.mono hszi))
              have hsz1 := HB1.out.size
              have HMT1 := Lib.hid (HMT.out.below hb1)
              clear hb1
              have HCL := Lib.hid (HCALL.out w1 HB1.out)
              cases htr : trR l (k : Int) (h : Int) with
              | true =>
                rw [htr] at HCL
                have HST0 := Lib.hid (HYK.out htr)
                have HST := Lib.hid (show G (m + 1) = G m ++ [(k, h)] by rw [← HHM.out]; exact HST0.out)
                clear HYK HNK htr HST0
                go_wp2_with fail
                refine HCL.out.mono ?_
                rintro e w2 ⟨rfl, hb2⟩
                have HBW := Lib.hid (HB1.out.trans (hb2.mono hsz1))
                have hszW := HBW.out.size
                have HMTW := Lib.hid (HMT1.out.below hb2)
                clear hb2
                obtain ⟨vals, hown, hrows⟩ := HMTW.out
                have HRWS := Lib.hid hrows
                rw [rowsP_length, HN.out] at hown
                have HOWN3 := Lib.hid (show (w2.alloc (.cells #[.int .i64 (k : Int), .int .i64 (h : Int)] 3)).ownsRow w.heap.size 24 1 (.slice av n cv) n vals from hown.alloc _)
                have hsW : (w2.alloc (.cells #[.int .i64 (k : Int), .int .i64 (h : Int)] 3)).heap.size = w2.heap.size + 1 := by simp
                clear hown hrows
                go_wp2_with (at_builtin; refine wpList_app1 rfl (.tmp 32) (.tmp 36) 44 rfl w.heap.size 24 (.slice none 0 0) 1 24 Tryz.elemInts (.slice av n cv) n vals #[.slice (some ⟨w2.heap.size, 0, none⟩) 2 2] (w2.heap.size + 1) (0, 0) rfl rfl hsW HOWN3.out (by rfl) (by simp [Value.oneCell']) (by unfold maxLen; omega) (by omega) (by omega) ?_; intro g4 c4 w4 r1 r2 r3 r4 r5 r6)
                have hb4 : Below w.heap.size w w4 := (HBW.out.alloc hszW (.cells #[.int .i64 (k : Int), .int .i64 (h : Int)] 3)).trans r2
                have HP := Lib.hid (pair_push (a := k) (b := h) HN.out.symm HRWS.out hszW HOWN3.out r1 r3)
                have HB4 := Lib.hid hb4
                clear r1 r2 r3 r4 r5 r6 hb4 hsW
                go_wp2
                go_roundw
                case rel =>
                  refine ⟨m + 1, h + 1, by omega, by omega, by rw [HHM.out], by go_num, ⟨some ⟨g4, 0, none⟩, c4, ?_, ?_⟩, HB4.out⟩
                  · rw [HST.out, List.length_append, HN.out]; rfl
                  · rw [HST.out, List.length_append, HN.out]; exact HP.out
                case measure => simp [intOf]; omega
              | false =>
                rw [htr] at HCL
                have HST0 := Lib.hid (HNK.out htr)
                have HST := Lib.hid (show G (m + 1) = G m by rw [← HHM.out]; exact HST0.out)
                clear HYK HNK htr HST0
                go_wp2_with fail
                refine HCL.out.mono ?_
                rintro e w2 ⟨rfl, hb2⟩
                have HB2 := Lib.hid (HB1.out.trans (hb2.mono hsz1))
                have HPR := Lib.hid (show PrAt w2 w.heap.size (G m) (.slice av n cv) from ⟨av, cv, by rw [HN.out], by rw [HN.out]; exact HMT1.out.below hb2⟩)
                clear hb2
                go_wp2
                go_roundw
                case rel => exact ⟨m + 1, h + 1, by omega, by omega, by rw [HHM.out], by go_num, by rw [HST.out]; exact HPR.out, HB2.out⟩
                case measure => simp [intOf]; omega
            · have hq0 : ((q : Int) == 0) = false := by simp; omega
              have hq1 : (q == 0) = false := by simp; omega
              have htr : trR l (k : Int) (h : Int) = false := by
                cases hsm : trR l (k : Int) (h : Int) with
                | false => rfl
                | true => exact absurd (HDV.out hsm) hq
              have HST0 := Lib.hid (HNK.out htr)
              have HST := Lib.hid (show G (m + 1) = G m by rw [← HHM.out]; exact HST0.out)
              clear HYK HNK htr HST0 HDV hq
              go_wp2_with fail
              refine HSHC.out.mono ?_
              rintro e w1 ⟨rfl, hb1⟩
              have HB2 := Lib.hid (HBI.out.trans (hb1.mono hszi))
              have HPR := Lib.hid (show PrAt w1 w.heap.size (G m) (.slice av n cv) from ⟨av, cv, by rw [HN.out], by rw [HN.out]; exact HMT.out.below hb1⟩)
              clear hb1
              go_wp2
              go_roundw
              case rel => exact ⟨m + 1, h + 1, by omega, by omega, by rw [HHM.out], by go_num, by rw [HST.out]; exact HPR.out, HB2.out⟩
              case measure => simp [intOf]; omega
          · rw [decide_eq_false hs] at HSHC
            have htr := trR_shape hs (k : Int) (h : Int)
            have HST0 := Lib.hid (HNK.out htr)
            have HST := Lib.hid (show G (m + 1) = G m by rw [← HHM.out]; exact HST0.out)
            clear HYK HNK htr HST0 hs
            go_wp2_with fail
            refine HSHC.out.mono ?_
            rintro e w1 ⟨rfl, hb1⟩
            have HB2 := Lib.hid (HBI.out.trans (hb1.mono hszi))
            have HPR := Lib.hid (show PrAt w1 w.heap.size (G m) (.slice av n cv) from ⟨av, cv, by rw [HN.out], by rw [HN.out]; exact HMT.out.below hb1⟩)
            clear hb1
            go_wp2
            go_roundw
            case rel => exact ⟨m + 1, h + 1, by omega, by omega, by rw [HHM.out], by go_num, by rw [HST.out]; exact HPR.out, HB2.out⟩
            case measure => simp [intOf]; omega
        · obtain rfl : m = 5 := by have := HHM.out; omega
          have hp5 := HPI.out
          rw [HG5.out, ← HKJ.out] at hp5
          have HP5 := Lib.hid hp5
          clear hp5
          go_wp2
          go_roundw
          case rel => exact ⟨k, k + 1, hlt, rfl, by go_num, HP5.out, HBI.out⟩
          case measure => simp [intOf]; omega
    · obtain rfl : j = 5 := by have := HKJ.out; have := HJ.out; omega
      obtain ⟨av, cv, rfl, hmat⟩ := HPO.out
      have HMT := Lib.hid hmat
      clear hmat
      go_wp2
      go_ret
      exact ⟨av, cv, rfl, HMT.out, HB.out⟩
end Go.Proofs.YtajmdgcnnipdoaaGreatDoor

/- SmallR: the walks of SmallestRectangle and RectangleOrder, the reference's and the program's. -/
namespace Go.Proofs.YtajmdgcnnipdoaaGreatDoor
open Go.RowKit

attribute [local go_sem ↓] Go.wp_at_zero Go.wp_at_succ

theorem rectL_length (l : List Cl) : (rectL l).length ≤ 25 := rtTo_length _ _ 5
theorem rectL_bd (l : List Cl) : ∀ p ∈ rectL l, p.1 ≤ 5 ∧ p.2 ≤ 5 := fun p hp => by
  have h := rtTo_mem.1 hp
  exact ⟨h.2.1, h.2.2.2.2.1⟩
theorem rectL_shape {l : List Cl} (h : 0 < (rectL l).length) : Shape l := by
  by_cases hs : Shape l
  · exact hs
  · have : rectL l = [] := rtTo_none (fun a b => trR_shape hs _ _) 5
    rw [this] at h
    cases h
/-- In a list that ascends in the first numbers a pair is better than an earlier one where its product is less. -/
theorem better_later {l : List (Nat × Nat)} (hs : l.Pairwise (fun p q => p.1 ≤ q.1)) {b k : Nat} (hbk : b < k) (hk : k < l.length) : betterP l[k] (l[b]'(by omega)) = decide (l[k].1 * l[k].2 < (l[b]'(by omega)).1 * (l[b]'(by omega)).2) := by
  have h1 := List.pairwise_iff_getElem.1 hs b k (by omega) hk hbk
  unfold betterP
  rw [decide_eq_false (show ¬ l[k].1 < (l[b]'(by omega)).1 by omega), Bool.and_false, Bool.or_false]
def smR (l : List Cl) : Nat × Nat := leastL (rectL l)

set_option maxRecDepth 100000 in
set_option maxHeartbeats 3200000 in
theorem implSm (ad : Option Addr) (c : Nat) (l : List Cl) (w : World) (hn : l.length ≤ 1048576) (hT : Tab w) (hc : CellsAt w ad (cls l)) :
    Calls Tryz.prog 22 #[.slice ad l.length c] w fun e w' => e = .returned (.tuple #[.int .i64 (smR l).1, .int .i64 (smR l).2, .bool (decide (0 < (rectL l).length))]) ∧ Below w.heap.size w w' := by
  have HR := Lib.hid (implRT ad c l w hn hT hc)
  have hl := rectL_length l
  have HBD := Lib.hid (rectL_bd l)
  have hd : smR l = leastL (rectL l) := rfl
  rw [hd]
  clear hc hT hd
  generalize rectL l = ps at HR hl HBD ⊢
  have HL := Lib.hid (fun a2 c2 w' h => implLst a2 c2 ps w' (by omega) HBD.out h)
  go_enter Tryz.func22, Tryz.ntmps22
  go_wp2_with fail
  refine HR.out.mono ?_
  rintro e w1 ⟨a1, c1, rfl, hm1, hb1⟩
  have HB1 := Lib.hid hb1
  have hsz1 := hb1.size
  have HLC := Lib.hid (HL.out a1 c1 w1 (hm1.matAt (rowsP_length ps).symm))
  clear hm1 hb1
  go_wp2_with fail
  refine HLC.out.mono ?_
  rintro e w2 ⟨rfl, hb2⟩
  have HB2 := Lib.hid (HB1.out.trans (hb2.mono hsz1))
  clear hb2
  go_wp2
  go_ret3
  exact ⟨rfl, HB2.out⟩

set_option maxRecDepth 100000 in
set_option maxHeartbeats 3200000 in
theorem specSm (ad : Option Addr) (c : Nat) (l : List Cl) (w : World) (hn : l.length ≤ 1048576) (hc : CellsAt w ad (cls l)) :
    Calls Tryz.prog 23 #[.slice ad l.length c] w fun e w' => e = .returned (.tuple #[.int .i64 (smR l).1, .int .i64 (smR l).2, .bool (decide (0 < (rectL l).length))]) ∧ Below w.heap.size w w' := by
  have HR := Lib.hid (specRT ad c l w hn hc)
  have hl := rectL_length l
  have HBD := Lib.hid (rectL_bd l)
  have HSO := Lib.hid (rtTo_sorted (okR l) id 5)
  have hrd : rtTo (okR l) id 5 = rectL l := rfl
  rw [hrd] at HSO
  have hd : smR l = leastTo (rectL l) (rectL l).length := rfl
  rw [hd]
  clear hc hd hrd
  generalize rectL l = ps at HR hl HBD HSO ⊢
  have HBT := Lib.hid (fun (b k : Nat) (hbk : b < k) (hk : k < ps.length) => better_later HSO.out hbk hk)
  have HY := Lib.hid (fun k (hk : k < ps.length) h => leastTo_yes hk h)
  have HN := Lib.hid (fun k (hk : k < ps.length) h0 h => leastTo_no hk h0 h)
  have HF := Lib.hid (fun (h : 0 < ps.length) => leastTo_first ps h)
  go_enter Tryz.func23, Tryz.ntmps23
  go_wp2_with fail
  refine HR.out.mono ?_
  rintro e w1 ⟨a1, c1, rfl, hm1, hb1⟩
  have HB1 := Lib.hid hb1
  have hsz1 := hb1.size
  have HM := Lib.hid (hm1.matAt (rowsP_length ps).symm)
  clear hm1 hb1
  -- a row's cells
  have hcells : ∀ (i : Nat) (hi : i < ps.length) (wr : World), Below w1.heap.size w1 wr → ∃ g off g2 off2 ci, a1 = some ⟨g, off, none⟩ ∧ wr.cell? ⟨g, off + i, none⟩ = some (.slice (some ⟨g2, off2, none⟩) 2 ci) ∧ wr.cell? ⟨g2, off2, none⟩ = some (.int .i64 (ps[i].1 : Int)) ∧ wr.cell? ⟨g2, off2 + 1, none⟩ = some (.int .i64 (ps[i].2 : Int)) := by
    intro i hi wr hb
    obtain ⟨g, off, ai, ci, rfl, hg, x0, hrow⟩ := HM.out.row (i := i) (by rw [rowsP_length]; exact hi)
    have e0 := rowsP_at ps i hi
    rw [e0] at x0 hrow
    obtain ⟨g2, off2, rfl, hg2, hcc⟩ := hrow.open (by simp [ints])
    have y0 := hcc 0 _ rfl
    have y1 := hcc 1 _ rfl
    rw [Nat.add_zero] at y0
    exact ⟨g, off, g2, off2, ci, rfl, (hb.cell (p := ⟨g, off + i, none⟩) hg).trans x0, (hb.cell (p := ⟨g2, off2, none⟩) hg2).trans y0, (hb.cell (p := ⟨g2, off2 + 1, none⟩) hg2).trans y1⟩
  have HCL := Lib.hid hcells
  clear hcells
  go_wp2
  go_loopw [6, 7] (fun bv i wr => ∃ k : Nat, k ≤ ps.length ∧ i = .int .i64 k ∧ ((k = 0 ∧ bv = .int .i64 (-1)) ∨ ∃ b : Nat, ∃ hb : b < k, bv = .int .i64 b ∧ ∃ hp : b < ps.length, leastTo ps k = ps[b]) ∧ Below w1.heap.size w1 wr) (fun _ i _ => ps.length - (intOf i).toNat)
  case atStart => exact ⟨0, Nat.zero_le _, rfl, .inl ⟨rfl, rfl⟩, Below.refl _ _⟩
  case round =>
    obtain ⟨k, hk, rfl, hcase, hb⟩ := hrel
    have HB := Lib.hid hb
    have hszr := hb.size
    clear hb
    by_cases hlt : k < ps.length
    · have i1 : (k : Int) < (ps.length : Int) := by omega
      rcases hcase with ⟨rfl, rfl⟩ | ⟨b, hbk, rfl, hbp, hval⟩
      · have HV := Lib.hid (HF.out hlt)
        have dm : decide ((-1 : Int) < 0) = true := by decide
        go_wp2
        go_big_quiet (fail)
        go_wp2
        go_roundw
        case rel => exact ⟨1, hlt, by go_num, .inr ⟨0, Nat.zero_lt_one, rfl, hlt, HV.out⟩, below_drewN HB.out _⟩
        case measure => simp [intOf]; omega
      · obtain ⟨g, off, g2, off2, c2, rfl, x0, x1, x2⟩ := HCL.out k hlt wr HB.out
        obtain ⟨g', off', g3, off3, c3, he, y0, y1, y2⟩ := HCL.out b hbp wr HB.out
        cases he
        have hpk := HBD.out _ (List.getElem_mem hlt)
        have hpb := HBD.out _ (List.getElem_mem hbp)
        have hbt := HBT.out b k hbk hlt
        have HYK := Lib.hid (HY.out k hlt)
        have HNK := Lib.hid (HN.out k hlt (by omega))
        rw [hval] at HYK HNK
        rw [hbt] at HYK HNK
        have HVAL := Lib.hid hval
        clear hbt hval
        have HX1 : (ps[k].1, ps[k].2) = ps[k] := rfl
        obtain ⟨pk, hpk0⟩ : ∃ pk, pk = ps[k] := ⟨_, rfl⟩
        obtain ⟨pb, hpb0⟩ : ∃ pb, pb = ps[b] := ⟨_, rfl⟩
        rw [← hpk0] at x1 x2 hpk HYK HNK
        rw [← hpb0] at y1 y2 hpb HYK HNK HVAL
        have HPK := Lib.hid hpk0
        have HPB := Lib.hid hpb0
        clear hpk0 hpb0 HX1
        obtain ⟨p0, p1⟩ := pk
        obtain ⟨q0, q1⟩ := pb
        obtain ⟨hp0, hp1⟩ : p0 ≤ 5 ∧ p1 ≤ 5 := hpk
        obtain ⟨hq0, hq1⟩ : q0 ≤ 5 ∧ q1 ≤ 5 := hpb
        have x1 : wr.cell? ⟨g2, off2, none⟩ = some (.int .i64 (p0 : Int)) := x1
        have x2 : wr.cell? ⟨g2, off2 + 1, none⟩ = some (.int .i64 (p1 : Int)) := x2
        have y1 : wr.cell? ⟨g3, off3, none⟩ = some (.int .i64 (q0 : Int)) := y1
        have y2 : wr.cell? ⟨g3, off3 + 1, none⟩ = some (.int .i64 (q1 : Int)) := y2
        obtain ⟨X, hX⟩ : ∃ X, X = p0 * p1 := ⟨_, rfl⟩
        obtain ⟨Y, hY⟩ : ∃ Y, Y = q0 * q1 := ⟨_, rfl⟩
        have hX25 : X ≤ 25 := by rw [hX]; exact Nat.mul_le_mul hp0 hp1
        have hY25 : Y ≤ 25 := by rw [hY]; exact Nat.mul_le_mul hq0 hq1
        have m1 : (p0 : Int) * (p1 : Int) = (X : Int) := by rw [hX]; norm_cast
        have m2 : (q0 : Int) * (q1 : Int) = (Y : Int) := by rw [hY]; norm_cast
        have m3 : IntKind.i64.wrap (X : Int) = (X : Int) := IntWalk.i64_in _ (by omega)
        have m4 : IntKind.i64.wrap (Y : Int) = (Y : Int) := IntWalk.i64_in _ (by omega)
        have m5 : wrap64 (X : Int) = (X : Int) := wrap_nat (by omega)
        have m6 : wrap64 (Y : Int) = (Y : Int) := wrap_nat (by omega)
        have db : decide ((b : Int) < 0) = false := decide_eq_false (by omega)
        have i2 : (b : Int) < (ps.length : Int) := by omega
        have HYX := Lib.hid (show decide (X < Y) = true → leastTo ps (k + 1) = ps[k] by rw [hX, hY, ← HPK.out]; exact HYK.out)
        have HNX := Lib.hid (show decide (X < Y) = false → leastTo ps (k + 1) = ps[b] by rw [hX, hY, ← HPB.out]; exact HNK.out)
        clear hX hY HYK HNK HPK HPB HVAL hp0 hp1 hq0 hq1
        by_cases hxy : X < Y
        · have HV := Lib.hid (HYX.out (decide_eq_true hxy))
          have dxy : decide ((X : Int) < (Y : Int)) = true := decide_eq_true (Int.ofNat_lt.2 hxy)
          have dxyn : decide (X < Y) = true := decide_eq_true hxy
          clear HYX HNX hxy
          go_wp2
          go_big_quiet (fail)
          go_wp2
          go_roundw
          case rel => exact ⟨k + 1, hlt, by go_num, .inr ⟨k, Nat.lt_succ_self k, rfl, hlt, HV.out⟩, below_drewN HB.out _⟩
          case measure => simp [intOf]; omega
        · have HV := Lib.hid (HNX.out (decide_eq_false hxy))
          have dxy : decide ((X : Int) < (Y : Int)) = false := decide_eq_false (fun h => hxy (Int.ofNat_lt.1 h))
          have dxyn : decide (X < Y) = false := decide_eq_false hxy
          clear HYX HNX hxy
          go_wp2
          go_big_quiet (fail)
          go_wp2
          go_roundw
          case rel => exact ⟨k + 1, hlt, by go_num, .inr ⟨b, Nat.lt_succ_of_lt hbk, rfl, hbp, HV.out⟩, below_drewN HB.out _⟩
          case measure => simp [intOf]; omega
    · obtain rfl : k = ps.length := by omega
      rcases hcase with ⟨h0, rfl⟩ | ⟨b, hbk, rfl, hbp, hval⟩
      · have hz : leastTo ps ps.length = (0, 0) := by rw [h0]; rfl
        have hd : decide (0 < ps.length) = false := decide_eq_false (by omega)
        have dm : decide ((-1 : Int) < 0) = true := by decide
        have HZ := Lib.hid hz
        have HD := Lib.hid hd
        clear hz hd h0
        go_wp2
        go_ret3
        rw [HZ.out, HD.out]
        exact ⟨rfl, HB1.out.trans (HB.out.mono hsz1)⟩
      · obtain ⟨g', off', g3, off3, c3, rfl, y0, y1, y2⟩ := HCL.out b hbp wr HB.out
        have hd : decide (0 < ps.length) = true := decide_eq_true (by omega)
        have db : decide ((b : Int) < 0) = false := decide_eq_false (by omega)
        have i2 : (b : Int) < (ps.length : Int) := by omega
        obtain ⟨pb, hpb0⟩ : ∃ pb, pb = ps[b] := ⟨_, rfl⟩
        rw [← hpb0] at y1 y2 hval
        clear hpb0
        have HZ := Lib.hid hval
        have HD := Lib.hid hd
        clear hval hd
        obtain ⟨q0, q1⟩ := pb
        have y1 : wr.cell? ⟨g3, off3, none⟩ = some (.int .i64 (q0 : Int)) := y1
        have y2 : wr.cell? ⟨g3, off3 + 1, none⟩ = some (.int .i64 (q1 : Int)) := y2
        go_wp2
        go_big_quiet (fail)
        go_wp2
        go_ret3
        rw [HZ.out, HD.out]
        exact ⟨rfl, below_drewN (HB1.out.trans (HB.out.mono hsz1)) _⟩
/-- The number of pieces. -/
def roR (l : List Cl) : Int := if 0 < (rectL l).length then (((smR l).1 * (smR l).2 / l.length : Nat) : Int) else -1
theorem smR_bd (l : List Cl) : (smR l).1 ≤ 5 ∧ (smR l).2 ≤ 5 := by
  by_cases h : 0 < (rectL l).length
  · exact rectL_bd l _ (leastL_spec h).1
  · have : rectL l = [] := List.eq_nil_of_length_eq_zero (by omega)
    unfold smR
    rw [this]
    exact ⟨Nat.zero_le _, Nat.zero_le _⟩

set_option maxRecDepth 100000 in
set_option maxHeartbeats 3200000 in
theorem specRo (ad : Option Addr) (c : Nat) (l : List Cl) (w : World) (hn : l.length ≤ 1048576) (hc : CellsAt w ad (cls l)) :
    Calls Tryz.prog 28 #[.slice ad l.length c] w fun e w' => e = .returned (.int .i64 (roR l)) ∧ Below w.heap.size w w' := by
  have HS := Lib.hid (specSm ad c l w hn hc)
  have hbd := smR_bd l
  have hd : roR l = if 0 < (rectL l).length then (((smR l).1 * (smR l).2 / l.length : Nat) : Int) else -1 := rfl
  rw [hd]
  have hsh := fun h => (rectL_shape (l := l) h).2.1
  generalize smR l = p at HS hbd ⊢
  obtain ⟨a, b⟩ := p
  obtain ⟨ha, hb⟩ : a ≤ 5 ∧ b ≤ 5 := hbd
  have HS : Hid (Calls Tryz.prog 23 #[.slice ad l.length c] w fun e w' => e = .returned (.tuple #[.int .i64 (a : Int), .int .i64 (b : Int), .bool (decide (0 < (rectL l).length))]) ∧ Below w.heap.size w w') := HS
  show Calls Tryz.prog 28 #[.slice ad l.length c] w fun e w' => e = .returned (.int .i64 (if 0 < (rectL l).length then ((a * b / l.length : Nat) : Int) else -1)) ∧ Below w.heap.size w w'
  obtain ⟨X, hX⟩ : ∃ X, X = a * b := ⟨_, rfl⟩
  have hX25 : X ≤ 25 := by rw [hX]; exact Nat.mul_le_mul ha hb
  have m1 : (a : Int) * (b : Int) = (X : Int) := by rw [hX]; norm_cast
  rw [← hX]
  have m3 : IntKind.i64.wrap (X : Int) = (X : Int) := IntWalk.i64_in _ (by omega)
  clear hX hc hd
  by_cases h0 : 0 < (rectL l).length
  · have hl1 := hsh h0
    rw [decide_eq_true h0] at HS
    rw [if_pos h0]
    have hl0 : ¬ ((l.length : Int) = 0) := by omega
    have q1 : (X : Int).tdiv (l.length : Int) = ((X / l.length : Nat) : Int) := by rw [Int.tdiv_eq_ediv_of_nonneg (by omega)]; norm_cast
    have q2 : (X : Int) / (l.length : Int) = ((X / l.length : Nat) : Int) := by norm_cast
    have q3 : X / l.length ≤ 25 := Nat.le_trans (Nat.div_le_self _ _) hX25
    generalize X / l.length = q at q1 q2 q3 ⊢
    have q4 : IntKind.i64.wrap (q : Int) = (q : Int) := IntWalk.i64_in _ (by omega)
    have q5 : wrap64 (q : Int) = (q : Int) := wrap_nat (by omega)
    clear hsh h0
    go_enter Tryz.func28, Tryz.ntmps28
    go_wp2_with fail
    refine HS.out.mono ?_
    rintro e w1 ⟨rfl, hb1⟩
    have HB1 := Lib.hid hb1
    clear hb1
    go_wp2
    go_ret
    exact ⟨rfl, HB1.out⟩
  · rw [decide_eq_false h0] at HS
    rw [if_neg h0]
    clear hsh h0
    go_enter Tryz.func28, Tryz.ntmps28
    go_wp2_with fail
    refine HS.out.mono ?_
    rintro e w1 ⟨rfl, hb1⟩
    have HB1 := Lib.hid hb1
    clear hb1
    go_wp2
    go_ret
    exact ⟨rfl, HB1.out⟩

set_option maxRecDepth 100000 in
set_option maxHeartbeats 3200000 in
theorem implRo (ad : Option Addr) (c : Nat) (l : List Cl) (w : World) (hn : l.length ≤ 1048576) (hT : Tab w) (hc : CellsAt w ad (cls l)) :
    Calls Tryz.prog 27 #[.slice ad l.length c] w fun e w' => e = .returned (.int .i64 (roR l)) ∧ Below w.heap.size w w' := by
  have HS := Lib.hid (implSm ad c l w hn hT hc)
  have hbd := smR_bd l
  have hd : roR l = if 0 < (rectL l).length then (((smR l).1 * (smR l).2 / l.length : Nat) : Int) else -1 := rfl
  rw [hd]
  have hsh := fun h => (rectL_shape (l := l) h).2.1
  generalize smR l = p at HS hbd ⊢
  obtain ⟨a, b⟩ := p
  obtain ⟨ha, hb⟩ : a ≤ 5 ∧ b ≤ 5 := hbd
  have HS : Hid (Calls Tryz.prog 22 #[.slice ad l.length c] w fun e w' => e = .returned (.tuple #[.int .i64 (a : Int), .int .i64 (b : Int), .bool (decide (0 < (rectL l).length))]) ∧ Below w.heap.size w w') := HS
  show Calls Tryz.prog 27 #[.slice ad l.length c] w fun e w' => e = .returned (.int .i64 (if 0 < (rectL l).length then ((a * b / l.length : Nat) : Int) else -1)) ∧ Below w.heap.size w w'
  obtain ⟨X, hX⟩ : ∃ X, X = a * b := ⟨_, rfl⟩
  have hX25 : X ≤ 25 := by rw [hX]; exact Nat.mul_le_mul ha hb
  have m1 : (a : Int) * (b : Int) = (X : Int) := by rw [hX]; norm_cast
  rw [← hX]
  have m3 : IntKind.i64.wrap (X : Int) = (X : Int) := IntWalk.i64_in _ (by omega)
  clear hX hc hd
  by_cases h0 : 0 < (rectL l).length
  · have hl1 := hsh h0
    rw [decide_eq_true h0] at HS
    rw [if_pos h0]
    have hl0 : ¬ ((l.length : Int) = 0) := by omega
    have q1 : (X : Int).tdiv (l.length : Int) = ((X / l.length : Nat) : Int) := by rw [Int.tdiv_eq_ediv_of_nonneg (by omega)]; norm_cast
    have q2 : (X : Int) / (l.length : Int) = ((X / l.length : Nat) : Int) := by norm_cast
    have q3 : X / l.length ≤ 25 := Nat.le_trans (Nat.div_le_self _ _) hX25
    generalize X / l.length = q at q1 q2 q3 ⊢
    have q4 : IntKind.i64.wrap (q : Int) = (q : Int) := IntWalk.i64_in _ (by omega)
    have q5 : wrap64 (q : Int) = (q : Int) := wrap_nat (by omega)
    clear hsh h0
    go_enter Tryz.func27, Tryz.ntmps27
    go_wp2_with fail
    refine HS.out.mono ?_
    rintro e w1 ⟨rfl, hb1⟩
    have HB1 := Lib.hid hb1
    clear hb1
    go_wp2
    go_ret
    exact ⟨rfl, HB1.out⟩
  · rw [decide_eq_false h0] at HS
    rw [if_neg h0]
    clear hsh h0
    go_enter Tryz.func27, Tryz.ntmps27
    go_wp2_with fail
    refine HS.out.mono ?_
    rintro e w1 ⟨rfl, hb1⟩
    have HB1 := Lib.hid hb1
    clear hb1
    go_wp2
    go_ret
    exact ⟨rfl, HB1.out⟩
end Go.Proofs.YtajmdgcnnipdoaaGreatDoor
