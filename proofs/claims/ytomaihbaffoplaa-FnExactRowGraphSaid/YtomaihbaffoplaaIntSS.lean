/- IntSS: the walks of the laws' helpers on lists of lists of integers: compare, mark, hold. -/
import Derived.Test.YtomaihbaffoplaaAllRows
import Derived.Test.YtomaihbaffoplaaAllBase
import Derived.Test.YtomaihbaffoplaaAllMarkI
import Derived.Test.YtomaihbaffoplaaAllMarkP
import Derived.StillTailTactics
namespace Go.Proofs.Ytomaihbaffoplaa
open Go.RowKit

/-- How long the first rows are together. -/
def sumI : List (List Int) → Nat → Nat
  | _, 0 => 0
  | rs, k + 1 => sumI rs k + (rs.getD k []).length
def sumL (rs : List (List Int)) : Nat := sumI rs rs.length
theorem sumI_mono (rs : List (List Int)) {i j : Nat} (h : i ≤ j) : sumI rs i ≤ sumI rs j := by
  induction h with
  | refl => exact Nat.le_refl _
  | step _ ih => rw [sumI]; exact Nat.le_trans ih (Nat.le_add_right _ _)
theorem sumI_at {rs : List (List Int)} {k : Nat} (h : k < rs.length) : sumI rs (k + 1) = sumI rs k + rs[k].length := by
  rw [sumI]
  congr 2
  simp [List.getD_eq_getElem?_getD, h]
def AscI (vs : List Value) : Prop := ∀ (i j : Nat) (u v : Value) (g h : Nat), i < j → vs[i]? = some u → vs[j]? = some v → u.ownBlock = some g → v.ownBlock = some h → g < h
/-- A row's slice whose block lies in lo .. hi - 1. -/
def RowOwn (w : World) (lo hi : Nat) (v : Value) (cs : List Value) (n : Nat) : Prop := ∃ ai ci, v = .slice ai n ci ∧ Owned w lo hi 3 1 ai n ci cs
/-- A list of rows that a call has made. -/
def OwnedS (w : World) (lo hi : Nat) (ad : Option Addr) (n cap : Nat) (rs : List (List Int)) : Prop :=
  sumL rs ≤ 100000 ∧ ∃ vs, Owned w lo hi 34 1 ad n cap vs ∧ vs.length = rs.length ∧ (∀ i (hi' : i < rs.length), ∃ v, vs[i]? = some v ∧ RowOwn w lo hi v (ints rs[i]) rs[i].length) ∧ AscI vs
/-- The same, holding marks. -/
def OwnedK (w : World) (lo hi : Nat) (ad : Option Addr) (n cap k : Nat) (rs : List (List Int)) : Prop :=
  sumL rs ≤ 100000 ∧ ∃ vs, Owned w lo hi 34 1 ad n cap vs ∧ vs.length = rs.length ∧ (∀ i (hi' : i < rs.length), ∃ v, vs[i]? = some v ∧ RowOwn w lo hi v (marks (k + sumI rs i) rs[i].length) rs[i].length)
theorem RowOwn.below {w w' : World} {lo hi B n : Nat} {v : Value} {cs : List Value} (h : RowOwn w lo hi v cs n) (hb : Below B w w') (hB : hi ≤ B) : RowOwn w' lo hi v cs n := by
  obtain ⟨ai, ci, h1, h2⟩ := h
  exact ⟨ai, ci, h1, h2.below hb hB⟩
theorem RowOwn.touched {w w' : World} {lo hi l2 h2 n : Nat} {v : Value} {cs : List Value} (h : RowOwn w lo hi v cs n) (ht : Touched l2 h2 w w') (hd : h2 ≤ lo ∨ hi ≤ l2) : RowOwn w' lo hi v cs n := by
  obtain ⟨ai, ci, h1, q⟩ := h
  exact ⟨ai, ci, h1, q.touched ht hd⟩
theorem OwnedS.of {w w' : World} {cap : Nat} {ad : Option Addr} {rs : List (List Int)} (h : sumL rs ≤ 100000 ∧ OwnMat w' w.heap.size (.slice ad rs.length cap) rs) : OwnedS w' w.heap.size w'.heap.size ad rs.length cap rs := by
  obtain ⟨h0, vs, h1, h2, h3, h4⟩ := h
  refine ⟨h0, vs, Owned.of h1, h2, fun i hi => ?_, h4⟩
  obtain ⟨ai, ci, q1, q2⟩ := h3 i rs[i] (by simp [hi])
  exact ⟨_, q1, ai, ci, rfl, Owned.of q2⟩
theorem OwnedS.below {w w' : World} {lo hi n cap B : Nat} {ad : Option Addr} {rs : List (List Int)} (h : OwnedS w lo hi ad n cap rs) (hb : Below B w w') (hB : hi ≤ B) : OwnedS w' lo hi ad n cap rs := by
  obtain ⟨h0, vs, h1, h2, h3, h4⟩ := h
  exact ⟨h0, vs, h1.below hb hB, h2, fun i hi => by obtain ⟨v, q1, q2⟩ := h3 i hi; exact ⟨v, q1, q2.below hb hB⟩, h4⟩
theorem OwnedS.touched {w w' : World} {lo hi n cap l2 h2 : Nat} {ad : Option Addr} {rs : List (List Int)} (h : OwnedS w lo hi ad n cap rs) (ht : Touched l2 h2 w w') (hd : h2 ≤ lo ∨ hi ≤ l2) : OwnedS w' lo hi ad n cap rs := by
  obtain ⟨h0, vs, h1, k2, h3, h4⟩ := h
  exact ⟨h0, vs, h1.touched ht hd, k2, fun i hi => by obtain ⟨v, q1, q2⟩ := h3 i hi; exact ⟨v, q1, q2.touched ht hd⟩, h4⟩
theorem OwnedK.below {w w' : World} {lo hi n cap k B : Nat} {ad : Option Addr} {rs : List (List Int)} (h : OwnedK w lo hi ad n cap k rs) (hb : Below B w w') (hB : hi ≤ B) : OwnedK w' lo hi ad n cap k rs := by
  obtain ⟨h0, vs, h1, h2, h3⟩ := h
  exact ⟨h0, vs, h1.below hb hB, h2, fun i hi => by obtain ⟨v, q1, q2⟩ := h3 i hi; exact ⟨v, q1, q2.below hb hB⟩⟩
theorem OwnedK.touched {w w' : World} {lo hi n cap k l2 h2 : Nat} {ad : Option Addr} {rs : List (List Int)} (h : OwnedK w lo hi ad n cap k rs) (ht : Touched l2 h2 w w') (hd : h2 ≤ lo ∨ hi ≤ l2) : OwnedK w' lo hi ad n cap k rs := by
  obtain ⟨h0, vs, h1, k2, h3⟩ := h
  exact ⟨h0, vs, h1.touched ht hd, k2, fun i hi => by obtain ⟨v, q1, q2⟩ := h3 i hi; exact ⟨v, q1, q2.touched ht hd⟩⟩
/-- Rows as they are read. -/
def SAt (w : World) (ad : Option Addr) (rs : List (List Int)) : Prop := sumL rs ≤ 100000 ∧ MatAt w ad rs
def KAt (w : World) (ad : Option Addr) (k : Nat) (rs : List (List Int)) : Prop :=
  sumL rs ≤ 100000 ∧ ∃ vs, CellsAt w ad vs ∧ vs.length = rs.length ∧ ∀ i (hi' : i < rs.length), ∃ ai ci, vs[i]? = some (.slice ai rs[i].length ci) ∧ CellsAt w ai (marks (k + sumI rs i) rs[i].length)
theorem OwnedS.cells {w : World} {lo hi n cap : Nat} {ad : Option Addr} {rs : List (List Int)} (h : OwnedS w lo hi ad n cap rs) : SAt w ad rs := by
  obtain ⟨h0, vs, h1, h2, h3, _⟩ := h
  refine ⟨h0, vs, h1.cells, h2, fun i xs hx => ?_⟩
  have hi : i < rs.length := by
    rcases Nat.lt_or_ge i rs.length with q | q
    · exact q
    · rw [List.getElem?_eq_none q] at hx; cases hx
  rw [List.getElem?_eq_getElem hi] at hx
  obtain rfl := Option.some.inj hx
  obtain ⟨v, q1, ai, ci, rfl, q2⟩ := h3 i hi
  exact ⟨ai, ci, q1, q2.cells⟩
theorem OwnedK.cells {w : World} {lo hi n cap k : Nat} {ad : Option Addr} {rs : List (List Int)} (h : OwnedK w lo hi ad n cap k rs) : KAt w ad k rs := by
  obtain ⟨h0, vs, h1, h2, h3⟩ := h
  refine ⟨h0, vs, h1.cells, h2, fun i hi => ?_⟩
  obtain ⟨v, q1, ai, ci, rfl, q2⟩ := h3 i hi
  exact ⟨ai, ci, q1, q2.cells⟩

set_option maxRecDepth 100000 in
set_option maxHeartbeats 1600000 in
theorem eqIntSS_same (a1 a2 : Option Addr) (c1 c2 : Nat) (rs : List (List Int)) (w : World) (hn : rs.length ≤ 1048576) (hc1 : SAt w a1 rs) (hc2 : SAt w a2 rs) :
    Calls Try.prog 9 #[.slice a1 rs.length c1, .slice a2 rs.length c2] w fun e w' => e = .returned (.bool true) ∧ Below w.heap.size w w' := by
  have hsum := hc1.1
  have HS := Lib.hid (fun k (hk : k < rs.length) => (by have h1 := sumI_at hk; have h2 := sumI_mono rs (show k + 1 ≤ rs.length by omega); unfold sumL at hsum; omega : rs[k].length ≤ 1048576))
  have H1 := Lib.hid hc1.2
  have H2 := Lib.hid hc2.2
  clear hc1 hc2 hsum
  go_enter Try.func9, Try.ntmps9
  go_wp2
  go_loopw [5] (fun i wr => ∃ k : Nat, k ≤ rs.length ∧ i = .int .i64 k ∧ Below w.heap.size w wr) (fun i _ => rs.length - (intOf i).toNat)
  case atStart => exact ⟨0, by omega, rfl, Below.refl _ _⟩
  case round =>
    obtain ⟨k, hk, rfl, hb⟩ := hrel
    have HB := Lib.hid hb
    have hszr := hb.size
    by_cases hlt : k < rs.length
    · obtain ⟨g, off, ai, ci, rfl, hg, hcell, hrow⟩ := H1.out.row hlt
      obtain ⟨g', off', ai', ci', rfl, hg', hcell', hrow'⟩ := H2.out.row hlt
      have x0 := (hb.cell (p := ⟨g, off + k, none⟩) hg).trans hcell
      have y0 := (hb.cell (p := ⟨g', off' + k, none⟩) hg').trans hcell'
      have hpl := HS.out k hlt
      have i1 : (k : Int) < (rs.length : Int) := by omega
      have HE := Lib.hid (eqIntS_same ai ai' ci ci' rs[k] wr.drew hpl (hrow.below hb.drew) (hrow'.below hb.drew))
      clear hcell hrow hcell' hrow' hb
      generalize rs[k] = p at x0 y0 hpl HE
      go_wp2
      go_still_tail 8, (by kernel_rfl)
      go_wp2_with fail
      refine HE.out.mono ?_
      rintro e w2 ⟨rfl, hb2⟩
      have HB2 := Lib.hid (HB.out.trans (((Below.refl _ _).drew.trans (hb2.mono (Nat.le_refl _))).mono hszr))
      clear hb2
      go_wp2
      go_roundw
      case rel => exact ⟨k + 1, by omega, by go_num, HB2.out⟩
      case measure => simp [intOf]; omega
    · obtain rfl : k = rs.length := by omega
      go_wp2
      go_ret
      exact ⟨rfl, HB.out⟩

set_option maxRecDepth 100000 in
set_option maxHeartbeats 1600000 in
theorem markIntSS_all {k : Nat} (lo hi : Nat) (ad : Option Addr) (cap : Nat) (rs : List (List Int)) (w : World) (hn : rs.length ≤ 1048576) (hk : k ≤ 1048576) (ho : OwnedS w lo hi ad rs.length cap rs) :
    Calls Try.prog 12 #[.slice ad rs.length cap, .int .i64 k] w fun e w' => e = .returned (.int .i64 ((k + sumL rs : Nat) : Int)) ∧ OwnedK w' lo hi ad rs.length cap k rs ∧ Touched lo hi w w' := by
  obtain ⟨hsum, vs, hrow, hvl, hR, hasc⟩ := ho
  have hsum2 : sumI rs rs.length ≤ 100000 := hsum
  have HSUM := Lib.hid hsum
  have HSM := Lib.hid (fun j (hj : j ≤ rs.length) => (sumI_mono rs hj : sumI rs j ≤ sumI rs rs.length))
  have HAT := Lib.hid (fun j (hj : j < rs.length) => sumI_at hj)
  have HASC := Lib.hid hasc
  have HVL := Lib.hid hvl
  have HR := Lib.hid hR
  have HROW := Lib.hid hrow
  have hdef : sumL rs = sumI rs rs.length := rfl
  rw [hdef]
  clear hasc hrow hR hvl hdef hsum
  go_enter Try.func12, Try.ntmps12
  go_wp2
  go_loopw [1, 5] (fun x i wr => ∃ j : Nat, j ≤ rs.length ∧ i = .int .i64 j ∧ x = .int .i64 ((k + sumI rs j : Nat) : Int) ∧ Owned wr lo hi 34 1 ad rs.length cap vs ∧ (∀ m (hm : m < rs.length), ∃ v, vs[m]? = some v ∧ RowOwn wr lo hi v (if m < j then marks (k + sumI rs m) rs[m].length else ints rs[m]) rs[m].length) ∧ Touched lo hi w wr) (fun _ i _ => rs.length - (intOf i).toNat)
  case atStart => exact ⟨0, Nat.zero_le _, rfl, by rw [sumI]; rfl, HROW.out, fun m hm => by obtain ⟨v, q1, q2⟩ := HR.out m hm; exact ⟨v, q1, by rw [if_neg (Nat.not_lt_zero m)]; exact q2⟩, Touched.refl _ _ _⟩
  case round =>
    obtain ⟨j, hj, rfl, rfl, hrow, hall, ht⟩ := hrel
    have HW := Lib.hid hrow
    have HALL := Lib.hid hall
    have HT := Lib.hid ht
    have hsj := HSM.out j hj
    clear hrow hall ht HROW HR
    by_cases hlt : j < rs.length
    · obtain ⟨v, hv, ai, ci, rfl, hown⟩ := HALL.out j hlt
      rw [if_neg (Nat.lt_irrefl j)] at hown
      obtain ⟨g, hgad, hg1, hg2⟩ := HW.out.lo_hi (by omega)
      have hcell : wr.cell? ⟨g, j, none⟩ = some (.slice ai rs[j].length ci) := by
        subst hgad
        rw [HW.out.1.cellAt j (by omega)]
        exact hv
      subst hgad
      obtain ⟨l2, h2, hown2, hw1, hw2⟩ := hown.tight
      have hsum1 := HAT.out j hlt
      have hsj2 := HSM.out (j + 1) hlt
      have hpl : rs[j].length ≤ 100000 := by omega
      have HNEXT := Lib.hid (fun (w2 : World) (t2 : Touched l2 h2 wr w2) (ho2 : Owned w2 l2 h2 3 1 ai rs[j].length ci (marks (k + sumI rs j) rs[j].length)) => (⟨HW.out.apart t2 (fun q hq => hw2 q (HW.out.other hown (by decide) q hq)), fun m hm => by
          by_cases e : m = j
          · subst e
            exact ⟨_, hv, ai, ci, rfl, by rw [if_pos (Nat.lt_succ_self m)]; exact ⟨ownsRow_rebase' ho2.1 hown.1, hown.2⟩⟩
          · obtain ⟨u, hu, aj, cj, rfl, how⟩ := HALL.out m hm
            have hne : ∀ q, (Value.slice aj rs[m].length cj).ownBlock = some q → (Value.slice ai rs[j].length ci).ownBlock ≠ some q := fun q hq hq' => by
              rcases Nat.lt_or_gt_of_ne e with z | z
              · have := HASC.out m j _ _ q q z hu hv hq hq'; omega
              · have := HASC.out j m _ _ q q z hv hu hq' hq; omega
            refine ⟨_, hu, aj, cj, rfl, ?_⟩
            have hk2 := how.apart t2 (fun q hq => hw2 q (hne q hq))
            by_cases z : m < j
            · rw [if_pos z] at hk2
              rw [if_pos (by omega)]
              exact hk2
            · rw [if_neg z] at hk2
              rw [if_neg (by omega)]
              exact hk2, HT.out.trans (t2.widen hw1)⟩ : Owned w2 lo hi 34 1 (some ⟨g, 0, none⟩) rs.length cap vs ∧ (∀ m (hm : m < rs.length), ∃ v, vs[m]? = some v ∧ RowOwn w2 lo hi v (if m < j + 1 then marks (k + sumI rs m) rs[m].length else ints rs[m]) rs[m].length) ∧ Touched lo hi w w2))
      have HMK := Lib.hid (markIntS_far (k := k + sumI rs j) l2 h2 ai ci rs[j] wr (by omega) (by omega) hown2)
      have HSUM1 := Lib.hid (show k + sumI rs (j + 1) = k + sumI rs j + rs[j].length by omega)
      have i1 : (j : Int) < (rs.length : Int) := by omega
      clear hown hown2 hw1 hw2 hv hsum1 hsj2 HALL
      generalize hpp : rs[j].length = pl at hcell HMK HSUM1 hpl HNEXT
      obtain ⟨m0, hm0⟩ : ∃ m0, m0 = k + sumI rs j := ⟨_, rfl⟩
      rw [← hm0] at HMK HSUM1 HNEXT ⊢
      have hm0b : m0 ≤ 2000000 := by omega
      clear hm0 hpp
      go_wp2_with fail
      refine HMK.out.mono ?_
      rintro e w2 ⟨rfl, ho2, ht2⟩
      have HN := Lib.hid (HNEXT.out w2 ht2 ho2)
      clear ht2 ho2
      go_wp2
      go_roundw
      case rel => exact ⟨j + 1, by omega, by go_num, by rw [HSUM1.out]; exact congrArg (Value.int .i64) (by omega), HN.out.1, HN.out.2.1, HN.out.2.2⟩
      case measure => simp [intOf]; omega
    · obtain rfl : j = rs.length := by omega
      go_wp2
      go_ret
      refine ⟨rfl, ⟨HSUM.out, vs, HW.out, HVL.out, fun i hi => ?_⟩, HT.out⟩
      obtain ⟨v, q1, q2⟩ := HALL.out i hi
      rw [if_pos hi] at q2
      exact ⟨v, q1, q2⟩

set_option maxRecDepth 100000 in
set_option maxHeartbeats 1600000 in
theorem heldIntSS_b {k : Nat} (ad : Option Addr) (cap : Nat) (rs : List (List Int)) (w : World) (hn : rs.length ≤ 1048576) (hk : k ≤ 1048576) (hc : KAt w ad k rs) :
    Calls Try.prog 13 #[.slice ad rs.length cap, .int .i64 k] w fun e w' => e = .returned (.int .i64 ((k + sumL rs : Nat) : Int)) ∧ Below w.heap.size w w' := by
  obtain ⟨hsum, vs, hcs, hvl, hR⟩ := hc
  have hsum2 : sumI rs rs.length ≤ 100000 := hsum
  have HSM := Lib.hid (fun j (hj : j ≤ rs.length) => (sumI_mono rs hj : sumI rs j ≤ sumI rs rs.length))
  have HAT := Lib.hid (fun j (hj : j < rs.length) => sumI_at hj)
  have HCS := Lib.hid hcs
  have HVL := Lib.hid hvl
  have HR := Lib.hid hR
  have hdef : sumL rs = sumI rs rs.length := rfl
  rw [hdef]
  clear hcs hR hvl hdef hsum
  go_enter Try.func13, Try.ntmps13
  go_wp2
  go_loopw [1, 5] (fun x i wr => ∃ j : Nat, j ≤ rs.length ∧ i = .int .i64 j ∧ x = .int .i64 ((k + sumI rs j : Nat) : Int) ∧ Below w.heap.size w wr) (fun _ i _ => rs.length - (intOf i).toNat)
  case atStart => exact ⟨0, Nat.zero_le _, rfl, by rw [sumI]; rfl, Below.refl _ _⟩
  case round =>
    obtain ⟨j, hj, rfl, rfl, hb⟩ := hrel
    have HB := Lib.hid hb
    have hszr := hb.size
    have hsj := HSM.out j hj
    by_cases hlt : j < rs.length
    · obtain ⟨g, off, rfl, hg, hcc⟩ := HCS.out.open (by rw [HVL.out]; omega)
      obtain ⟨ai, ci, q1, q2⟩ := HR.out j hlt
      have x0 := (hb.cell (p := ⟨g, off + j, none⟩) hg).trans (hcc j _ q1)
      have hsum1 := HAT.out j hlt
      have hsj2 := HSM.out (j + 1) hlt
      have hpl : rs[j].length ≤ 100000 := by omega
      have HH := Lib.hid (heldIntS_far (k := k + sumI rs j) ai ci rs[j].length wr (by omega) (by omega) (q2.below hb))
      have HSUM1 := Lib.hid (show k + sumI rs (j + 1) = k + sumI rs j + rs[j].length by omega)
      have i1 : (j : Int) < (rs.length : Int) := by omega
      clear hcc q1 q2 hb hsum1 hsj2
      generalize rs[j].length = pl at x0 HH HSUM1 hpl
      obtain ⟨m0, hm0⟩ : ∃ m0, m0 = k + sumI rs j := ⟨_, rfl⟩
      rw [← hm0] at HH HSUM1 ⊢
      obtain ⟨m1, hm1⟩ : ∃ m1, m1 = m0 + pl := ⟨_, rfl⟩
      rw [← hm1] at HH HSUM1
      have hm1b : m1 ≤ 2000000 := by omega
      have dn : decide ((m1 : Int) < 0) = false := decide_eq_false (by omega)
      clear hm0 hm1
      go_wp2_with fail
      refine HH.out.mono ?_
      rintro e w2 ⟨rfl, hb2⟩
      have HB2 := Lib.hid (HB.out.trans (hb2.mono hszr))
      clear hb2
      go_wp2
      go_roundw
      case rel => exact ⟨j + 1, by omega, by go_num, by rw [HSUM1.out], HB2.out⟩
      case measure => simp [intOf]; omega
    · obtain rfl : j = rs.length := by omega
      go_wp2
      go_ret
      exact ⟨rfl, HB.out⟩
end Go.Proofs.Ytomaihbaffoplaa
