/- ShpsLaw: the walks of the laws' helpers on lists of lists of cells: size, copy, compare. -/
import Derived.Test.YtcoggnoeafpgbaaGreatShapes
import Derived.Test.YtcoggnoeafpgbaaGreatAllHead
import Derived.Test.YtcoggnoeafpgbaaGreatAllBase
import Derived.StillTailTactics
namespace Go.Proofs.YtcoggnoeafpgbaaGreat
open Go.RowKit

def tot : List (List Cl) → Nat
  | [] => 0
  | p :: ps => p.length + 1 + tot ps
theorem tot_len : ∀ ps : List (List Cl), ps.length ≤ tot ps
  | [] => Nat.le_refl _
  | p :: ps => by have := tot_len ps; simp only [List.length_cons, tot]; omega
theorem tot_mem : ∀ {ps : List (List Cl)} {p : List Cl}, p ∈ ps → p.length ≤ tot ps
  | [], _, h => by simp at h
  | q :: ps, p, h => by
    rcases List.mem_cons.1 h with rfl | h
    · simp only [tot]; omega
    · have := tot_mem h; simp only [tot]; omega
/-- What the first k lists come to, without their number. -/
def sum : List (List Cl) → Nat → Nat
  | _, 0 => 0
  | ps, k + 1 => sum ps k + (ps.getD k []).length
theorem sum_cons (p : List Cl) (ps : List (List Cl)) : ∀ k, sum (p :: ps) (k + 1) = p.length + sum ps k
  | 0 => by simp [sum]
  | k + 1 => by
    rw [sum, sum_cons p ps k, sum]
    simp only [List.getD_cons_succ]
    omega
theorem tot_sum : ∀ ps : List (List Cl), tot ps = ps.length + sum ps ps.length
  | [] => rfl
  | p :: ps => by
    rw [tot, List.length_cons, sum_cons, tot_sum ps]
    omega
theorem sum_mono (ps : List (List Cl)) {i j : Nat} (h : i ≤ j) : sum ps i ≤ sum ps j := by
  induction j with
  | zero => obtain rfl : i = 0 := by omega
            exact Nat.le_refl _
  | succ j ih =>
    by_cases e : i = j + 1
    · rw [e]; exact Nat.le_refl _
    · have := ih (by omega)
      rw [sum]
      omega

set_option maxRecDepth 100000 in
set_option maxHeartbeats 1600000 in
theorem szCellSS_any (ad : Option Addr) (cap : Nat) (ps : List (List Cl)) (left : Int) (w : World) (hn : ps.length ≤ 9223372036854775807) (hl : ∀ p ∈ ps, p.length ≤ 9223372036854775807) (h0 : 0 ≤ left) (h1 : left ≤ 1048576) (hc : ShpsAt w ad ps) :
    Calls Tryz.prog 7 #[.slice ad ps.length cap, .int .i64 left] w fun e w' => e = .returned (.int .i64 (if left < (tot ps : Int) then -1 else left - tot ps)) ∧ w = w' := by
  have HC := Lib.hid hc
  have HLL := Lib.hid hl
  have HTS := Lib.hid (tot_sum ps)
  clear hc hl
  by_cases hL : left < (ps.length : Int)
  · have hv : (if left < (tot ps : Int) then -1 else left - tot ps) = (-1 : Int) := by rw [if_pos]; have := tot_len ps; omega
    rw [hv]
    clear hv
    go_enter Tryz.func7, Tryz.ntmps7
    go_wp2
    go_ret
    exact ⟨rfl, rfl⟩
  · obtain ⟨l0, hl0⟩ : ∃ l0 : Nat, left = (l0 : Int) := ⟨left.toNat, by omega⟩
    subst hl0
    obtain ⟨r0, hr0⟩ : ∃ r0 : Nat, (l0 : Int) - (ps.length : Int) = (r0 : Int) := ⟨l0 - ps.length, by omega⟩
    have hr0' : r0 + ps.length = l0 := by omega
    have HR0 := Lib.hid hr0'
    have hr1 : r0 ≤ 1048576 := by omega
    have s0 : IntKind.i64.wrap (r0 : Int) = (r0 : Int) := IntWalk.i64_in _ (by omega)
    obtain ⟨V, hV⟩ : ∃ V : Int, V = (if (l0 : Int) < (tot ps : Int) then -1 else (l0 : Int) - tot ps) := ⟨_, rfl⟩
    rw [← hV]
    have HVV := Lib.hid hV
    clear hL hr0' hV
    go_enter Tryz.func7, Tryz.ntmps7
    go_wp2
    go_loopw [1, 5] (fun r i wr => ∃ k q : Nat, k ≤ ps.length ∧ i = .int .i64 k ∧ r = .int .i64 q ∧ q + sum ps k = r0 ∧ w = wr) (fun _ i _ => ps.length - (intOf i).toNat)
    case atStart => exact ⟨0, r0, by omega, rfl, rfl, by rw [sum]; rfl, rfl⟩
    case round =>
      obtain ⟨k, q, hk, rfl, rfl, hq, rfl⟩ := hrel
      by_cases hlt : k < ps.length
      · obtain ⟨g, off, ai, ci, rfl, hg, x0, hrow⟩ := HC.out.row hlt
        have hpl := HLL.out _ (List.getElem_mem hlt)
        have hsum : sum ps (k + 1) = sum ps k + ps[k].length := by rw [sum]; congr 2; simp [List.getD_eq_getElem?_getD, hlt]
        have hmono := sum_mono ps (show k + 1 ≤ ps.length by omega)
        have i1 : (k : Int) < (ps.length : Int) := by omega
        have HQ := Lib.hid hq
        have hqb : q ≤ 1048576 := by omega
        clear hrow
        generalize ps[k] = p at x0 hpl hsum
        by_cases hle : (q : Int) < (p.length : Int)
        · have hv : (if (l0 : Int) < (tot ps : Int) then -1 else (l0 : Int) - tot ps) = (-1 : Int) := by rw [if_pos]; have := HTS.out; have := HR0.out; omega
          have HV := Lib.hid hv
          clear hv hsum hmono hq
          go_wp2_with fail
          refine (szCellS_any _ _ _ _ _ hpl (by omega) (by omega)).mono ?_
          rw [if_pos (by omega)]
          rintro e w' ⟨rfl, rfl⟩
          go_wp2
          go_ret
          rw [HVV.out, HV.out]
          exact ⟨rfl, rfl⟩
        · obtain ⟨q2, hq2⟩ : ∃ q2 : Nat, (q : Int) - (p.length : Int) = (q2 : Int) := ⟨q - p.length, by omega⟩
          have hq3 : q2 + sum ps (k + 1) = r0 := by omega
          have HQ3 := Lib.hid hq3
          clear hsum hmono hq hq3
          go_wp2_with fail
          refine (szCellS_any _ _ _ _ _ hpl (by omega) (by omega)).mono ?_
          rw [if_neg (by omega), hq2]
          rintro e w' ⟨rfl, rfl⟩
          have n0 : ¬ (q2 : Int) < 0 := by omega
          go_wp2
          go_roundw
          case rel => exact ⟨k + 1, q2, by omega, by go_num, rfl, HQ3.out, trivial⟩
          case measure => simp [intOf]; omega
      · obtain rfl : k = ps.length := by omega
        have hv : (if (l0 : Int) < (tot ps : Int) then -1 else (l0 : Int) - tot ps) = (q : Int) := by
          have := HTS.out
          have := HR0.out
          rw [if_neg (by omega)]
          omega
        have HV := Lib.hid hv
        clear hv hq
        go_wp2
        go_ret
        rw [HVV.out, HV.out]
        exact ⟨rfl, rfl⟩

theorem all2_snoc {R : Value → List Cl → Prop} {vs : List Value} {xs : List (List Cl)} {v : Value} {x : List Cl} (h : All2 R vs xs) (hv : R v x) : All2 R (vs ++ [v]) (xs ++ [x]) := All2.append h ⟨hv, trivial⟩
theorem mixed_next (vs : List Value) (z v : Value) (n k : Nat) (hv : vs.length = k) (hk : k < n) : (vs ++ List.replicate (n - k) z).set k v = (vs ++ [v]) ++ List.replicate (n - (k + 1)) z := by
  rw [List.set_append_right _ _ (by omega), hv, Nat.sub_self, show n - k = (n - (k + 1)) + 1 by omega, List.replicate_succ, List.append_assoc]
  rfl

/-- A later slice lies in a later block. -/
def AscB (vs : List Value) : Prop := ∀ (i j : Nat) (u v : Value) (g h : Nat), i < j → vs[i]? = some u → vs[j]? = some v → u.ownBlock = some g → v.ownBlock = some h → g < h
theorem AscB.nil : AscB [] := fun i j u v g h _ hu => by simp at hu
theorem AscB.snoc {w w2 : World} {base : Nat} {vs : List Value} {xs : List (List Cl)} {v : Value} {x : List Cl} (h : AscB vs) (hs : ShapesIn w base vs xs) (hv : ShpAt w2 w.heap.size v x) : AscB (vs ++ [v]) := by
  intro i j u v' g k hij hu hv' hg hk
  have hjl : j < vs.length + 1 := by
    rcases Nat.lt_or_ge j (vs.length + 1) with q | q
    · exact q
    · rw [List.getElem?_eq_none (by simp; omega)] at hv'; cases hv'
  rw [List.getElem?_append, if_pos (by omega)] at hu
  rw [List.getElem?_append] at hv'
  by_cases q : j < vs.length
  · rw [if_pos q] at hv'
    exact h i j u v' g k hij hu hv' hg hk
  · have hj : j - vs.length = 0 := by omega
    rw [if_neg q, hj] at hv'
    simp at hv'
    subst hv'
    obtain ⟨ai, ci, rfl, ho⟩ := hv
    have hk' := (ho.lt k hk).1
    have hl := All2.length hs
    obtain ⟨v0, q1, aj, cj, rfl, q2⟩ := All2.at hs (show i < xs.length by omega)
    rw [q1] at hu
    simp at hu
    subst hu
    have := (q2.lt g hg).2
    omega

set_option maxRecDepth 100000 in
set_option maxHeartbeats 1600000 in
theorem toCellSS_any (ad : Option Addr) (cap : Nat) (ps : List (List Cl)) (w : World) (hn : ps.length ≤ 1048576) (hl : ∀ p ∈ ps, p.length ≤ 1048576) (hc : ShpsAt w ad ps) :
    Calls Tryz.prog 10 #[.slice ad ps.length cap] w fun e w' => ∃ ad' cap', e = .returned (.slice ad' ps.length cap') ∧ (ps.length ≤ cap' ∧ ∃ vs, w'.ownsRow w.heap.size 61 1 (.slice ad' ps.length cap') ps.length vs ∧ ShapesIn w' w.heap.size vs ps ∧ AscB vs) ∧ Below w.heap.size w w' := by
  have HC := Lib.hid hc
  have HL := Lib.hid hl
  clear hc hl
  have hrep : (List.replicate ps.length (Value.slice none 0 0)).length = ps.length * 1 := by simp
  go_enter Tryz.func10, Tryz.ntmps10
  go_wp2_with (at_make; refine wpList_make _ rfl _ _ 31 rfl 61 (.slice none 0 0) 1 24 Tryz.elemShp (.slice none 0 0) ?c0 ps.length rfl rfl ?c1 ?c2 (List.replicate ps.length (Value.slice none 0 0)) ?c3 ?_)
  case c0 =>
    intro i hi
    have : i < 1 := hi
    match i, this with
    | 0, _ => rfl
  case c1 => omega
  case c2 => unfold maxLen; omega
  case c3 => exact hrep
  intro w1 hown _ hb1
  have hmix : mixed (Value.slice none 0 0) (List.replicate ps.length (Value.slice none 0 0)) 0 = List.replicate ps.length (Value.slice none 0 0) := by rw [mixed_zero]; simp
  rw [hmix] at hown
  have HO := Lib.hid hown
  clear hown hmix
  go_wp2
  go_loopw [4] (fun i wr => ∃ k vs, k ≤ ps.length ∧ i = .int .i64 (k : Nat) ∧ wr.ownsRow w.heap.size 61 1 (.slice (some ⟨w.heap.size, 0, none⟩) ps.length ps.length) ps.length (vs ++ List.replicate (ps.length - k) (Value.slice none 0 0)) ∧ (ShapesIn wr w.heap.size vs (ps.take k) ∧ AscB vs) ∧ Below w.heap.size w wr) (fun i _ => ps.length - (intOf i).toNat)
  case atStart => exact ⟨0, [], by omega, rfl, HO.out, ⟨trivial, AscB.nil⟩, hb1⟩
  case round =>
    obtain ⟨k, vs, hk, rfl, hown, ⟨hin, hasc⟩, hb⟩ := hrel
    have HW := Lib.hid hown
    have HIN := Lib.hid hin
    have HASC := Lib.hid hasc
    have HB := Lib.hid hb
    have hszr := hb.size
    have hvl := All2.length hin
    rw [List.length_take] at hvl
    clear hown hin hasc
    by_cases hlt : k < ps.length
    · obtain ⟨g, off, ai, ci, rfl, hg, hcell, hrow⟩ := HC.out.row hlt
      have x0 := (hb.cell (p := ⟨g, off + k, none⟩) hg).trans hcell
      have hpl := HL.out _ (List.getElem_mem hlt)
      have htk := List.take_succ_eq_append_getElem hlt
      have i1 : (k : Int) < (ps.length : Int) := by omega
      have HROW := Lib.hid (hrow.below hb)
      have HTK := Lib.hid htk
      have hvk : vs.length = k := by omega
      have HMX := Lib.hid (fun v => mixed_next vs (Value.slice none 0 0) v ps.length k hvk hlt)
      clear hcell hrow htk hb hvl
      generalize ps[k] = p at x0 hpl HROW HTK
      go_wp2_with fail
      refine (toCellS_any ai ci p wr hpl HROW.out).mono ?_
      rintro e w2 ⟨a2, c2, rfl, ho2, hb2⟩
      have how2 := ownsRow_far_below HW.out hb2 (Nat.le_refl _)
      have HB2 := Lib.hid (HB.out.trans (hb2.mono hszr))
      have hin2 := HIN.out.below hb2
      have f0 := how2.frozenAt k
      have hk6 : k < (vs ++ List.replicate (ps.length - k) (Value.slice none 0 0)).length := by rw [how2.1]; omega
      have z0 : w2.cell? ⟨w.heap.size, k, none⟩ = some ((vs ++ List.replicate (ps.length - k) (Value.slice none 0 0))[k]) := by
        rw [how2.cellAt k (by omega), List.getElem?_eq_getElem hk6]
      generalize (vs ++ List.replicate (ps.length - k) (Value.slice none 0 0))[k] = u at z0
      have HOW2 := Lib.hid how2
      have HIN2 := Lib.hid hin2
      have HASC2 := Lib.hid (HASC.out.snoc HIN.out ⟨a2, c2, rfl, ho2⟩)
      have HO2 := Lib.hid (ownsRow_rebase ho2 hszr)
      clear how2 hin2 ho2 hb2 x0
      go_wp2
      go_roundw
      case rel =>
        have q0 := HOW2.out.stored k (.slice a2 p.length c2)
        have q1 := q0.1
        rw [HMX.out] at q1
        refine ⟨k + 1, vs ++ [.slice a2 p.length c2], by omega, by go_num, q1, ?_, HB2.out.setCell (Nat.le_refl _) _⟩
        rw [HTK.out]
        have hg2 : w2.grownBy (w2.setCell ⟨w.heap.size, k, none⟩ (.slice a2 p.length c2)) (Value.slice (some ⟨w.heap.size, 0, none⟩) ps.length ps.length).ownBlock := q0.2
        exact ⟨all2_snoc (ShapesIn.grown HIN2.out HOW2.out hg2) (ShpAt.grown ⟨a2, c2, rfl, HO2.out⟩ HOW2.out hg2), HASC2.out⟩
      case measure => simp [intOf]; omega
    · obtain rfl : k = ps.length := by omega
      rw [Nat.sub_self, List.replicate_zero, List.append_nil] at HW
      rw [List.take_length] at HIN
      go_wp2
      go_ret
      exact ⟨_, _, rfl, ⟨Nat.le_refl _, vs, HW.out, HIN.out, HASC.out⟩, HB.out⟩

set_option maxRecDepth 100000 in
set_option maxHeartbeats 1600000 in
theorem eqCellSS_same (a1 a2 : Option Addr) (c1 c2 : Nat) (ps : List (List Cl)) (w : World) (hn : ps.length ≤ 1048576) (hl : ∀ p ∈ ps, p.length ≤ 1048576) (hc1 : ShpsAt w a1 ps) (hc2 : ShpsAt w a2 ps) :
    Calls Tryz.prog 13 #[.slice a1 ps.length c1, .slice a2 ps.length c2] w fun e w' => e = .returned (.bool true) ∧ Below w.heap.size w w' := by
  have H1 := Lib.hid hc1
  have H2 := Lib.hid hc2
  have HL := Lib.hid hl
  clear hc1 hc2 hl
  go_enter Tryz.func13, Tryz.ntmps13
  go_wp2
  go_loopw [5] (fun i wr => ∃ k : Nat, k ≤ ps.length ∧ i = .int .i64 k ∧ Below w.heap.size w wr) (fun i _ => ps.length - (intOf i).toNat)
  case atStart => exact ⟨0, by omega, rfl, Below.refl _ _⟩
  case round =>
    obtain ⟨k, hk, rfl, hb⟩ := hrel
    have HB := Lib.hid hb
    have hszr := hb.size
    by_cases hlt : k < ps.length
    · obtain ⟨g, off, ai, ci, rfl, hg, hcell, hrow⟩ := H1.out.row hlt
      obtain ⟨g', off', ai', ci', rfl, hg', hcell', hrow'⟩ := H2.out.row hlt
      have x0 := (hb.cell (p := ⟨g, off + k, none⟩) hg).trans hcell
      have y0 := (hb.cell (p := ⟨g', off' + k, none⟩) hg').trans hcell'
      have hpl := HL.out _ (List.getElem_mem hlt)
      have i1 : (k : Int) < (ps.length : Int) := by omega
      have HE := Lib.hid (eqCellS_same ai ai' ci ci' ps[k] wr.drew hpl (hrow.below hb.drew) (hrow'.below hb.drew))
      clear hcell hrow hcell' hrow' hb
      generalize ps[k] = p at x0 y0 hpl HE
      go_wp2
      go_still_tail 8, (by kernel_rfl)
      go_wp2_with fail
      refine HE.out.mono ?_
      rintro e w2 ⟨rfl, hb2⟩
      have HB2 := Lib.hid (HB.out.trans (((Below.refl _ _).drew.trans (hb2.mono (Nat.le_refl _))).mono hszr))
      clear hb2
      go_wp2
      go_roundw
      case rel => exact ⟨k + 1, by omega, by go_num, HB2.out⟩
      case measure => simp [intOf]; omega
    · obtain rfl : k = ps.length := by omega
      go_wp2
      go_ret
      exact ⟨rfl, HB.out⟩
/-- A shape's slice whose block lies in lo .. hi - 1. -/
def ShpOwn (w : World) (lo hi : Nat) (v : Value) (x : List Cl) : Prop := ∃ ai ci, v = .slice ai x.length ci ∧ Owned w lo hi 81 2 ai x.length ci (cls x)
/-- A list of shapes that a law has copied. -/
def OwnP (w : World) (lo hi : Nat) (ad : Option Addr) (n cap : Nat) (ps : List (List Cl)) : Prop :=
  n ≤ cap ∧ ∃ vs, Owned w lo hi 61 1 ad n cap vs ∧ All2 (ShpOwn w lo hi) vs ps ∧ AscB vs
theorem OwnP.of {w w' : World} {n cap : Nat} {ad : Option Addr} {ps : List (List Cl)} (h : n ≤ cap ∧ ∃ vs, w'.ownsRow w.heap.size 61 1 (.slice ad n cap) n vs ∧ ShapesIn w' w.heap.size vs ps ∧ AscB vs) : OwnP w' w.heap.size w'.heap.size ad n cap ps := by
  obtain ⟨h0, vs, h1, h2, h3⟩ := h
  exact ⟨h0, vs, Owned.of h1, All2.imp (fun _ _ ⟨ai, ci, q1, q2⟩ => ⟨ai, ci, q1, Owned.of q2⟩) h2, h3⟩
theorem OwnP.below {w w' : World} {lo hi n cap B : Nat} {ad : Option Addr} {ps : List (List Cl)} (h : OwnP w lo hi ad n cap ps) (hb : Below B w w') (hB : hi ≤ B) : OwnP w' lo hi ad n cap ps := by
  obtain ⟨h0, vs, h1, h2, h3⟩ := h
  exact ⟨h0, vs, h1.below hb hB, All2.imp (fun _ _ ⟨ai, ci, q1, q2⟩ => ⟨ai, ci, q1, q2.below hb hB⟩) h2, h3⟩
theorem OwnP.touched {w w' : World} {lo hi n cap l2 h2 : Nat} {ad : Option Addr} {ps : List (List Cl)} (h : OwnP w lo hi ad n cap ps) (ht : Touched l2 h2 w w') (hd : h2 ≤ lo ∨ hi ≤ l2) : OwnP w' lo hi ad n cap ps := by
  obtain ⟨h0, vs, k1, k2, k3⟩ := h
  exact ⟨h0, vs, k1.touched ht hd, All2.imp (fun _ _ ⟨ai, ci, q1, q2⟩ => ⟨ai, ci, q1, q2.touched ht hd⟩) k2, k3⟩
theorem OwnP.le_cap {w : World} {lo hi : Nat} {ad : Option Addr} {n cap : Nat} {ps : List (List Cl)} (h : OwnP w lo hi ad n cap ps) : n ≤ cap := h.1
theorem OwnP.cells {w : World} {lo hi : Nat} {ad : Option Addr} {n cap : Nat} {ps : List (List Cl)} (h : OwnP w lo hi ad n cap ps) : ShpsAt w ad ps := by
  obtain ⟨_, vs, h1, h2, _⟩ := h
  exact ⟨vs, h1.cells, All2.imp (fun _ _ ⟨ai, ci, q1, q2⟩ => ⟨ai, ci, q1, q2.cells⟩) h2⟩
end Go.Proofs.YtcoggnoeafpgbaaGreat
