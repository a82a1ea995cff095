/- AllPutS: parts laid together: CopyG, PutShape, L3Put. -/
import Derived.Test.YtajmdgcnnipdoaaGreatDoorAllBase
import Derived.Laws.CopyOwn
import Derived.Test.YtajmdgcnnipdoaaGreatDoorSearch
import Derived.Test.YtajmdgcnnipdoaaGreatDoorSpecSort
import Derived.Deep.DrawnRows
import Derived.Test.YtajmdgcnnipdoaaGreatDoorShapeCmp
import Derived.Test.YtajmdgcnnipdoaaGreatDoorAllShp

/- CopyG: copy within rows of the call's own, one cell an element, as a step of a walk. -/
namespace Go.Proofs.YtajmdgcnnipdoaaGreatDoor
open Go.RowKit

theorem splice_take {α : Type} (D : List α) (n off : Nat) (cs : List α) (h : off + cs.length ≤ n) (hn : n ≤ D.length) : (D.take off ++ cs ++ D.drop (off + cs.length)).take n = Go.splice (D.take n) off cs := by
  unfold Go.splice
  have hl : (D.take off ++ cs).length = off + cs.length := by rw [List.length_append, List.length_take]; omega
  rw [List.take_append, List.take_of_length_le (by omega), hl, List.take_take, show min off n = off by omega, List.drop_take, List.append_assoc]
theorem own_copy {w : World} {base g n cap off : Nat} {e : TypeId} {xs : List Value} (h : w.ownsRow base e 1 (.slice (some ⟨g, 0, none⟩) n cap) n xs) (cs : List Value) (hf : off + cs.length ≤ n) :
    ∃ cur : Array Value, w.heap[g]? = some (.cells cur e (0, 0)) ∧ off + cs.length ≤ cur.size ∧
      (w.setRow g (cur.toList.take off ++ cs ++ cur.toList.drop (off + cs.length)).toArray).ownsRow base e 1 (.slice (some ⟨g, 0, none⟩) n cap) n (Go.splice xs off cs) ∧
      w.grownBy (w.setRow g (cur.toList.take off ++ cs ++ cur.toList.drop (off + cs.length)).toArray) (some g) := by
  rcases h.2 with ⟨h', _⟩ | ⟨g', cap', cur, h', hb, hg, hnc, hcm, hcs, htake⟩
  · simp at h'
  · simp only [Value.slice.injEq, Option.some.injEq, Addr.mk.injEq, and_true, true_and] at h'
    obtain ⟨rfl, rfl⟩ := h'
    have hcl : cur.toList.length = cap := by rw [Array.length_toList, hcs, Nat.mul_one]
    refine ⟨cur, hg, by omega, ⟨?_, .inr ⟨g, cap, _, rfl, hb, setRow_heap w g _ _ e _ hg, hnc, hcm, ?_, ?_⟩⟩, ⟨rfl, rfl, rfl, by simp [World.setRow], fun k hk hne => setRow_other w g k _ (fun e => hne (by rw [e]))⟩⟩
    · rw [Go.length_splice _ _ _ (by rw [h.1]; omega), h.1]
    · simp only [List.size_toArray, List.length_append, List.length_take, List.length_drop]
      omega
    · rw [Nat.mul_one] at htake ⊢
      rw [← htake]
      exact splice_take cur.toList n off cs hf (by omega)

section
variable {P : Program} {w : World} {ops : Array Oper} {rest : List Oper} {o : Oper} {a : Act} {Q : Exit → Act → World → Prop}
theorem wpList_copyG (hgd : o.guard = none) (d s : Operand) (dT sT : TypeId)
    (ho : o.op = .call { callee := .builtin .copy, args := #[d, s], argTypes := #[dT, sT] }) (elem : TypeId) (hu : P.underlying dT = some (.slice elem)) (hsz : (P.info? elem).map (·.size) = some 1)
    (dp sp : Option Addr) (dLen dCap sLen sCap : Nat) (hd : a.eval d = .slice dp dLen dCap) (hs : a.eval s = .slice sp sLen sCap)
    (base g off n cap : Nat) (xs : List Value) (hown : w.ownsRow base elem 1 (.slice (some ⟨g, 0, none⟩) n cap) n xs) (cs : List Value) (hn : cs.length = Nat.min sLen dLen)
    (hpos : 0 < cs.length → dp = some ⟨g, off, none⟩ ∧ ∃ ad, sp = some ad ∧ ∀ j v, cs[j]? = some v → w.cell? (ad.add j) = some v)
    (hfit : off + cs.length ≤ n) (h1 : ∀ v ∈ cs, v.oneCell' = true)
    (h : ∀ w', w'.ownsRow base elem 1 (.slice (some ⟨g, 0, none⟩) n cap) n (Go.splice xs off cs) → w.grownBy w' (some g) → wpList P ops Q rest (a.put o.dst (goInt cs.length)) w') :
    wpList P ops Q (o :: rest) a w := by
  by_cases h0 : cs.length = 0
  · obtain rfl : cs = [] := List.eq_nil_of_length_eq_zero h0
    refine Go.wpList_copy_nothing hgd d s dT sT ho elem hu hsz dp sp dLen dCap sLen sCap hd hs (by simpa using hn.symm) ?_
    exact h w (by simpa [Go.splice] using hown) ⟨rfl, rfl, rfl, Nat.le_refl _, fun _ _ _ => rfl⟩
  · obtain ⟨rfl, ad, rfl, hsrc⟩ := hpos (by omega)
    obtain ⟨cur, hg, hfc, ho2, hg2⟩ := own_copy hown cs hfit
    refine wpList_plain hgd fun K hK => ?_
    have hrun := run_copy_row (P := P) w dT sT o.type elem g off dLen dCap ad sLen sCap cur elem cs hu hsz hg hn hsrc hfc h1
    unfold Oper.wp
    simp [execOp, ho, resolve, invoke, builtin, hd, hs, hrun, Result.andThen]
    refine hK _ _ (h _ ?_ ?_)
    · simpa using ho2
    · simpa using hg2
end
end Go.Proofs.YtajmdgcnnipdoaaGreatDoor

/- PutShape: the walk of the program's putShape: a shape put into an ascending list of shapes, once. -/
namespace Go.Proofs.YtajmdgcnnipdoaaGreatDoor
open Go.RowKit

attribute [local go_sem ↓] Go.wp_at_zero Go.wp_at_succ

theorem grown_below' {w w' : World} (h : Below w.heap.size w w') (row : Option Nat) : w.grownBy w' row := ⟨h.os, h.tape, h.output, h.size, fun k hk _ => h.block k hk⟩
theorem grown_set (w : World) (b i : Nat) (v : Value) : w.grownBy (w.setCell ⟨b, i, none⟩ v) (some b) :=
  ⟨rfl, rfl, rfl, by simp, fun k _ hk => heap_setCell_other w ⟨b, i, none⟩ k v (fun e => hk (by simp [e]))⟩
theorem grown_set_new {w w4 : World} {row : Option Nat} (h : w.grownBy w4 row) {b : Nat} (hb : w.heap.size ≤ b) (i : Nat) (v : Value) : w.grownBy (w4.setCell ⟨b, i, none⟩ v) row :=
  ⟨h.os, h.tape, h.output, by have := h.size; simpa [World.setCell] using this, fun k hk hne => by
    rw [heap_setCell_other w4 ⟨b, i, none⟩ k v (by simp; omega)]
    exact h.block k hk hne⟩
theorem grown_more {w a b : World} {row : Option Nat} {g : Nat} (h : w.grownBy a row) (k : a.grownBy b (some g)) (hg : row = some g ∨ w.heap.size ≤ g) : w.grownBy b row :=
  ⟨k.os.trans h.os, k.tape.trans h.tape, k.output.trans h.output, Nat.le_trans h.size k.size, fun i hi hne => by
    have hig : some i ≠ some g := by
      rcases hg with hg | hg
      · rw [← hg]; exact hne
      · intro e; cases e; omega
    exact (k.block i (Nat.lt_of_lt_of_le hi h.size) hig).trans (h.block i hi hne)⟩
theorem put_vals (vals : List Value) (z sv : Value) (k : Nat) (hk : k ≤ vals.length) : (Go.splice (vals ++ [z]) (k + 1) (vals.drop k)).set k sv = vals.take k ++ [sv] ++ vals.drop k := by
  have e1 : (vals ++ [z]).drop (k + 1 + (vals.drop k).length) = [] := List.drop_eq_nil_of_le (by simp; omega)
  have hl : ((vals ++ [z]).take (k + 1)).length = k + 1 := by simp; omega
  have e2 : ((vals ++ [z]).take (k + 1)).set k sv = vals.take k ++ [sv] := by
    rw [List.take_succ_eq_append_getElem (by simp; omega), List.set_append_right _ _ (by simp; omega), List.take_append_of_le_length hk]
    have : k - (vals.take k).length = 0 := by simp; omega
    rw [this]
    rfl
  unfold Go.splice
  rw [e1, List.append_nil, List.set_append_left _ _ (by omega), e2]
theorem putG_there {rows : List (List Cl)} {s : List Cl} (h : AscG ltS rows) (hs : s ∈ rows) : putG ltS rows s = rows :=
  ascG_ext wholeS (asc_putG wholeS h s) h fun x => by
    rw [mem_putG]
    exact ⟨fun q => by rcases q with rfl | q; exact hs; exact q, .inr⟩

set_option maxRecDepth 100000 in
set_option maxHeartbeats 6400000 in
theorem putShape_any (base : Nat) (ad : Option Addr) (c : Nat) (rows : List (List Cl)) (vals : List Value) (sa : Option Addr) (cs : Nat) (s : List Cl) (w : World) (hl : rows.length ≤ 1000) (hrl : ∀ r ∈ rows, r.length ≤ 1000) (hasc : AscG ltS rows) (hbase : base ≤ w.heap.size)
    (hown : w.ownsRow base 40 1 (.slice ad rows.length c) rows.length vals) (hin : ShapesIn w base vals rows) (hso : w.ownsRow base 91 2 (.slice sa s.length cs) s.length (cls s)) :
    Calls Tryz.prog 139 #[.slice ad rows.length c, .slice sa s.length cs] w fun e w' => ∃ ad' c', e = .returned (.slice ad' (putG ltS rows s).length c') ∧ ∃ vals', w'.ownsRow base 40 1 (.slice ad' (putG ltS rows s).length c') (putG ltS rows s).length vals' ∧ ShapesIn w' base vals' (putG ltS rows s) ∧ w.grownBy w' (Value.slice ad rows.length c).ownBlock := by
  have hvl := All2.length hin
  obtain ⟨n, hn⟩ : ∃ n, n = rows.length := ⟨_, rfl⟩
  rw [← hn] at hl hown hvl ⊢
  have hob : ∀ g, (Value.slice ad n c).ownBlock = some g → g < w.heap.size := fun g h => (hown.lt g h).2
  have hnb : ∀ b, w.heap.size ≤ b → some b ≠ (Value.slice ad n c).ownBlock := fun b hb e => by have := hob b e.symm; omega
  obtain ⟨w0, hw0⟩ : ∃ w0, w0 = (w.alloc (.cells #[Value.slice ad n c] 27)).alloc (.cells #[Value.slice sa s.length cs] 40) := ⟨_, rfl⟩
  have hb0 : Below w.heap.size w w0 := by rw [hw0]; exact ((Below.refl _ _).alloc (Nat.le_refl _) _).alloc (by simp) _
  have hz0 : w0.heap.size = w.heap.size + 2 := by rw [hw0]; simp
  have hkl : w0.heap[w.heap.size]? = some (.cells #[Value.slice ad n c] 27 (0, 0)) := by
    rw [hw0, Below.heap_alloc _ _ _ (by simp)]
    exact heap_alloc_new w _
  have hks : w0.heap[w.heap.size + 1]? = some (.cells #[Value.slice sa s.length cs] 40 (0, 0)) := by
    rw [hw0]
    have := heap_alloc_new (w.alloc (.cells #[Value.slice ad n c] 27)) (.cells #[Value.slice sa s.length cs] 40)
    simpa using this
  have hmono : ∀ i j, i ≤ j → j < n → (!ltS (rows.getD i default) s) = true → (!ltS (rows.getD j default) s) = true := by
    intro i j hij hj h
    rw [getDG (show i < rows.length by omega)] at h
    rw [getDG (show j < rows.length by omega)]
    cases q : ltS rows[j] s with
    | false => rfl
    | true =>
      exfalso
      by_cases e : i = j
      · subst e; rw [q] at h; cases h
      · have h3 := List.pairwise_iff_getElem.1 hasc i j (by omega) (by omega) (by omega)
        rw [wholeS.tr _ _ _ h3 q] at h
        cases h
  have HSE := Lib.hid (searchShape w.heap.size (w.heap.size + 1) n (fun i => !ltS (rows.getD i default) s) w0 hl hmono fun i w' hi hb => by
    obtain ⟨g, rfl⟩ := row_some hown (by omega)
    have hbw := hb0.trans (hb.mono hb0.size)
    exact askShape w.heap.size (w.heap.size + 1) g c i n rows vals base sa cs s w' hn.symm hrl hi (cell_of_one ((hb.block w.heap.size (by omega)).trans hkl)) (cell_of_one ((hb.block (w.heap.size + 1) (by omega)).trans hks)) (ownsRow_far_below hown hbw (Nat.le_refl _)) (hin.below hbw) (ownsRow_cellsAt (ownsRow_far_below hso hbw (Nat.le_refl _))))
  have HPL := Lib.hid hn.symm
  have HVL := Lib.hid hvl
  have HRL := Lib.hid hrl
  have HASC := Lib.hid hasc
  have HOW := Lib.hid hown
  have HIN := Lib.hid hin
  have HONE := Lib.hid (shps_one hin)
  have HSO := Lib.hid hso
  have HOB := Lib.hid hob
  have HNB := Lib.hid hnb
  have HB0 := Lib.hid hb0
  have HW0 := Lib.hid hw0
  have HKL := Lib.hid hkl
  have HKS := Lib.hid hks
  clear hn hvl hrl hasc hown hin hso hob hnb hb0 hw0 hkl hks hmono
  go_enter Tryz.func139, Tryz.ntmps139
  go_wp2_with fail
  rw [← HW0.out]
  refine HSE.out.mono ?_
  rintro e w1 ⟨k, rfl, hk, h1, h2, hb1⟩
  have hsz1 := hb1.size
  have y0 := cell_of_one ((hb1.block w.heap.size (by omega)).trans HKL.out)
  have y1 := cell_of_one ((hb1.block (w.heap.size + 1) (by omega)).trans HKS.out)
  have HB1 := Lib.hid hb1
  have hlo : ∀ j (hj : j < rows.length), j < k → ltS rows[j] s = true := fun j hj hjk => by
    have := h1 j hjk
    rw [getDG hj] at this
    simpa using this
  have hhi : ∀ j (hj : j < rows.length), k ≤ j → ltS rows[j] s = false := fun j hj hjk => by
    have := h2 j hjk (by have := HPL.out; omega)
    rw [getDG hj] at this
    simpa using this
  have HPUT := Lib.hid (fun hne => lexPut (i := k) HASC.out (by rw [HPL.out]; exact hk) hlo hhi hne)
  clear hb1 h1 h2 hlo hhi
  by_cases hkn : k < n
  · obtain ⟨g, rfl⟩ := row_some HOW.out (by omega)
    have hkP : k < rows.length := by rw [HPL.out]; exact hkn
    obtain ⟨v, hv1, ai, ci, rfl, hv2⟩ := All2.at HIN.out hkP
    have hx1 := HRL.out _ (List.getElem_mem hkP)
    have hgl := (HOW.out.lt g rfl).2
    have hbw1 := HB0.out.trans (HB1.out.mono HB0.out.size)
    have x0 := HOW.out.cellAt k (by omega)
    rw [hv1] at x0
    have x1 := (hbw1.cell (p := ⟨g, k, none⟩) hgl).trans x0
    have hmem := List.getElem_mem hkP
    obtain ⟨x, hx⟩ : ∃ x, x = rows[k] := ⟨_, rfl⟩
    rw [← hx] at x1 hv2 hx1 hmem
    have HX := Lib.hid hx
    have i1 : (k : Int) < (n : Int) := by omega
    have HEQ := Lib.hid (implEqS ai sa ci cs x s w1.drew hx1 (ownsRow_cellsAt (ownsRow_far_below hv2 hbw1.drew (Nat.le_refl _))) (ownsRow_cellsAt (ownsRow_far_below HSO.out hbw1.drew (Nat.le_refl _))))
    clear hx hv1 hv2 x0 hbw1
    by_cases heq : x = s
    · have HV := Lib.hid (putG_there (s := s) HASC.out (by rw [← heq]; exact hmem))
      have heqs := HEQ.out
      rw [decide_eq_true heq] at heqs
      have HEQS := Lib.hid heqs
      clear heqs heq hmem
      go_wp2
      go_still_tail 10, (by kernel_rfl)
      go_wp2_with fail
      refine HEQS.out.mono ?_
      rintro e wx ⟨rfl, hbx⟩
      have hbx1 : Below w0.heap.size w0 wx := HB1.out.trans (((Below.refl _ _).drew.trans (hbx.mono (Nat.le_refl _))).mono hsz1)
      have y2 := cell_of_one ((hbx1.block w.heap.size (by omega)).trans HKL.out)
      have hbw := HB0.out.trans (hbx1.mono HB0.out.size)
      have HBW := Lib.hid hbw
      clear hbx hbx1 hbw y0 y1 x1
      go_wp2
      go_ret
      refine ⟨some ⟨g, 0, none⟩, c, by rw [HV.out, HPL.out]; rfl, vals, ?_, ?_, grown_below' HBW.out _⟩
      · rw [HV.out, HPL.out]
        exact ownsRow_far_below HOW.out HBW.out (Nat.le_refl _)
      · rw [HV.out]
        exact HIN.out.below HBW.out
    · have HV := Lib.hid (HPUT.out (fun _ => by rw [← HX.out]; exact heq))
      have heqs := HEQ.out
      rw [decide_eq_false heq] at heqs
      have HEQS := Lib.hid heqs
      clear heqs heq hmem
      go_wp2
      go_still_tail 10, (by kernel_rfl)
      go_wp2_with fail
      refine HEQS.out.mono ?_
      rintro e wx ⟨rfl, hbx⟩
      have hbx1 : Below w0.heap.size w0 wx := HB1.out.trans (((Below.refl _ _).drew.trans (hbx.mono (Nat.le_refl _))).mono hsz1)
      have HBX := Lib.hid hbx1
      clear hbx hbx1 y0 y1 x1
      have HOWX := Lib.hid (ownsRow_far_below HOW.out (HB0.out.trans (HBX.out.mono HB0.out.size)) (Nat.le_refl _))
      have hszx := HBX.out.size
      have KL := (HBX.out.block w.heap.size (by omega)).trans HKL.out
      have KS := (HBX.out.block (w.heap.size + 1) (by omega)).trans HKS.out
      have yL := cell_of_one KL
      have yS := cell_of_one KS
      go_upto_region 5 with (at_builtin; refine wpList_app1 rfl (.tmp 23) (.tmp 24) 27 rfl base 40 _ 1 24 Tryz.elemShp (Value.slice (some ⟨g, 0, none⟩) n c) n vals _ _ _ rfl rfl rfl HOWX.out (by rfl) (by simp [Value.oneCell']) (by unfold maxLen; omega) (by omega) (by omega) ?_; intro g4 c4 w4 q1 q2 q3 q4 q5 q6; have KL4 := (q3.block w.heap.size (by omega) (HNB.out _ (Nat.le_refl _))).trans KL; have yL4 := cell_of_one KL4; have fL4 := frozen_of_row w4 w.heap.size 0 _ _ KL4)
      have KS4 := (q3.block (w.heap.size + 1) (by omega) (HNB.out _ (by omega))).trans KS
      have hg4 : g4 < w.heap.size ∨ wx.heap.size ≤ g4 := by
        rcases q6 with q6 | q6
        · exact .inl (HOB.out g4 q6)
        · exact .inr q6
      have hg4' : (Value.slice (some ⟨g, 0, none⟩) n c).ownBlock = some g4 ∨ w.heap.size ≤ g4 := by
        rcases q6 with q6 | q6
        · exact .inl q6
        · exact .inr (by omega)
      have hcap4 := (ownsRow_le_cap q1).1
      have HGW4 := Lib.hid (grownBy_trans (grown_below' (HB0.out.trans (HBX.out.mono HB0.out.size)) _) q3)
      have HG4 := Lib.hid hg4'
      have HO4 := Lib.hid q1
      have HKS4 := Lib.hid KS4
      have HKL4 := Lib.hid KL4
      have hsz4 : wx.heap.size ≤ w4.heap.size := q3.size
      clear q1 q2 q3 q6 KS4 KL4 yL4 fL4 KL KS yL yS hg4'
      obtain ⟨n1, hn1⟩ : ∃ n1, n1 = n + 1 := ⟨_, rfl⟩
      obtain ⟨m1, hm1⟩ : ∃ m1, m1 = k + 1 := ⟨_, rfl⟩
      rw [← hn1] at HO4 hcap4
      have hset := grown_set w4 w.heap.size 0 (.slice (some ⟨g4, 0, none⟩) (n + 1) c4)
      have ho5 := HO4.out.kept hset (.inr (by simp [Value.ownBlock]; omega))
      have yL5 := World.cell?_setCell_same w4 ⟨w.heap.size, 0, none⟩ (.slice (some ⟨g4, 0, none⟩) (n + 1) c4) (cell_of_one HKL4.out)
      have yS5 := hset.cell (cell_of_one HKS4.out) (by simp)
      have hgw5 := grown_set_new HGW4.out (Nat.le_refl w.heap.size) 0 (.slice (some ⟨g4, 0, none⟩) (n + 1) c4)
      have hsz5 := hset.size
      generalize w4.setCell ⟨w.heap.size, 0, none⟩ (.slice (some ⟨g4, 0, none⟩) (n + 1) c4) = w5 at ho5 yL5 yS5 hgw5 hsz5 ⊢
      rw [← hn1] at yL5
      have e1 : (k : Int) + 1 = (m1 : Int) := by rw [hm1]; norm_cast
      have s1 : IntKind.i64.wrap (m1 : Int) = (m1 : Int) := IntWalk.i64_in _ (by omega)
      have hm1n : m1 ≤ n1 := by omega
      have hm1c : m1 ≤ c4 := by omega
      have hkn1 : k ≤ n1 := by omega
      have hkc : k ≤ c4 := by omega
      have HO5 := Lib.hid (show w5.drew.ownsRow base 40 1 (.slice (some ⟨g4, 0, none⟩) n1 c4) n1 (vals ++ [.slice none 0 0]) from ho5)
      have HGW5 := Lib.hid hgw5
      have HM1 := Lib.hid hm1
      have HN1 := Lib.hid hn1
      have HDL := Lib.hid (show (vals.drop k).length = n - k by rw [List.length_drop, HVL.out])
      have hmin : (vals.drop k).length = Nat.min (n1 - k) (n1 - m1) := by rw [HDL.out, show Nat.min (n1 - k) (n1 - m1) = min (n1 - k) (n1 - m1) from rfl]; omega
      have HMIN := Lib.hid hmin
      have hsrc : ∀ j v, (vals.drop k)[j]? = some v → w5.drew.cell? ((⟨g4, k, none⟩ : Addr).add j) = some v := fun j v hv => by
        rw [List.getElem?_drop] at hv
        have hjl := (List.getElem?_eq_some_iff.1 hv).1
        have := HO5.out.cellAt (k + j) (by rw [Nat.mul_one]; have := HVL.out; omega)
        rw [List.getElem?_append_left hjl, hv] at this
        have hadd : (⟨g4, k, none⟩ : Addr).add j = ⟨g4, k + j, none⟩ := by simp [Addr.add]
        rw [hadd]
        exact this
      have HSRC := Lib.hid hsrc
      have HYS5 := Lib.hid yS5
      have HYL5 := Lib.hid yL5
      have hne1 : ¬ c4 = m1 := by omega
      have hne2 : ¬ c4 = k := by omega
      clear ho5 hgw5 hset hm1 hn1 hmin hsrc
      go_still_tail 7, (by kernel_rfl)
      change wpList _ _ _ _ _ w5.drew
      refine wpList_copyG rfl (.tmp 29) (.tmp 32) 27 27 rfl 40 Tryz.underlying27 (by kernel_rfl) _ _ _ _ _ _ rfl rfl base g4 m1 n1 _ (vals ++ [.slice none 0 0]) HO5.out (vals.drop k) (by first | exact HMIN.out | (rw [HDL.out]; show k - k = min (n1 - k) 0; omega)) (fun _ => ⟨rfl, _, rfl, HSRC.out⟩) (by rw [HDL.out]; have := HM1.out; have := HN1.out; omega) (fun u hu => HONE.out u (List.mem_of_mem_drop hu)) ?_
      intro w6 r1 r2
      go_upto_region 6 with (fail)
      have yL6 := r2.cell (show w5.drew.cell? _ = _ from HYL5.out) (by simp; omega)
      have yS6 := r2.cell (show w5.drew.cell? _ = _ from HYS5.out) (by simp; omega)
      have f6 := r1.frozenAt k
      have hk6 : k < (Go.splice (vals ++ [Value.slice none 0 0]) m1 (vals.drop k)).length := by rw [r1.1]; omega
      have x6 : w6.cell? ⟨g4, k, none⟩ = some ((Go.splice (vals ++ [Value.slice none 0 0]) m1 (vals.drop k))[k]) := by
        rw [r1.cellAt k (by omega), List.getElem?_eq_getElem hk6]
      generalize (Go.splice (vals ++ [Value.slice none 0 0]) m1 (vals.drop k))[k] = u6 at x6
      have i6 : (k : Int) < (n1 : Int) := by have := HN1.out; omega
      have HR1 := Lib.hid r1
      have HR2 := Lib.hid r2
      clear r1 r2 yL5 yS5
      go_upto_region 7 with (fail)
      have t1 := HR1.out.stored k (Value.slice sa s.length cs)
      have yL7 := t1.2.cell yL6 (by simp; omega)
      generalize w6.setCell ⟨g4, k, none⟩ (Value.slice sa s.length cs) = w7 at t1 yL7 ⊢
      have HT1 := Lib.hid t1
      clear t1 yL6 yS6 x6 f6
      go_wp2
      go_ret
      have hgw7 := grown_more (grown_more HGW5.out (grownBy_trans (grownBy_drew _ _) HR2.out) HG4.out) HT1.out.2 HG4.out
      have hlen : (rows.take k ++ [s] ++ rows.drop k).length = n1 := by simp only [List.length_append, List.length_take, List.length_drop, HPL.out, List.length_singleton]; have := HN1.out; omega
      refine ⟨_, _, by rw [HV.out, hlen]; rfl, vals.take k ++ [Value.slice sa s.length cs] ++ vals.drop k, ?_, ?_, hgw7⟩
      · rw [HV.out, hlen, ← put_vals vals (Value.slice none 0 0) (Value.slice sa s.length cs) k (by rw [HVL.out]; omega), ← HM1.out]
        exact HT1.out.1
      · rw [HV.out]
        exact ShapesIn.put (HIN.out.grown HOW.out hgw7) (ShpAt.grown ⟨sa, cs, rfl, HSO.out⟩ HOW.out hgw7) k
  · obtain rfl : k = n := by omega
    have HV := Lib.hid (HPUT.out (fun hj => by have := HPL.out; omega))
    have i1 : ¬ (k : Int) < (k : Int) := by omega
    go_upto_region 2 with (fail)
    go_region
    go_upto_region 4 with (fail)
    obtain ⟨wx, hwx⟩ : ∃ wx, wx = w1.drew := ⟨_, rfl⟩
    have hbx1 : Below w0.heap.size w0 wx := by rw [hwx]; exact HB1.out.drew
    rw [← hwx]
    have HBX := Lib.hid hbx1
    clear hbx1 hwx y0 y1
    have HOWX := Lib.hid (ownsRow_far_below HOW.out (HB0.out.trans (HBX.out.mono HB0.out.size)) (Nat.le_refl _))
    have hszx := HBX.out.size
    have KL := (HBX.out.block w.heap.size (by omega)).trans HKL.out
    have KS := (HBX.out.block (w.heap.size + 1) (by omega)).trans HKS.out
    have yL := cell_of_one KL
    have yS := cell_of_one KS
    go_upto_region 5 with (at_builtin; refine wpList_app1 rfl (.tmp 23) (.tmp 24) 27 rfl base 40 _ 1 24 Tryz.elemShp (Value.slice ad k c) k vals _ _ _ rfl rfl rfl HOWX.out (by rfl) (by simp [Value.oneCell']) (by unfold maxLen; omega) (by omega) (by omega) ?_; intro g4 c4 w4 q1 q2 q3 q4 q5 q6; have KL4 := (q3.block w.heap.size (by omega) (HNB.out _ (Nat.le_refl _))).trans KL; have yL4 := cell_of_one KL4; have fL4 := frozen_of_row w4 w.heap.size 0 _ _ KL4)
    have KS4 := (q3.block (w.heap.size + 1) (by omega) (HNB.out _ (by omega))).trans KS
    have hg4 : g4 < w.heap.size ∨ wx.heap.size ≤ g4 := by
      rcases q6 with q6 | q6
      · exact .inl (HOB.out g4 q6)
      · exact .inr q6
    have hg4' : (Value.slice ad k c).ownBlock = some g4 ∨ w.heap.size ≤ g4 := by
      rcases q6 with q6 | q6
      · exact .inl q6
      · exact .inr (by omega)
    have hcap4 := (ownsRow_le_cap q1).1
    have HGW4 := Lib.hid (grownBy_trans (grown_below' (HB0.out.trans (HBX.out.mono HB0.out.size)) _) q3)
    have HG4 := Lib.hid hg4'
    have HO4 := Lib.hid q1
    have HKS4 := Lib.hid KS4
    have HKL4 := Lib.hid KL4
    have hsz4 : wx.heap.size ≤ w4.heap.size := q3.size
    clear q1 q2 q3 q6 KS4 KL4 yL4 fL4 KL KS yL yS hg4'
    obtain ⟨n1, hn1⟩ : ∃ n1, n1 = k + 1 := ⟨_, rfl⟩
    obtain ⟨m1, hm1⟩ : ∃ m1, m1 = k + 1 := ⟨_, rfl⟩
    rw [← hn1] at HO4 hcap4
    have hset := grown_set w4 w.heap.size 0 (.slice (some ⟨g4, 0, none⟩) (k + 1) c4)
    have ho5 := HO4.out.kept hset (.inr (by simp [Value.ownBlock]; omega))
    have yL5 := World.cell?_setCell_same w4 ⟨w.heap.size, 0, none⟩ (.slice (some ⟨g4, 0, none⟩) (k + 1) c4) (cell_of_one HKL4.out)
    have yS5 := hset.cell (cell_of_one HKS4.out) (by simp)
    have hgw5 := grown_set_new HGW4.out (Nat.le_refl w.heap.size) 0 (.slice (some ⟨g4, 0, none⟩) (k + 1) c4)
    have hsz5 := hset.size
    generalize w4.setCell ⟨w.heap.size, 0, none⟩ (.slice (some ⟨g4, 0, none⟩) (k + 1) c4) = w5 at ho5 yL5 yS5 hgw5 hsz5 ⊢
    rw [← hn1] at yL5
    have e1 : (k : Int) + 1 = (m1 : Int) := by rw [hm1]; norm_cast
    have s1 : IntKind.i64.wrap (m1 : Int) = (m1 : Int) := IntWalk.i64_in _ (by omega)
    have hm1n : m1 ≤ n1 := by omega
    have hm1c : m1 ≤ c4 := by omega
    have hkn1 : k ≤ n1 := by omega
    have hkc : k ≤ c4 := by omega
    have HO5 := Lib.hid (show w5.drew.ownsRow base 40 1 (.slice (some ⟨g4, 0, none⟩) n1 c4) n1 (vals ++ [.slice none 0 0]) from ho5)
    have HGW5 := Lib.hid hgw5
    have HM1 := Lib.hid hm1
    have HN1 := Lib.hid hn1
    have HDL := Lib.hid (show (vals.drop k).length = k - k by rw [List.length_drop, HVL.out])
    have hmin : (vals.drop k).length = Nat.min (n1 - k) (n1 - m1) := by rw [HDL.out, show Nat.min (n1 - k) (n1 - m1) = min (n1 - k) (n1 - m1) from rfl]; omega
    have HMIN := Lib.hid hmin
    have hsrc : ∀ j v, (vals.drop k)[j]? = some v → w5.drew.cell? ((⟨g4, k, none⟩ : Addr).add j) = some v := fun j v hv => by
      rw [List.getElem?_drop] at hv
      have hjl := (List.getElem?_eq_some_iff.1 hv).1
      have := HO5.out.cellAt (k + j) (by rw [Nat.mul_one]; have := HVL.out; omega)
      rw [List.getElem?_append_left hjl, hv] at this
      have hadd : (⟨g4, k, none⟩ : Addr).add j = ⟨g4, k + j, none⟩ := by simp [Addr.add]
      rw [hadd]
      exact this
    have HSRC := Lib.hid hsrc
    have HYS5 := Lib.hid yS5
    have HYL5 := Lib.hid yL5
    skip
    skip
    clear ho5 hgw5 hset hm1 hn1 hmin hsrc
    rcases (show m1 = c4 ∨ ¬ c4 = m1 by omega) with hcm | hne1
    · subst hcm
      go_still_tail 7, (by kernel_rfl)
      change wpList _ _ _ _ _ w5.drew
      refine wpList_copyG rfl (.tmp 29) (.tmp 32) 27 27 rfl 40 Tryz.underlying27 (by kernel_rfl) _ _ _ _ _ _ rfl rfl base g4 m1 n1 _ (vals ++ [.slice none 0 0]) HO5.out (vals.drop k) (by first | exact HMIN.out | (rw [HDL.out]; show k - k = min (n1 - k) 0; omega)) (fun hp => absurd hp (by rw [HDL.out]; omega)) (by rw [HDL.out]; have := HM1.out; have := HN1.out; omega) (fun u hu => HONE.out u (List.mem_of_mem_drop hu)) ?_
      intro w6 r1 r2
      go_upto_region 6 with (fail)
      have yL6 := r2.cell (show w5.drew.cell? _ = _ from HYL5.out) (by simp; omega)
      have yS6 := r2.cell (show w5.drew.cell? _ = _ from HYS5.out) (by simp; omega)
      have f6 := r1.frozenAt k
      have hk6 : k < (Go.splice (vals ++ [Value.slice none 0 0]) m1 (vals.drop k)).length := by rw [r1.1]; omega
      have x6 : w6.cell? ⟨g4, k, none⟩ = some ((Go.splice (vals ++ [Value.slice none 0 0]) m1 (vals.drop k))[k]) := by
        rw [r1.cellAt k (by omega), List.getElem?_eq_getElem hk6]
      generalize (Go.splice (vals ++ [Value.slice none 0 0]) m1 (vals.drop k))[k] = u6 at x6
      have i6 : (k : Int) < (n1 : Int) := by have := HN1.out; omega
      have HR1 := Lib.hid r1
      have HR2 := Lib.hid r2
      clear r1 r2 yL5 yS5
      go_upto_region 7 with (fail)
      have t1 := HR1.out.stored k (Value.slice sa s.length cs)
      have yL7 := t1.2.cell yL6 (by simp; omega)
      generalize w6.setCell ⟨g4, k, none⟩ (Value.slice sa s.length cs) = w7 at t1 yL7 ⊢
      have HT1 := Lib.hid t1
      clear t1 yL6 yS6 x6 f6
      go_wp2
      go_ret
      have hgw7 := grown_more (grown_more HGW5.out (grownBy_trans (grownBy_drew _ _) HR2.out) HG4.out) HT1.out.2 HG4.out
      have hlen : (rows.take k ++ [s] ++ rows.drop k).length = n1 := by simp only [List.length_append, List.length_take, List.length_drop, HPL.out, List.length_singleton]; have := HN1.out; omega
      refine ⟨_, _, by rw [HV.out, hlen]; rfl, vals.take k ++ [Value.slice sa s.length cs] ++ vals.drop k, ?_, ?_, hgw7⟩
      · rw [HV.out, hlen, ← put_vals vals (Value.slice none 0 0) (Value.slice sa s.length cs) k (by rw [HVL.out]; omega), ← HM1.out]
        exact HT1.out.1
      · rw [HV.out]
        exact ShapesIn.put (HIN.out.grown HOW.out hgw7) (ShpAt.grown ⟨sa, cs, rfl, HSO.out⟩ HOW.out hgw7) k
    · skip
      go_still_tail 7, (by kernel_rfl)
      change wpList _ _ _ _ _ w5.drew
      refine wpList_copyG rfl (.tmp 29) (.tmp 32) 27 27 rfl 40 Tryz.underlying27 (by kernel_rfl) _ _ _ _ _ _ rfl rfl base g4 m1 n1 _ (vals ++ [.slice none 0 0]) HO5.out (vals.drop k) (by first | exact HMIN.out | (rw [HDL.out]; show k - k = min (n1 - k) 0; omega)) (fun hp => absurd hp (by rw [HDL.out]; omega)) (by rw [HDL.out]; have := HM1.out; have := HN1.out; omega) (fun u hu => HONE.out u (List.mem_of_mem_drop hu)) ?_
      intro w6 r1 r2
      go_upto_region 6 with (fail)
      have yL6 := r2.cell (show w5.drew.cell? _ = _ from HYL5.out) (by simp; omega)
      have yS6 := r2.cell (show w5.drew.cell? _ = _ from HYS5.out) (by simp; omega)
      have f6 := r1.frozenAt k
      have hk6 : k < (Go.splice (vals ++ [Value.slice none 0 0]) m1 (vals.drop k)).length := by rw [r1.1]; omega
      have x6 : w6.cell? ⟨g4, k, none⟩ = some ((Go.splice (vals ++ [Value.slice none 0 0]) m1 (vals.drop k))[k]) := by
        rw [r1.cellAt k (by omega), List.getElem?_eq_getElem hk6]
      generalize (Go.splice (vals ++ [Value.slice none 0 0]) m1 (vals.drop k))[k] = u6 at x6
      have i6 : (k : Int) < (n1 : Int) := by have := HN1.out; omega
      have HR1 := Lib.hid r1
      have HR2 := Lib.hid r2
      clear r1 r2 yL5 yS5
      go_upto_region 7 with (fail)
      have t1 := HR1.out.stored k (Value.slice sa s.length cs)
      have yL7 := t1.2.cell yL6 (by simp; omega)
      generalize w6.setCell ⟨g4, k, none⟩ (Value.slice sa s.length cs) = w7 at t1 yL7 ⊢
      have HT1 := Lib.hid t1
      clear t1 yL6 yS6 x6 f6
      go_wp2
      go_ret
      have hgw7 := grown_more (grown_more HGW5.out (grownBy_trans (grownBy_drew _ _) HR2.out) HG4.out) HT1.out.2 HG4.out
      have hlen : (rows.take k ++ [s] ++ rows.drop k).length = n1 := by simp only [List.length_append, List.length_take, List.length_drop, HPL.out, List.length_singleton]; have := HN1.out; omega
      refine ⟨_, _, by rw [HV.out, hlen]; rfl, vals.take k ++ [Value.slice sa s.length cs] ++ vals.drop k, ?_, ?_, hgw7⟩
      · rw [HV.out, hlen, ← put_vals vals (Value.slice none 0 0) (Value.slice sa s.length cs) k (by rw [HVL.out]; omega), ← HM1.out]
        exact HT1.out.1
      · rw [HV.out]
        exact ShapesIn.put (HIN.out.grown HOW.out hgw7) (ShpAt.grown ⟨sa, cs, rfl, HSO.out⟩ HOW.out hgw7) k
end Go.Proofs.YtajmdgcnnipdoaaGreatDoor

/- L3Put: the walk of the reference's l3Put: a shape put into an ascending list of shapes, once. -/
namespace Go.Proofs.YtajmdgcnnipdoaaGreatDoor
open Go.RowKit

attribute [local go_sem ↓] Go.wp_at_zero Go.wp_at_succ

theorem putKS_succ (l : List (List Cl)) (n : List Cl) (k : Nat) : putKG ltS l n (k + 1) = if ltS n (l.getD k default) = true then putKG ltS l n k else k + 1 := rfl

set_option maxRecDepth 100000 in
set_option maxHeartbeats 6400000 in
theorem l3Put_any (base gp c : Nat) (rows : List (List Cl)) (vals : List Value) (sa : Option Addr) (cs : Nat) (s : List Cl) (w : World) (hl : rows.length ≤ 1000) (hrl : ∀ r ∈ rows, r.length ≤ 1000) (hs1 : s.length ≤ 1000) (hbase : base ≤ w.heap.size)
    (hown : w.ownsRow base 40 1 (.slice (some ⟨gp, 0, none⟩) rows.length c) rows.length vals) (hin : ShapesIn w base vals rows) (hso : w.ownsRow base 91 2 (.slice sa s.length cs) s.length (cls s)) :
    Calls Tryz.prog 143 #[.slice (some ⟨gp, 0, none⟩) rows.length c, .slice sa s.length cs] w fun e w' => ∃ g' c', e = .returned (.slice (some ⟨g', 0, none⟩) (putG ltS rows s).length c') ∧ ∃ vals', w'.ownsRow base 40 1 (.slice (some ⟨g', 0, none⟩) (putG ltS rows s).length c') (putG ltS rows s).length vals' ∧ ShapesIn w' base vals' (putG ltS rows s) ∧ Below w.heap.size w w' := by
  obtain ⟨hcap, _⟩ := ownsRow_le_cap hown
  have hgp := (hown.lt gp rfl).2
  have hvl := All2.length hin
  obtain ⟨n, hn⟩ : ∃ n, n = rows.length := ⟨_, rfl⟩
  rw [← hn] at hl hown hcap hvl ⊢
  have HPL := Lib.hid hn.symm
  have HVL := Lib.hid hvl
  have HRL := Lib.hid hrl
  have HOW := Lib.hid hown
  have HPC := Lib.hid (ownsRow_cellsAt hown)
  have HIN := Lib.hid hin
  have HONE := Lib.hid (shps_one hin)
  have HSO := Lib.hid hso
  have HSC := Lib.hid (ownsRow_cellsAt hso)
  have hstart : putKG ltS rows s rows.length = putKG ltS rows s n := by rw [hn]
  have HSTA := Lib.hid hstart
  clear hown hn hstart hvl hin hso hrl
  go_enter Tryz.func143, Tryz.ntmps143
  go_wp2
  go_loopw [5] (fun i wr => ∃ j : Nat, j ≤ n ∧ i = .int .i64 j ∧ putKG ltS rows s rows.length = putKG ltS rows s j ∧ Below w.heap.size w wr) (fun i _ => (intOf i).toNat)
  case atStart => exact ⟨n, Nat.le_refl _, rfl, HSTA.out, Below.refl _ _⟩
  case round =>
    obtain ⟨j, hj, rfl, hput, hbx⟩ := hrel
    have hszx := hbx.size
    have HPUT := Lib.hid hput
    have HBR := Lib.hid hbx
    clear hput hbx
    by_cases hj0 : 1 ≤ j
    · obtain ⟨m, hm⟩ : ∃ m, m = j - 1 := ⟨_, rfl⟩
      have hmP : m < rows.length := by rw [HPL.out]; omega
      have hs := putKS_succ rows s m
      rw [show m + 1 = j by omega, getDG hmP] at hs
      obtain ⟨v, hv1, ai, ci, rfl, hv2⟩ := All2.at HIN.out hmP
      have hx1 := HRL.out _ (List.getElem_mem hmP)
      have hcell := HOW.out.cellAt m (by omega)
      rw [hv1] at hcell
      have x0 := (HBR.out.cell (p := ⟨gp, m, none⟩) (by simp; omega)).trans hcell
      obtain ⟨x, hx⟩ : ∃ x, x = rows[m] := ⟨_, rfl⟩
      rw [← hx] at x0 hs hv2 hx1
      have HQ := Lib.hid hx
      have HXC := Lib.hid (ownsRow_cellsAt hv2)
      have d1 : decide ((0 : Int) < (j : Int)) = true := by simp; omega
      have d2 : decide (0 < j) = true := by simp; omega
      have i2 : (j : Int) - 1 = (m : Int) := by omega
      have i3 : IntKind.i64.wrap (m : Int) = (m : Int) := IntWalk.i64_in _ (by omega)
      have i4 : (m : Int) < (n : Int) := by omega
      have hjm : j = m + 1 := by omega
      have HJM := Lib.hid hjm
      have hmj : m < j := by omega
      have HS := Lib.hid hs
      have hcmp := specCmp sa ai cs ci s x wr hs1 (HSC.out.below HBR.out) (HXC.out.below HBR.out)
      have hneg := cmpS_neg (a := s) (b := x)
      generalize cmpS s x = cv at hcmp hneg
      have HCMP := Lib.hid hcmp
      clear hm hjm hs hx hv1 hv2 hcell hcmp
      cases hlt2 : ltS s x with
      | true =>
        have hc0 := hneg.2 hlt2
        have dc : decide (cv < 0) = true := decide_eq_true hc0
        clear hneg
        go_wp2_with fail
        refine HCMP.out.mono ?_
        rintro e wx ⟨rfl, hbx⟩
        have HBX := Lib.hid (HBR.out.trans (hbx.mono hszx))
        clear hbx
        go_wp2
        go_roundw
        case rel => exact ⟨m, by omega, by go_num, by rw [HPUT.out, HS.out, if_pos hlt2], HBX.out⟩
        case measure => simp [intOf]; omega
      | false =>
        have hc0 : ¬ cv < 0 := fun h => by rw [hneg.1 h] at hlt2; cases hlt2
        have dc : decide (cv < 0) = false := decide_eq_false hc0
        clear hneg
        go_wp2_with fail
        refine HCMP.out.mono ?_
        rintro e wx ⟨rfl, hbx⟩
        have HBX := Lib.hid (HBR.out.trans (hbx.mono hszx))
        have x0 := (hbx.cell (p := ⟨gp, m, none⟩) (by simp; omega)).trans x0
        clear hbx
        by_cases heq : x = s
        · have hv : putG ltS rows s = rows := by
            unfold putG
            rw [if_pos]
            rw [HPUT.out, HS.out, if_neg (by rw [hlt2]; simp)]
            exact ⟨by omega, by rw [show j - 1 = m by have := HJM.out; omega, getDG (by rw [HPL.out]; omega), ← HQ.out]; exact heq⟩
          have heqs := fun w' h1 h2 => specEqS ai sa ci cs x s w' hx1 h1 h2
          rw [decide_eq_true heq] at heqs
          have HEQ := Lib.hid heqs
          have HV := Lib.hid hv
          clear hv heq heqs
          go_wp2_with fail
          refine (HEQ.out wx (HXC.out.below HBX.out) (HSC.out.below HBX.out)).mono ?_
          rintro e w6 ⟨rfl, hb6⟩
          have hb7 := HBX.out.trans (hb6.mono HBX.out.size)
          go_wp2
          go_ret
          refine ⟨gp, c, by rw [HV.out, HPL.out]; rfl, vals, ?_, ?_, hb7⟩
          · rw [HV.out, HPL.out]
            exact ownsRow_far_below HOW.out hb7 (Nat.le_refl _)
          · rw [HV.out]
            exact HIN.out.below hb7
        · have hv : putG ltS rows s = rows.take j ++ [s] ++ rows.drop j := by
            unfold putG
            rw [if_neg]
            · rw [HPUT.out, HS.out, if_neg (by rw [hlt2]; simp)]; simp
            · rw [HPUT.out, HS.out, if_neg (by rw [hlt2]; simp), show j - 1 = m by have := HJM.out; omega, getDG (by rw [HPL.out]; omega), ← HQ.out]
              exact fun h => heq h.2
          have heqs := fun w' h1 h2 => specEqS ai sa ci cs x s w' hx1 h1 h2
          rw [decide_eq_false heq] at heqs
          have HEQ := Lib.hid heqs
          have HV := Lib.hid hv
          clear hv heq heqs
          go_wp2_with fail
          refine (HEQ.out wx (HXC.out.below HBX.out) (HSC.out.below HBX.out)).mono ?_
          rintro e w6 ⟨rfl, hb6⟩
          have hb7 := HBX.out.trans (hb6.mono HBX.out.size)
          have HBX := Lib.hid hb7
          clear hb6 hb7
          go_wp2
          have i1 : (0 : Int) ≤ (j : Int) := by omega
          have i2 : (j : Int) ≤ (c : Int) := by omega
          have i3 : (j : Int) ≤ (n : Int) := by omega
          have HT := Lib.hid (show CellsAt w6 (some ⟨gp, 0, none⟩) (vals.take j) from (HPC.out.below HBX.out).take j)
          have HD := Lib.hid (show CellsAt w6 (if c = j then some ⟨gp, 0, none⟩ else some ⟨gp, 0 + j, none⟩) (vals.drop j) by
            have := cellsAt_dropIf2 (c := c) (k := j) (n := j) (size := 1) (HPC.out.below HBX.out) (by omega) (by rw [HVL.out]; omega)
            rw [Nat.mul_one] at this
            exact this)
          have HLT := Lib.hid (show (vals.take j).length = j * 1 by rw [List.length_take, HVL.out]; omega)
          have HLD := Lib.hid (show (vals.drop j).length = (n - j) * 1 by rw [List.length_drop, HVL.out]; omega)
          have HLV := Lib.hid (show (rows.take j ++ [s] ++ rows.drop j).length = j + 1 + (n - j) by simp only [List.length_append, List.length_take, List.length_drop, HPL.out, List.length_singleton]; omega)
          have ho1 := fun u hu => HONE.out u (List.mem_of_mem_take (i := j) hu)
          have ho2 := fun u hu => HONE.out u (List.mem_of_mem_drop (i := j) hu)
          have HO1 := Lib.hid ho1
          have HO2 := Lib.hid ho2
          clear ho1 ho2
          go_region_held3 (fun _ => True) (trivial)
            (first
              | (refine step_app0 rfl (.tmp 34) (.tmp 37) 27 rfl w6.heap.size 40 _ 1 24 Tryz.elemShp _ (by rfl) (by first | exact empty_a (w := w6) (by rfl) | exact empty_b (w := w6) (by rfl) | exact empty_c (w := w6) (by rfl)) _ j c (vals.take j) (by rfl) (fun h => by cases h) HLT.out (CellsAt.below HT.out (by first | exact below_one (by rfl) rfl rfl rfl | exact below_two (by rfl) rfl rfl rfl)) HO1.out (by unfold maxLen; omega) (by omega) (by first | omega | (simp; done) | (simp; omega)) ?_; intro a1 c1 w1 p1 p2 p3; have B1 : Below w6.heap.size w6 w1 := Below.trans (by first | exact below_one (by rfl) rfl rfl rfl | exact below_two (by rfl) rfl rfl rfl) p2; have hz1 := B1.size)
              | (refine step_appN rfl (.tmp 38) (.tmp 40) 27 rfl w6.heap.size 40 _ 1 24 Tryz.elemShp (.slice a1 j c1) j (vals.take j) (by rfl) (by first | exact p1.alloc _ | exact p1) _ 1 1 (#[Value.slice sa s.length cs]).toList (by rfl) (fun h => by cases h) (by rfl) (by first | exact elem_a (cs := #[Value.slice sa s.length cs]) (w := w1) (by rfl) | exact elem_b (cs := #[Value.slice sa s.length cs]) (w := w6) (by rfl) p3 (by rfl) | exact elem_c (cs := #[Value.slice sa s.length cs]) (w := w6) (by rfl) p3 (by rfl)) (by simp [Value.oneCell']) (by unfold maxLen; omega) (by omega) (by first | omega | (simp; done) | (simp; omega)) ?_; intro a2 c2 w2 r1 r2 r3; have B2 : Below w6.heap.size w6 w2 := (by first | exact B1.trans r2 | exact (B1.alloc hz1 _).trans r2); have hz2 := B2.size)
              | (refine step_appN rfl (.tmp 41) (.tmp 44) 27 rfl w6.heap.size 40 _ 1 24 Tryz.elemShp (.slice a2 (j + 1) c2) (j + 1) (vals.take j ++ (#[Value.slice sa s.length cs]).toList) (by rfl) r1 (if c = j then some ⟨gp, 0, none⟩ else some ⟨gp, 0 + j, none⟩) (n - j) (c - j) (vals.drop j) (by first | rfl | (simp only [Nat.zero_add]; rfl)) (fun h => by split at h <;> cases h) HLD.out (HD.out.below B2) HO2.out (by unfold maxLen; omega) (by omega) (by first | omega | (simp; done) | (simp; omega)) ?_; intro a3 c3 w3 s1 s2 s3))
          all_goals go_wp2
          all_goals (
            go_ret
            obtain ⟨g3, hg3⟩ := row_some s1 (by omega)
            subst hg3
            have hb3 := HBX.out.trans ((B2.trans s2).mono HBX.out.size)
            refine ⟨g3, c3, by rw [HV.out, HLV.out]; rfl, vals.take j ++ [Value.slice sa s.length cs] ++ vals.drop j, ?_, ?_, hb3⟩
            · rw [HV.out, HLV.out]
              exact ownsRow_rebase s1 (by have := HBX.out.size; omega)
            · rw [HV.out]
              exact (HIN.out.below hb3).put (ShpAt.below ⟨sa, cs, rfl, HSO.out⟩ hb3) j)
    · have d1 : decide ((0 : Int) < (j : Int)) = false := by simp; omega
      have d2 : decide (0 < j) = false := by simp; omega
      have hv : putG ltS rows s = rows.take j ++ [s] ++ rows.drop j := by
        obtain rfl : j = 0 := by omega
        unfold putG
        rw [HPUT.out]
        rw [if_neg (by exact fun h => absurd h.1 (by show ¬ 0 < 0; omega))]
        rfl
      have HV := Lib.hid hv
      have HBX := HBR
      clear hv
      go_wp2
      have i1 : (0 : Int) ≤ (j : Int) := by omega
      have i2 : (j : Int) ≤ (c : Int) := by omega
      have i3 : (j : Int) ≤ (n : Int) := by omega
      have HT := Lib.hid (show CellsAt wr (some ⟨gp, 0, none⟩) (vals.take j) from (HPC.out.below HBX.out).take j)
      have HD := Lib.hid (show CellsAt wr (if c = j then some ⟨gp, 0, none⟩ else some ⟨gp, 0 + j, none⟩) (vals.drop j) by
        have := cellsAt_dropIf2 (c := c) (k := j) (n := j) (size := 1) (HPC.out.below HBX.out) (by omega) (by rw [HVL.out]; omega)
        rw [Nat.mul_one] at this
        exact this)
      have HLT := Lib.hid (show (vals.take j).length = j * 1 by rw [List.length_take, HVL.out]; omega)
      have HLD := Lib.hid (show (vals.drop j).length = (n - j) * 1 by rw [List.length_drop, HVL.out]; omega)
      have HLV := Lib.hid (show (rows.take j ++ [s] ++ rows.drop j).length = j + 1 + (n - j) by simp only [List.length_append, List.length_take, List.length_drop, HPL.out, List.length_singleton]; omega)
      have ho1 := fun u hu => HONE.out u (List.mem_of_mem_take (i := j) hu)
      have ho2 := fun u hu => HONE.out u (List.mem_of_mem_drop (i := j) hu)
      have HO1 := Lib.hid ho1
      have HO2 := Lib.hid ho2
      clear ho1 ho2
      go_region_held3 (fun _ => True) (trivial)
        (first
          | (refine step_app0 rfl (.tmp 34) (.tmp 37) 27 rfl wr.heap.size 40 _ 1 24 Tryz.elemShp _ (by rfl) (by first | exact empty_a (w := wr) (by rfl) | exact empty_b (w := wr) (by rfl) | exact empty_c (w := wr) (by rfl)) _ j c (vals.take j) (by rfl) (fun h => by cases h) HLT.out (CellsAt.below HT.out (by first | exact below_one (by rfl) rfl rfl rfl | exact below_two (by rfl) rfl rfl rfl)) HO1.out (by unfold maxLen; omega) (by omega) (by first | omega | (simp; done) | (simp; omega)) ?_; intro a1 c1 w1 p1 p2 p3; have B1 : Below wr.heap.size wr w1 := Below.trans (by first | exact below_one (by rfl) rfl rfl rfl | exact below_two (by rfl) rfl rfl rfl) p2; have hz1 := B1.size)
          | (refine step_appN rfl (.tmp 38) (.tmp 40) 27 rfl wr.heap.size 40 _ 1 24 Tryz.elemShp (.slice a1 j c1) j (vals.take j) (by rfl) (by first | exact p1.alloc _ | exact p1) _ 1 1 (#[Value.slice sa s.length cs]).toList (by rfl) (fun h => by cases h) (by rfl) (by first | exact elem_a (cs := #[Value.slice sa s.length cs]) (w := w1) (by rfl) | exact elem_b (cs := #[Value.slice sa s.length cs]) (w := wr) (by rfl) p3 (by rfl) | exact elem_c (cs := #[Value.slice sa s.length cs]) (w := wr) (by rfl) p3 (by rfl)) (by simp [Value.oneCell']) (by unfold maxLen; omega) (by omega) (by first | omega | (simp; done) | (simp; omega)) ?_; intro a2 c2 w2 r1 r2 r3; have B2 : Below wr.heap.size wr w2 := (by first | exact B1.trans r2 | exact (B1.alloc hz1 _).trans r2); have hz2 := B2.size)
          | (refine step_appN rfl (.tmp 41) (.tmp 44) 27 rfl wr.heap.size 40 _ 1 24 Tryz.elemShp (.slice a2 (j + 1) c2) (j + 1) (vals.take j ++ (#[Value.slice sa s.length cs]).toList) (by rfl) r1 (if c = j then some ⟨gp, 0, none⟩ else some ⟨gp, 0 + j, none⟩) (n - j) (c - j) (vals.drop j) (by first | rfl | (simp only [Nat.zero_add]; rfl)) (fun h => by split at h <;> cases h) HLD.out (HD.out.below B2) HO2.out (by unfold maxLen; omega) (by omega) (by first | omega | (simp; done) | (simp; omega)) ?_; intro a3 c3 w3 s1 s2 s3))
      all_goals go_wp2
      all_goals (
        go_ret
        obtain ⟨g3, hg3⟩ := row_some s1 (by omega)
        subst hg3
        have hb3 := HBX.out.trans ((B2.trans s2).mono HBX.out.size)
        refine ⟨g3, c3, by rw [HV.out, HLV.out]; rfl, vals.take j ++ [Value.slice sa s.length cs] ++ vals.drop j, ?_, ?_, hb3⟩
        · rw [HV.out, HLV.out]
          exact ownsRow_rebase s1 (by have := HBX.out.size; omega)
        · rw [HV.out]
          exact (HIN.out.below hb3).put (ShpAt.below ⟨sa, cs, rfl, HSO.out⟩ hb3) j)
end Go.Proofs.YtajmdgcnnipdoaaGreatDoor
