/- AllTB: parts laid together: TorShP, TorB. -/
import Derived.Test.YtajmdgcnnipdoaaGreatDoorAllShift
import Derived.Test.YtajmdgcnnipdoaaGreatDoorAllCov
import Derived.Test.YtajmdgcnnipdoaaGreatDoorAllCv
import Derived.Test.YtajmdgcnnipdoaaGreatDoorAllCnt
import Derived.Test.YtajmdgcnnipdoaaGreatDoorAllTor
import Derived.Test.YtajmdgcnnipdoaaGreatDoorAllPlane
import Derived.Test.YtajmdgcnnipdoaaGreatDoorAllD0
import Derived.Lib.QuietBelow
import Derived.Deep.DrawnRows

/- TorShP: the masks of a torus' tiling, moved, are apart and keep their size; plain. -/
namespace Go.Proofs.YtajmdgcnnipdoaaGreatDoor
open Go.RowKit

/-- A mask, moved. -/
def smI (W H x y m : Nat) : Nat := smSum W H x y (smBits (W * H) m)
theorem smOr_bits (a b x y : Nat) : ∀ (l : List Nat) (s i : Nat), (l.foldl (fun s i => s ||| 2 ^ smPos a b x y i) s).testBit i = true ↔ s.testBit i = true ∨ ∃ j ∈ l, i = smPos a b x y j
  | [], s, i => by simp
  | j :: l, s, i => by
    rw [List.foldl_cons, smOr_bits a b x y l, Nat.testBit_or, Nat.testBit_two_pow, Bool.or_eq_true, decide_eq_true_iff]
    constructor
    · rintro ((h | h) | ⟨k, hk, e⟩)
      · exact Or.inl h
      · exact Or.inr ⟨j, List.mem_cons_self, h.symm⟩
      · exact Or.inr ⟨k, List.mem_cons_of_mem _ hk, e⟩
    · rintro (h | ⟨k, hk, e⟩)
      · exact Or.inl (Or.inl h)
      · rcases List.mem_cons.1 hk with q | q
        · exact Or.inl (Or.inr (by rw [e, q]))
        · exact Or.inr ⟨k, q, e⟩
theorem mem_smBits {n m i : Nat} : i ∈ smBits n m ↔ i < n ∧ m.testBit i = true := by
  unfold smBits
  rw [List.mem_filter, List.mem_range]
theorem smI_bits {W H x y : Nat} (hW : 0 < W) (hx : x < W) (hy : y < H) (m i : Nat) : (smI W H x y m).testBit i = true ↔ ∃ j, (j < W * H ∧ m.testBit j = true) ∧ i = smPos W H x y j := by
  unfold smI
  rw [← smOr_eq hW hx hy (Nat.le_refl _)]
  unfold smOr
  rw [smOr_bits]
  constructor
  · rintro (h | ⟨j, hj, e⟩)
    · rw [Nat.zero_testBit] at h; cases h
    · exact ⟨j, mem_smBits.1 hj, e⟩
  · rintro ⟨j, hj, e⟩
    exact Or.inr ⟨j, mem_smBits.2 hj, e⟩
theorem smI_or {W H x y : Nat} (hW : 0 < W) (hx : x < W) (hy : y < H) (a b : Nat) : smI W H x y (a ||| b) = smI W H x y a ||| smI W H x y b := by
  refine Nat.eq_of_testBit_eq fun i => ?_
  rw [Bool.eq_iff_iff, Nat.testBit_or, Bool.or_eq_true, smI_bits hW hx hy, smI_bits hW hx hy, smI_bits hW hx hy]
  constructor
  · rintro ⟨j, ⟨h1, h2⟩, e⟩
    rw [Nat.testBit_or, Bool.or_eq_true] at h2
    rcases h2 with h2 | h2
    · exact Or.inl ⟨j, ⟨h1, h2⟩, e⟩
    · exact Or.inr ⟨j, ⟨h1, h2⟩, e⟩
  · rintro (⟨j, ⟨h1, h2⟩, e⟩ | ⟨j, ⟨h1, h2⟩, e⟩)
    · exact ⟨j, ⟨h1, by rw [Nat.testBit_or, h2]; rfl⟩, e⟩
    · exact ⟨j, ⟨h1, by rw [Nat.testBit_or, h2, Bool.or_true]⟩, e⟩
theorem smI_apart {W H x y : Nat} (hW : 0 < W) (hx : x < W) (hy : y < H) {a b : Nat} (h : a &&& b = 0) : smI W H x y a &&& smI W H x y b = 0 := by
  rw [apart_iff]
  intro i hi
  obtain ⟨j, ⟨h1, h2⟩, e⟩ := (smI_bits hW hx hy a i).1 hi
  rw [Bool.eq_false_iff]
  intro hb
  obtain ⟨k, ⟨h3, h4⟩, e2⟩ := (smI_bits hW hx hy b i).1 hb
  have e3 := smPos_inj hW hx hy h1 h3 (e.symm.trans e2)
  rw [e3] at h2
  rw [apart_iff.1 h k h2] at h4
  cases h4
theorem smI_lt {W H x y : Nat} (hW : 1 ≤ W ∧ W ≤ 5) (hH : 1 ≤ H ∧ H ≤ 5) (hx : x < W) (hy : y < H) (m : Nat) : smI W H x y m < 33554432 := by
  unfold smI
  rw [← smOr_eq (by omega) hx hy (Nat.le_refl _)]
  exact smOr_le (by omega) (by omega) (Nat.mul_le_mul hW.2 hH.2) _
theorem pc_smBits {n m : Nat} (hn : n ≤ 36) (hm : m < 2 ^ n) : pc m = (smBits n m).length := by
  rw [← smBits_of_zero n m 36 hn (Nat.div_eq_of_lt hm)]
  unfold pc smBits
  rw [List.countP_eq_length_filter]
theorem pc_sum (f : Nat → Nat) : ∀ (l : List Nat) (s : Nat), l.Pairwise (fun i j => f i ≠ f j) → (∀ i ∈ l, s.testBit (f i) = false) → (∀ i ∈ l, f i < 36) → pc (l.foldl (fun s i => s + 2 ^ f i) s) = pc s + l.length
  | [], s, _, _, _ => rfl
  | i :: l, s, h1, h2, h3 => by
    rw [List.pairwise_cons] at h1
    have hb := h2 i List.mem_cons_self
    rw [List.foldl_cons, pc_sum f l _ h1.2 (fun j hj => by
      rw [← or_two_pow hb, Nat.testBit_or, h2 j (List.mem_cons_of_mem _ hj), Nat.testBit_two_pow, decide_eq_false (h1.1 j hj)]
      rfl) (fun j hj => h3 j (List.mem_cons_of_mem _ hj)), pc_add hb (h3 i List.mem_cons_self), List.length_cons]
    omega
theorem smI_pc {W H x y : Nat} (hW : 1 ≤ W ∧ W ≤ 5) (hH : 1 ≤ H ∧ H ≤ 5) (hx : x < W) (hy : y < H) {m : Nat} (hm : m < 2 ^ (W * H)) : pc (smI W H x y m) = pc m := by
  have h25 : W * H ≤ 5 * 5 := Nat.mul_le_mul hW.2 hH.2
  rw [pc_smBits (by omega) hm]
  unfold smI smSum
  rw [pc_sum (smPos W H x y) _ 0 ?_ (fun i _ => Nat.zero_testBit _) (fun i _ => ?_), pc_zero, Nat.zero_add]
  · have hnd : (smBits (W * H) m).Pairwise (· ≠ ·) := smBits_nodup _ m
    refine List.Pairwise.imp_of_mem ?_ hnd
    intro i j hi hj hne he
    exact hne (smPos_inj (by omega) hx hy (smBits_lt hi) (smBits_lt hj) he)
  · have := smPos_lt (x := x) (y := y) (i := i) (show 0 < W by omega) (show 0 < H by omega)
    omega
theorem shR_in {W H x y : Nat} (hW : 1 ≤ W ∧ W ≤ 5) (hH : 1 ≤ H ∧ H ≤ 5) (hx : x < W) (hy : y < H) {m : Nat} (hm : m < 2 ^ (W * H)) : shR W H m x y = (smI W H x y m : Nat) := by
  have h : ShRange W H m x y := by
    unfold ShRange
    rw [Int.toNat_natCast, Int.toNat_natCast]
    have h1 : ((2 : Int) ^ (W * H)) = ((2 ^ (W * H) : Nat) : Int) := by norm_cast
    rw [h1]
    omega
  unfold shR smI
  rw [if_pos h, Int.toNat_natCast, Int.toNat_natCast, Int.toNat_natCast, Int.toNat_natCast, Int.toNat_natCast]
theorem covTo_all {A l : List Int} {n : Nat} (h : covTo A l n = true) {k : Nat} (hk : k < n) : covStep A l k = true := by
  cases hc : covStep A l k with
  | true => rfl
  | false =>
    have h1 : covTo A l (k + 1) = false := by rw [covTo, hc, Bool.and_false]
    rw [covTo_false h1 hk] at h
    cases h
/-- The moved masks of a tiling. -/
theorem tt_moved {W H : Nat} {ps : List (List Cl)} {l : List Int} (hW : 1 ≤ W ∧ W ≤ 5) (hH : 1 ≤ H ∧ H ≤ 5) (ht : ttR W H ps l = true) {x y : Nat} (hx : x < W) (hy : y < H) : ∀ k, ∀ hk : k < l.length, ∃ v : Nat, l[k] = (v : Int) ∧ v < 2 ^ 36 ∧
      ∃ m : Nat, m < 33554432 ∧ shR W H l[k] x y = (m : Int) ∧ pc m = pc v ∧ m &&& smI W H x y (usedTo l k) = 0 ∧ smI W H x y (usedTo l (k + 1)) = smI W H x y (usedTo l k) ||| m := by
  intro k hk
  by_cases hp : Pcs ps
  · rw [ttR_yes hW hH hp] at ht
    unfold covL at ht
    rw [Bool.and_eq_true] at ht
    have h1 := covTo_all ht.1 hk
    rw [covStep_at _ _ _ hk, Bool.and_eq_true, Bool.and_eq_true] at h1
    have hv := of_decide_eq_true h1.1
    have hu := of_decide_eq_true h1.2.1
    have h25 : W * H ≤ 5 * 5 := Nat.mul_le_mul hW.2 hH.2
    obtain ⟨h0, hlt⟩ := torAll_mk (by omega : 0 < W) (by omega : 0 < H) ps _ hv
    have hpw : 2 ^ (W * H) ≤ 2 ^ 25 := Nat.pow_le_pow_right (by decide) h25
    obtain ⟨v, hv2⟩ := Int.eq_ofNat_of_zero_le (Int.le_of_lt h0)
    have hvlt : v < 2 ^ (W * H) := by rw [hv2] at hlt; exact_mod_cast hlt
    have hve : l[k].toNat = v := by rw [hv2, Int.toNat_natCast]
    rw [hve] at hu
    refine ⟨v, hv2, by omega, smI W H x y v, smI_lt hW hH hx hy v, ?_, smI_pc hW hH hx hy hvlt, ?_, ?_⟩
    · rw [hv2, shR_in hW hH hx hy hvlt]
    · rw [Nat.and_comm]; exact smI_apart (by omega) hx hy hu
    · rw [← usedTo_at l k hk, hve, smI_or (by omega) hx hy]
  · rw [ttR_no (fun q => hp q.2)] at ht
    cases ht
theorem tt_side {x y : Int} {ps : List (List Cl)} {l : List Int} (ht : ttR x y ps l = true) : (1 ≤ x ∧ x ≤ 5) ∧ 1 ≤ y ∧ y ≤ 5 := by
  by_cases h : (1 ≤ x ∧ x ≤ 5 ∧ 1 ≤ y ∧ y ≤ 5) ∧ Pcs ps
  · exact ⟨⟨h.1.1, h.1.2.1⟩, h.1.2.2⟩
  · rw [ttR_no h] at ht; cases ht
/-- What the law says of the tilings of a torus. -/
theorem tor_law (x y : Int) (ps : List (List Cl)) : decide (0 < ctR x y ps) = someT (torF x y ps) ∧ (someT (torF x y ps) = true → ttR x y ps (firstT (torF x y ps)) = true) ∧ -1 ≤ ctR x y ps ∧ ctR x y ps ≤ 2000 := by
  by_cases hok : TorOk x y ps
  · have e1 : ctR x y ps = ((min 2000 (torF x y ps).length : Nat) : Int) := if_pos hok
    refine ⟨?_, fun h => ?_, by omega, by omega⟩
    · rw [e1]
      generalize torF x y ps = F
      cases F with
      | nil => rfl
      | cons f F => rw [decide_eq_true (by rw [List.length_cons]; omega)]; rfl
    · obtain ⟨⟨h1, h2, h3, h4⟩, hp⟩ := hok
      obtain ⟨W, rfl⟩ := Int.eq_ofNat_of_zero_le (show 0 ≤ x by omega)
      obtain ⟨H, rfl⟩ := Int.eq_ofNat_of_zero_le (show 0 ≤ y by omega)
      have hW : 1 ≤ W ∧ W ≤ 5 := by omega
      have hH : 1 ≤ H ∧ H ≤ 5 := by omega
      have h25 : W * H ≤ 5 * 5 := Nat.mul_le_mul hW.2 hH.2
      have hpw : 2 ^ (W * H) ≤ 2 ^ 25 := Nat.pow_le_pow_right (by decide) h25
      have hm : firstT (torF (W : Int) (H : Int) ps) ∈ torF (W : Int) (H : Int) ps := by
        generalize torF (W : Int) (H : Int) ps = F at h
        cases F with
        | nil => cases h
        | cons f F => exact List.mem_cons_self
      rw [torF_yes hW hH hp] at hm ⊢
      rw [ttR_yes hW hH hp]
      exact srchF_cov (by omega) hm
  · have e1 : ctR x y ps = -1 := if_neg hok
    rw [e1, torF_no hok]
    exact ⟨rfl, fun h => (by cases h), Int.le_refl _, by decide⟩
end Go.Proofs.YtajmdgcnnipdoaaGreatDoor

/- TorB: the walks of the torus' functions at any arguments, and of the law's own 'at'. -/
namespace Go.Proofs.YtajmdgcnnipdoaaGreatDoor
open Go.RowKit

attribute [local go_sem ↓] Go.wp_at_zero Go.wp_at_succ

theorem implCTA (x y : Int) (sa : Option Addr) (cs : Nat) (ps : List (List Cl)) (w : World) (hnp : ps.length ≤ 1048576) (hl : ∀ p ∈ ps, p.length ≤ 1048576) (hT : Tab w) (hcp : ShpsAt w sa ps) :
    Calls Tryz.prog 47 #[.int .i64 x, .int .i64 y, .slice sa ps.length cs] w fun e w' => e = .returned (.int .i64 (ctR x y ps)) ∧ Below w.heap.size w w' := by
  by_cases h : TorOk x y ps
  · obtain ⟨⟨h1, h2, h3, h4⟩, hp⟩ := h
    obtain ⟨W, rfl⟩ := Int.eq_ofNat_of_zero_le (by omega : 0 ≤ x)
    obtain ⟨H, rfl⟩ := Int.eq_ofNat_of_zero_le (by omega : 0 ≤ y)
    exact implCT_yes W H (by omega) (by omega) sa cs ps w hp hT hcp
  · exact implCT_no x y sa cs ps w h hnp hl hcp
theorem specCTA (x y : Int) (sa : Option Addr) (cs : Nat) (ps : List (List Cl)) (w : World) (hnp : ps.length ≤ 1048576) (hl : ∀ p ∈ ps, p.length ≤ 1048576) (hcp : ShpsAt w sa ps) :
    Calls Tryz.prog 50 #[.int .i64 x, .int .i64 y, .slice sa ps.length cs] w fun e w' => e = .returned (.int .i64 (ctR x y ps)) ∧ Below w.heap.size w w' := by
  by_cases h : TorOk x y ps
  · obtain ⟨⟨h1, h2, h3, h4⟩, hp⟩ := h
    obtain ⟨W, rfl⟩ := Int.eq_ofNat_of_zero_le (by omega : 0 ≤ x)
    obtain ⟨H, rfl⟩ := Int.eq_ofNat_of_zero_le (by omega : 0 ≤ y)
    exact specCT_yes W H (by omega) (by omega) sa cs ps w hp hnp hl hcp
  · exact specCT_no x y sa cs ps w h hnp hl hcp
theorem implTTA (x y : Int) (sa : Option Addr) (cs : Nat) (ps : List (List Cl)) (al : Option Addr) (cl : Nat) (l : List Int) (w : World) (hnp : ps.length ≤ 1048576) (hl : ∀ p ∈ ps, p.length ≤ 1048576) (hnl : l.length ≤ 1048576) (hT : Tab w) (hcp : ShpsAt w sa ps) (hcl : CellsAt w al (ints l)) :
    Calls Tryz.prog 41 #[.int .i64 x, .int .i64 y, .slice sa ps.length cs, .slice al l.length cl] w fun e w' => e = .returned (.bool (ttR x y ps l)) ∧ Below w.heap.size w w' := by
  by_cases h : (1 ≤ x ∧ x ≤ 5 ∧ 1 ≤ y ∧ y ≤ 5) ∧ Pcs ps
  · obtain ⟨⟨h1, h2, h3, h4⟩, hp⟩ := h
    obtain ⟨W, rfl⟩ := Int.eq_ofNat_of_zero_le (by omega : 0 ≤ x)
    obtain ⟨H, rfl⟩ := Int.eq_ofNat_of_zero_le (by omega : 0 ≤ y)
    exact implTT_yes W H (by omega) (by omega) sa cs ps al cl l w hp hT hnp hl hnl hcp hcl
  · rw [ttR_no h]
    have q := implTT_no x y sa cs ps al cl l w h hnp hl hnl hcp hcl
    rw [ttR_no h] at q
    exact q
theorem specTTA (x y : Int) (sa : Option Addr) (cs : Nat) (ps : List (List Cl)) (al : Option Addr) (cl : Nat) (l : List Int) (w : World) (hnp : ps.length ≤ 1048576) (hl : ∀ p ∈ ps, p.length ≤ 1048576) (hnl : l.length ≤ 1048576) (hcp : ShpsAt w sa ps) (hcl : CellsAt w al (ints l)) :
    Calls Tryz.prog 42 #[.int .i64 x, .int .i64 y, .slice sa ps.length cs, .slice al l.length cl] w fun e w' => e = .returned (.bool (ttR x y ps l)) ∧ Below w.heap.size w w' := by
  by_cases h : (1 ≤ x ∧ x ≤ 5 ∧ 1 ≤ y ∧ y ≤ 5) ∧ Pcs ps
  · obtain ⟨⟨h1, h2, h3, h4⟩, hp⟩ := h
    obtain ⟨W, rfl⟩ := Int.eq_ofNat_of_zero_le (by omega : 0 ≤ x)
    obtain ⟨H, rfl⟩ := Int.eq_ofNat_of_zero_le (by omega : 0 ≤ y)
    exact specTT_yes W H (by omega) (by omega) sa cs ps al cl l w hp hnp hl hnl hcp hcl
  · rw [ttR_no h]
    have q := specTT_no x y sa cs ps al cl l w h hnp hl hnl hcp hcl
    rw [ttR_no h] at q
    exact q
/-- A list of numbers, of the call's own. -/
def IntsOwn (w : World) (r : List Int) (e : Ending) (w' : World) : Prop :=
  ∃ b0 d0, e = .returned (.slice b0 r.length d0) ∧ w'.ownsRow w.heap.size 3 1 (.slice b0 r.length d0) r.length (ints r) ∧ Below w.heap.size w w'
theorem torPlBoth (a b : Int) (xs : List Cl) (ad : Option Addr) (cap : Nat) (w : World) (hn : xs.length ≤ 1048576) (hc : CellsAt w ad (cls xs)) :
    Calls Tryz.prog 58 #[.int .i64 a, .int .i64 b, .slice ad xs.length cap] w (IntsOwn w (torL a b xs)) ∧ Calls Tryz.prog 57 #[.int .i64 a, .int .i64 b, .slice ad xs.length cap] w (IntsOwn w (torL a b xs)) := by
  unfold IntsOwn
  by_cases hf : 1 ≤ a ∧ a ≤ 5 ∧ 1 ≤ b ∧ b ≤ 5
  · have hd : torL a b xs = putAllG ltI (torTo a.toNat b.toNat (orientL xs) (orientL xs).length) := by unfold torL; rw [if_pos ⟨⟨hf.1, hf.2.1⟩, hf.2.2⟩]
    obtain ⟨A, rfl⟩ := Int.eq_ofNat_of_zero_le (by omega : 0 ≤ a)
    obtain ⟨B, rfl⟩ := Int.eq_ofNat_of_zero_le (by omega : 0 ≤ b)
    simp only [Int.toNat_natCast] at hd
    refine ⟨by rw [hd]; exact specTorus_yes A B (by omega) (by omega) ad cap xs w hn hc, ?_⟩
    by_cases hs : Shape xs
    · rw [hd]
      exact implTorus_yes A B (by omega) (by omega) ad cap xs w hs hn hc
    · have he : orientL xs = [] := by unfold orientL; rw [if_neg hs]
      rw [hd, he]
      exact (implTorus_no _ _ ad cap xs w (fun q => hs q.2) hn hc).mono fun e w' q => ⟨none, 0, q.1, World.ownsRow_nil _ _ _ _, q.2⟩
  · have hd : torL a b xs = [] := by unfold torL; rw [if_neg (by omega)]
    rw [hd]
    exact ⟨specTorus_no a b hf ad cap xs w hn hc, (implTorus_no a b ad cap xs w (fun q => hf q.1) hn hc).mono fun e w' q => ⟨none, 0, q.1, World.ownsRow_nil _ _ _ _, q.2⟩⟩

set_option maxRecDepth 100000 in
set_option maxHeartbeats 1600000 in
theorem lawAt (ad : Option Addr) (cap : Nat) (bs : List Nat) (i : Nat) (w : World) (hi : i ≤ 100) (hn : bs.length ≤ 1048576) (hb : ∀ b ∈ bs, b < 256) (hc : CellsAt w ad (bts bs)) :
    Calls Tryz.prog 43 #[.slice ad bs.length cap, .int .i64 i] w fun e w' => ∃ x : Nat, e = .returned (.int .i64 x) ∧ x < 256 ∧ w' = w := by
  have HC := Lib.hid hc
  have HB := Lib.hid hb
  clear hc hb
  by_cases hlt : i < bs.length
  · have i1 : (i : Int) < (bs.length : Int) := by omega
    obtain ⟨g, off, rfl, hg, hcc⟩ := HC.out.open (by rw [bts_length]; omega)
    have b0 := hcc i _ (bts_at hlt)
    have hb := HB.out _ (List.getElem_mem hlt)
    generalize bs[i] = b at b0 hb
    clear hcc
    go_enter Tryz.func43, Tryz.ntmps43
    go_wp2
    go_ret
    exact ⟨b, rfl, hb, rfl⟩
  · have i1 : ¬ (i : Int) < (bs.length : Int) := by omega
    obtain ⟨p, hp⟩ : ∃ p : Nat, p = i * 37 := ⟨_, rfl⟩
    obtain ⟨q, hq⟩ : ∃ q : Nat, q = bs.length * 11 := ⟨_, rfl⟩
    obtain ⟨s, hs⟩ : ∃ s : Nat, s = p + q := ⟨_, rfl⟩
    obtain ⟨r, hr⟩ : ∃ r : Nat, r = s % 256 := ⟨_, rfl⟩
    have t1 : (i : Int) * 37 = (p : Int) := by rw [hp]; norm_cast
    have t2 : (bs.length : Int) * 11 = (q : Int) := by rw [hq]; norm_cast
    have t3 : (p : Int) + (q : Int) = (s : Int) := by rw [hs]; norm_cast
    have t4 : (s : Int).tmod 256 = (r : Int) := by rw [hr]; norm_cast
    have u1 : IntKind.i64.wrap (p : Int) = (p : Int) := IntWalk.i64_in _ (by omega)
    have u2 : IntKind.i64.wrap (q : Int) = (q : Int) := IntWalk.i64_in _ (by omega)
    have u3 : IntKind.i64.wrap (s : Int) = (s : Int) := IntWalk.i64_in _ (by omega)
    have u4 : IntKind.i64.wrap (r : Int) = (r : Int) := IntWalk.i64_in _ (by omega)
    have hr2 : r < 256 := by omega
    clear hp hq hs hr
    go_enter Tryz.func43, Tryz.ntmps43
    go_wp2
    go_ret
    exact ⟨r, by first | rfl | go_num, hr2, rfl⟩
end Go.Proofs.YtajmdgcnnipdoaaGreatDoor
