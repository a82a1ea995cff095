/- AllD0: parts laid together: Draw0, FrameBts, SameI. -/
import Derived.Test.YtajmdgcnnipdoaaGreatDoorAllBase
import Derived.IntWalk
import Derived.StillTailTactics
import Derived.Deep.DrawnRows
import Derived.Test.YtajmdgcnnipdoaaGreatDoorAllFrame

/- Draw0: the cursor of the reference's drawing functions: l1New, l1Byte, l1Below, l1Once. What is drawn is left open: only its bounds are told. -/
namespace Go.Proofs.YtajmdgcnnipdoaaGreatDoor
open Go.RowKit

attribute [local go_sem ↓] Go.wp_at_zero Go.wp_at_succ

def bts (bs : List Nat) : List Value := bs.map fun b : Nat => Value.int .u8 (b : Int)
theorem bts_length (bs : List Nat) : (bts bs).length = bs.length := by simp [bts]
theorem bts_at {bs : List Nat} {k : Nat} (h : k < bs.length) : (bts bs)[k]? = some (.int .u8 (bs[k] : Int)) := by simp [bts, h]
/-- A cursor over some bytes lies in block g. -/
def Curs (w : World) (g : Nat) (bs : List Nat) : Prop :=
  ∃ (ad : Option Addr) (cap i : Nat) (h : Int), (bts bs = [] ∨ ∀ a, ad = some a → a.block < g) ∧ i ≤ bs.length ∧ bs.length ≤ 1048576 ∧ (∀ b ∈ bs, b < 256) ∧ CellsAt w ad (bts bs) ∧
    w.ownsRow g 117 3 (.slice (some ⟨g, 0, none⟩) 1 1) 1 [.slice ad bs.length cap, .int .i64 i, .int .i64 h]
theorem cells_to {w w' : World} {ad : Option Addr} {l : List Value} {g : Nat} (h : CellsAt w ad l) (ha : l = [] ∨ ∀ a, ad = some a → a.block < g) (hb : ∀ k, k < g → w'.heap[k]? = w.heap[k]?) : CellsAt w' ad l := by
  rcases h with rfl | ⟨b, off, rfl, hc⟩
  · exact .inl rfl
  · rcases ha with ha | ha
    · exact .inl ha
    refine .inr ⟨b, off, rfl, fun j u hu => ?_⟩
    have hlt : b < g := ha _ rfl
    rw [World.cell?_of_block (w := w) (hb b hlt)]
    exact hc j u hu
theorem row_to {w w' : World} {base e size n g cap : Nat} {l : List Value} (h : w.ownsRow base e size (.slice (some ⟨g, 0, none⟩) n cap) n l) (hb : w'.heap[g]? = w.heap[g]?) : w'.ownsRow base e size (.slice (some ⟨g, 0, none⟩) n cap) n l := by
  refine ⟨h.1, ?_⟩
  rcases h.2 with q | ⟨g1, c1, cur, q1, q2, q3, r⟩
  · exact .inl q
  · cases q1
    exact .inr ⟨g, cap, cur, rfl, q2, hb.trans q3, r⟩
theorem Curs.to {w w' : World} {g : Nat} {bs : List Nat} (h : Curs w g bs) (hb : ∀ k, k ≤ g → w'.heap[k]? = w.heap[k]?) : Curs w' g bs := by
  obtain ⟨ad, cap, i, h0, h1, h2, h3, h4, h5, h6⟩ := h
  exact ⟨ad, cap, i, h0, h1, h2, h3, h4, cells_to h5 h1 (fun k hk => hb k (by omega)), row_to h6 (hb g (Nat.le_refl _))⟩
theorem Curs.below {w w' : World} {g B : Nat} {bs : List Nat} (h : Curs w g bs) (hb : Below B w w') (hg : g < B) : Curs w' g bs := h.to fun k hk => hb.block k (by omega)
theorem Curs.lt {w : World} {g : Nat} {bs : List Nat} (h : Curs w g bs) : g < w.heap.size := by
  obtain ⟨_, _, _, _, _, _, _, _, _, h6⟩ := h
  exact (h6.lt g rfl).2
theorem grown_any {w w' : World} {row : Option Nat} (h : Below w.heap.size w w') : w.grownBy w' row := ⟨h.os, h.tape, h.output, h.size, fun k hk _ => h.block k hk⟩
theorem below_grw {w w' : World} {g B : Nat} (h : w.grownBy w' (some g)) (hB : B ≤ w.heap.size) (hg : B ≤ g) : Below B w w' := (Below.refl B w).grown h hB (fun k hk => by cases hk; exact hg)
theorem and_lowD (x : Int) (m : Nat) (hm : m < 4294967296) : 0 ≤ bits .and .i64 x (m : Int) ∧ bits .and .i64 x (m : Int) ≤ m := by
  show 0 ≤ IntKind.i64.wrap ((BitVec.ofInt 64 x &&& BitVec.ofInt 64 (m : Int)).toNat : Int) ∧ IntKind.i64.wrap ((BitVec.ofInt 64 x &&& BitVec.ofInt 64 (m : Int)).toNat : Int) ≤ m
  have h1 : (BitVec.ofInt 64 x &&& BitVec.ofInt 64 (m : Int)).toNat ≤ m := by
    rw [BitVec.toNat_and, ofInt_i64 m (by omega)]
    exact Nat.and_le_right
  generalize (BitVec.ofInt 64 x &&& BitVec.ofInt 64 (m : Int)).toNat = y at h1
  rw [IntWalk.i64_left, IntWalk.wrap64_in _ (by omega)]
  omega
theorem and_255 (x : Int) : ∃ y : Nat, bits .and .i64 x 255 = (y : Int) ∧ y ≤ 255 := by
  have h : 0 ≤ bits .and .i64 x 255 ∧ bits .and .i64 x 255 ≤ 255 := and_lowD x 255 (by decide)
  exact ⟨(bits .and .i64 x 255).toNat, (Int.toNat_of_nonneg h.1).symm, by omega⟩

set_option maxRecDepth 100000 in
set_option maxHeartbeats 1600000 in
theorem drawByte (g : Nat) (bs : List Nat) (w : World) (hc : Curs w g bs) :
    Calls Tryz.prog 134 #[.pointer (some ⟨g, 0, none⟩)] w fun e w' => ∃ x : Nat, e = .returned (.int .i64 x) ∧ x ≤ 255 ∧ Curs w' g bs ∧ w.grownBy w' (some g) := by
  obtain ⟨ad, cap, i, h, h1, h2, h3, h4, h5, h6⟩ := hc
  obtain ⟨u, hu⟩ : ∃ u, wrap64 (wrap64 (h * 6364136223846793005) + 1442695040888963407) = u := ⟨_, rfl⟩
  obtain ⟨x, hx, hx255⟩ := and_255 (bits .xor .i64 (u / 8589934592) (u / 35184372088832))
  obtain ⟨s1, s2⟩ := h6.stored 2 (.int .i64 u)
  have s1' : (w.setCell ⟨g, 2, none⟩ (.int .i64 u)).ownsRow g 117 3 (.slice (some ⟨g, 0, none⟩) 1 1) 1 [.slice ad bs.length cap, .int .i64 i, .int .i64 u] := s1
  have hc1 : CellsAt (w.setCell ⟨g, 2, none⟩ (.int .i64 u)) ad (bts bs) := cells_to h5 h1 (fun k hk => s2.block k (Nat.lt_trans hk (h6.lt g rfl).2) (fun e => by cases e; omega))
  have f2 : w.cell? ⟨g, 2, none⟩ = some (.int .i64 h) := by rw [h6.cellAt 2 (by decide)]; rfl
  have z2 : w.frozen? ⟨g, 2, none⟩ = false := h6.frozenAt 2
  have H1 := Lib.hid h1
  have H4 := Lib.hid h4
  have H5 := Lib.hid hc1
  have H6 := Lib.hid s1'
  have HG := Lib.hid s2
  have y0 : (w.setCell ⟨g, 2, none⟩ (.int .i64 u)).cell? ⟨g, 0, none⟩ = some (.slice ad bs.length cap) := by rw [s1'.cellAt 0 (by decide)]; rfl
  have y1 : (w.setCell ⟨g, 2, none⟩ (.int .i64 u)).cell? ⟨g, 1, none⟩ = some (.int .i64 i) := by rw [s1'.cellAt 1 (by decide)]; rfl
  have y2 : (w.setCell ⟨g, 2, none⟩ (.int .i64 u)).cell? ⟨g, 2, none⟩ = some (.int .i64 u) := by rw [s1'.cellAt 2 (by decide)]; rfl
  have zz1 : (w.setCell ⟨g, 2, none⟩ (.int .i64 u)).frozen? ⟨g, 1, none⟩ = false := s1'.frozenAt 1
  clear h1 h4 h5 h6 s1 s1' s2 hc1
  go_enter Tryz.func134, Tryz.ntmps134
  go_wp2_with fail
  generalize w.setCell ⟨g, 2, none⟩ (.int .i64 u) = w1 at H5 H6 HG y0 y1 y2 zz1 ⊢
  clear hu f2 z2
  by_cases hi : i < bs.length
  · have i1 : (i : Int) < (bs.length : Int) := by omega
    obtain ⟨bg, off, rfl, hbg, hcc⟩ := H5.out.open (by rw [bts_length]; omega)
    have b0 := hcc i _ (bts_at hi)
    have hb := H4.out _ (List.getElem_mem hi)
    generalize bs[i] = b at b0 hb
    obtain ⟨y, hy, hy255⟩ := and_255 ((x : Int) + (b : Int))
    clear hcc
    obtain ⟨t1, t2⟩ := H6.out.stored 1 (.int .i64 ((i : Int) + 1))
    have T1 := Lib.hid (show (w1.setCell ⟨g, 1, none⟩ (.int .i64 ((i : Int) + 1))).ownsRow g 117 3 (.slice (some ⟨g, 0, none⟩) 1 1) 1 [.slice (some ⟨bg, off, none⟩) bs.length cap, .int .i64 ((i + 1 : Nat) : Int), .int .i64 u] from t1)
    have T2 := Lib.hid t2
    have T3 := Lib.hid (cells_to H5.out H1.out (fun k hk => t2.block k (Nat.lt_trans hk (H6.out.lt g rfl).2) (fun e => by cases e; omega)))
    clear t1 t2
    go_region
    go_wp2
    go_region
    go_wp2
    go_region
    go_wp2
    go_ret
    exact ⟨y, rfl, hy255, ⟨some ⟨bg, off, none⟩, cap, i + 1, u, H1.out, hi, h3, H4.out, T3.out, T1.out⟩, grownBy_trans HG.out (grownBy_trans T2.out (grownBy_trans (grownBy_drew _ _) (grownBy_trans (grownBy_drew _ _) (grownBy_drew _ _))))⟩
  · have i1 : ¬ (i : Int) < (bs.length : Int) := by omega
    go_region
    go_wp2
    go_region
    go_wp2
    go_ret
    exact ⟨x, rfl, hx255, ⟨ad, cap, i, u, H1.out, h2, h3, H4.out, H5.out, H6.out⟩, grownBy_trans HG.out (grownBy_trans (grownBy_drew _ _) (grownBy_drew _ _))⟩

set_option maxRecDepth 100000 in
set_option maxHeartbeats 1600000 in
/-- A number below n, n between 1 and 256. -/
theorem drawBelow (g : Nat) (bs : List Nat) (n : Nat) (w : World) (hc : Curs w g bs) (hn : 1 ≤ n ∧ n ≤ 256) :
    Calls Tryz.prog 90 #[.pointer (some ⟨g, 0, none⟩), .int .i64 n] w fun e w' => ∃ x : Nat, e = .returned (.int .i64 x) ∧ x < n ∧ Curs w' g bs ∧ w.grownBy w' (some g) := by
  obtain ⟨hn1, hn2⟩ := hn
  have HC := Lib.hid hc
  clear hc
  go_enter Tryz.func90, Tryz.ntmps90
  go_wp2_with fail
  refine (drawByte g bs w HC.out).mono ?_
  rintro e w1 ⟨x, rfl, hx, hc1, hg1⟩
  have HC1 := Lib.hid hc1
  have HG1 := Lib.hid hg1
  have hmod : (x : Int) % (n : Int) = ((x % n : Nat) : Int) := by norm_cast
  have hlt : x % n < n := Nat.mod_lt _ (by omega)
  generalize x % n = y at hmod hlt
  clear hc1 hg1
  go_wp2
  go_ret
  exact ⟨y, by rw [← hmod]; rfl, hlt, HC1.out, HG1.out⟩

set_option maxRecDepth 100000 in
set_option maxHeartbeats 1600000 in
theorem drawOnce (g : Nat) (bs : List Nat) (n : Nat) (w : World) (hc : Curs w g bs) (hn : 1 ≤ n ∧ n ≤ 256) :
    Calls Tryz.prog 88 #[.pointer (some ⟨g, 0, none⟩), .int .i64 n] w fun e w' => ∃ b : Bool, e = .returned (.bool b) ∧ Curs w' g bs ∧ w.grownBy w' (some g) := by
  have HC := Lib.hid hc
  clear hc
  go_enter Tryz.func88, Tryz.ntmps88
  go_wp2_with fail
  refine (drawBelow g bs n w HC.out hn).mono ?_
  rintro e w1 ⟨x, rfl, hx, hc1, hg1⟩
  have HC1 := Lib.hid hc1
  have HG1 := Lib.hid hg1
  clear hc1 hg1
  go_wp2
  go_ret
  exact ⟨_, rfl, HC1.out, HG1.out⟩

set_option maxRecDepth 100000 in
set_option maxHeartbeats 1600000 in
theorem drawNew (ad : Option Addr) (cap : Nat) (bs : List Nat) (w : World) (hn : bs.length ≤ 1048576) (hb : ∀ b ∈ bs, b < 256) (hc : CellsAt w ad (bts bs)) :
    Calls Tryz.prog 86 #[.slice ad bs.length cap] w fun e w' => ∃ g : Nat, e = .returned (.pointer (some ⟨g, 0, none⟩)) ∧ w.heap.size ≤ g ∧ Curs w' g bs ∧ Below w.heap.size w w' := by
  have HC := Lib.hid hc
  have HB := Lib.hid hb
  clear hc hb
  go_enter Tryz.func86, Tryz.ntmps86
  go_wp2
  go_loopw [3, 4] (fun hv iv wr => ∃ (h : Int) (i : Nat), i ≤ bs.length ∧ hv = .int .i64 h ∧ iv = .int .i64 i ∧ wr = w) (fun _ iv _ => bs.length - (intOf iv).toNat)
  case atStart => exact ⟨_, 0, Nat.zero_le _, rfl, rfl, rfl⟩
  case round =>
    obtain ⟨h, i, hi, rfl, rfl, rfl⟩ := hrel
    by_cases hil : i < bs.length ∧ i < 4000
    · obtain ⟨hil, h4⟩ := hil
      have i1 : (i : Int) < (bs.length : Int) := by omega
      have i2 : (i : Int) < 4000 := by omega
      obtain ⟨g, off, rfl, hg, hcc⟩ := HC.out.open (by rw [bts_length]; omega)
      have x0 := hcc i _ (bts_at hil)
      have hb := HB.out _ (List.getElem_mem hil)
      generalize bs[i] = b at x0 hb
      clear hcc
      go_wp2
      go_roundw
      case rel => exact ⟨_, i + 1, hil, rfl, by go_num, trivial⟩
      case measure => simp [intOf]; omega
    · have hq : ¬ ((i : Int) < (bs.length : Int) ∧ (i : Int) < 4000) := fun q => hil ⟨by omega, by omega⟩
      have hlast : Curs (wr.alloc (.cells #[.slice ad bs.length cap, .int .i64 0, .int .i64 h] 117)) wr.heap.size bs := by
        have hc := HC.out
        refine ⟨ad, cap, 0, h, ?_, Nat.zero_le _, hn, HB.out, ?_, World.ownsRow_lit wr #[.slice ad bs.length cap, .int .i64 0, .int .i64 h] 1 (Nat.le_refl _) (by decide) rfl⟩
        · rcases Nat.eq_zero_or_pos (bts bs).length with q | q
          · exact .inl (List.eq_nil_of_length_eq_zero q)
          · obtain ⟨g, off, rfl, hg, _⟩ := hc.open q
            exact .inr fun a e => by cases e; exact hg
        · exact hc.below ((Below.refl _ _).alloc (Nat.le_refl _) _)
      have HLAST := Lib.hid hlast
      clear hlast
      by_cases h1 : (i : Int) < (bs.length : Int)
      · have h2 : ¬ (i : Int) < 4000 := fun q => hq ⟨h1, q⟩
        clear hq hil
        go_wp2
        go_ret
        exact ⟨_, rfl, Nat.le_refl _, HLAST.out, (Below.refl _ _).alloc (Nat.le_refl _) _⟩
      · clear hq hil
        go_wp2
        go_ret
        exact ⟨_, rfl, Nat.le_refl _, HLAST.out, (Below.refl _ _).alloc (Nat.le_refl _) _⟩
end Go.Proofs.YtajmdgcnnipdoaaGreatDoor

/- FrameBts: an argument that is a list of bytes, opened: its cells. -/
namespace Go.Proofs.YtajmdgcnnipdoaaGreatDoor
open Go.ChangeShapes Go.WideShapes Go.ChangeAt Go.RowKit

theorem Tryz.cellsByte : Tryz.prog.cellsOf 5 = 1 := by kernel_rfl

set_option maxRecDepth 100000 in
theorem openBts {H : Type} {enc : TypeId × Value → H} {W : World} {base : Nat} {v : Value} {d : DataW H} {p : List MemPlace}
    (hv : Value.okWide Tryz.prog W .any base 22 v) (h : DataW.Trod enc Tryz.prog W 0 (fun _ => true) true 22 v d p) :
    ∃ ad cap, ∃ bs : List Nat, v = .slice ad bs.length cap ∧ bs.length ≤ maxLen ∧ CellsAt W ad (bts bs) ∧ ∀ b ∈ bs, b < 256 := by
  obtain ⟨a0, len, cap, rfl⟩ := okWide_slice Tryz.underlying22 hv
  obtain ⟨fuel, hf⟩ := h
  rcases open_ints Tryz.underlying22 Tryz.underlying5 Tryz.cellsByte hf with ⟨hcs, hx⟩ | ⟨a, len', cap', zs, hcs, _, hl, hm, hz, hx, hcell, hwz⟩
  · simp [Value.cells] at hcs
    obtain ⟨rfl, rfl, rfl⟩ := hcs
    exact ⟨none, 0, [], rfl, by simp, .inl rfl, by simp⟩
  · simp [Value.cells] at hcs
    obtain ⟨rfl, rfl, rfl⟩ := hcs
    simp only [if_true] at hz
    have hw8 : ∀ x ∈ zs, 0 ≤ x ∧ x < 256 := fun x hx => by
      have q := hwz x hx
      simp [Lit.wf, IntKind.min, IntKind.max, IntKind.signed, IntKind.bits] at q
      omega
    have hlen : ((zs.take len).map Int.toNat).length = len := by rw [List.length_map, List.length_take]; omega
    refine ⟨some a, cap, (zs.take len).map Int.toNat, by rw [hlen], by rw [hlen]; omega, ?_, ?_⟩
    · by_cases h0 : len = 0
      · subst h0; left; rfl
      · obtain ⟨b, off, rfl, hc⟩ := _root_.Go.ints_at hcell (by omega)
        refine .inr ⟨b, off, rfl, fun j u hu => ?_⟩
        have hj : j < len := by
          rcases Nat.lt_or_ge j len with q | q
          · exact q
          · rw [List.getElem?_eq_none (by rw [bts_length, hlen]; omega)] at hu; cases hu
        have hjz : j < zs.length := by omega
        rw [bts, List.getElem?_map, List.getElem?_map, List.getElem?_take, if_pos hj, List.getElem?_eq_getElem hjz] at hu
        simp only [Option.map_some, Option.some.injEq] at hu
        rw [hc j (by omega), ← hu]
        have h8 := hw8 _ (List.getElem_mem hjz)
        rw [List.getD_eq_getElem?_getD, List.getElem?_eq_getElem hjz, Option.getD_some, Int.toNat_of_nonneg h8.1]
    · intro b hb
      rw [List.mem_map] at hb
      obtain ⟨x, hx, rfl⟩ := hb
      have := hw8 x (List.mem_of_mem_take hx)
      omega
end Go.Proofs.YtajmdgcnnipdoaaGreatDoor

/- SameI: the laws' comparing of two equal lists of numbers, and their test of a code's length. -/
namespace Go.Proofs.YtajmdgcnnipdoaaGreatDoor
open Go.RowKit

set_option maxRecDepth 100000 in
set_option maxHeartbeats 400000 in
theorem sameInts_same (a1 a2 : Option Addr) (c1 c2 : Nat) (xs : List Int) (w : World) (hn : xs.length ≤ 1048576) (hc1 : CellsAt w a1 (ints xs)) (hc2 : CellsAt w a2 (ints xs)) :
    Calls Tryz.prog 11 #[.slice a1 xs.length c1, .slice a2 xs.length c2] w fun e w' => e = .returned (.bool true) ∧ Below w.heap.size w w' := by
  have hl1 := ints_length xs
  have H1 := Lib.hid hc1
  have H2 := Lib.hid hc2
  have hd : decide ((xs.length : Int) = (xs.length : Int)) = true := by simp
  have hne : ((xs.length : Int) != (xs.length : Int)) = false := by simp
  clear hc1 hc2
  go_enter Tryz.func11, Tryz.ntmps11
  go_wp2
  go_loopw [5] (fun i wr => ∃ k : Nat, k ≤ xs.length ∧ i = .int .i64 k ∧ ∃ n, wr = w.drewN n) (fun i _ => xs.length - (intOf i).toNat)
  case atStart => exact ⟨0, by omega, rfl, 0, rfl⟩
  case round =>
    obtain ⟨k, hk, rfl, n, rfl⟩ := hrel
    by_cases hlt : k < xs.length
    · obtain ⟨g, off, rfl, hg, hcc⟩ := H1.out.open (by omega)
      obtain ⟨g', off', rfl, hg', hcc'⟩ := H2.out.open (by omega)
      have hx := hcc k _ (ints_at xs k hlt)
      have hy := hcc' k _ (ints_at xs k hlt)
      clear hcc hcc'
      have he' : (xs[k] != xs[k]) = false := by simp
      go_wp2
      go_big_quiet (fail)
      go_wp2
      go_roundw
      case rel => exact ⟨k + 1, by omega, by go_num, _, rfl⟩
      case measure => simp [intOf]; omega
    · obtain rfl : k = xs.length := by omega
      go_wp2
      go_ret
      exact ⟨rfl, ⟨rfl, rfl, rfl, Nat.le_refl _, fun _ _ => rfl⟩⟩

theorem big_any (ad : Option Addr) (cap : Nat) (bs : List Nat) (w : World) (hm : bs.length ≤ 9223372036854775807) :
    Calls Tryz.prog 6 #[.slice ad bs.length cap] w fun e w' => e = .returned (.bool (decide (1048576 < bs.length))) ∧ w = w' := by
  go_enter Tryz.func6, Tryz.ntmps6
  go_wp2
  go_ret
  refine ⟨?_, rfl⟩
  congr 2
  simp
  try omega
end Go.Proofs.YtajmdgcnnipdoaaGreatDoor
