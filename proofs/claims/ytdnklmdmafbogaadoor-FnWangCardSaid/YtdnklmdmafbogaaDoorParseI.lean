/- ParseI: the walk of the program's ParseWang. -/
import Derived.Test.YtdnklmdmafbogaaDoorParseP
import Derived.Test.YtdnklmdmafbogaaDoorAllFrame
import Derived.Deep.RegionHeld3
import Derived.BigRegion
import Derived.IntWalk
import Derived.Deep.DrawnRows
namespace Go.Proofs.YtdnklmdmafbogaaDoor
open Go.RowKit

attribute [local go_sem ↓] Go.wp_at_zero Go.wp_at_succ

/-- The library's variable holds some number. -/
def MaxAt (w : World) : Prop := ∃ m : Int, w.cell? ⟨0, 0, none⟩ = some (.int .i64 m)
theorem MaxAt.below {w w' : World} (h : MaxAt w) (hb : Below w.heap.size w w') : MaxAt w' := by
  obtain ⟨m, hm⟩ := h
  exact ⟨m, (hb.cell (World.block_lt_of_cell? w _ hm)).trans hm⟩
theorem split_lists (s : ByteArray) : (Lib.splitB ⟨#[32]⟩ 0 (Lib.countB s ⟨#[32]⟩) s).map (·.data.toList) = spl s.data.toList := by
  rw [Lib.splitB_data]
  exact spl_is s.data.toList
theorem split_len (s : ByteArray) : (Lib.splitB ⟨#[32]⟩ 0 (Lib.countB s ⟨#[32]⟩) s).length = Lib.countB s ⟨#[32]⟩ + 1 := Lib.splitB_all ⟨#[32]⟩ (by decide) 0 _ s rfl
theorem byte_sub (b : UInt8) : IntKind.i64.wrap ((b.toNat : Int) - 48) = (b.toNat : Int) - 48 := by
  have := b.toNat_lt
  rw [IntWalk.i64_left]
  exact IntWalk.wrap64_in _ (by omega)

theorem byte_wrap (b : UInt8) : IntKind.i64.wrap (b.toNat : Int) = (b.toNat : Int) := by
  have := b.toNat_lt
  rw [IntWalk.i64_left]
  exact IntWalk.wrap64_in _ (by omega)

set_option maxRecDepth 100000 in
set_option maxHeartbeats 3200000 in
theorem implParse (s : ByteArray) (w : World) (hs : s.size ≤ 1048576) (hT : MaxAt w) :
    Calls Tryd.prog 14 #[.string s] w fun e w' => ∃ ad' cap', e = .returned (.tuple #[.slice ad' (parseT s.data.toList).length cap', .bool (decide (okI s.data.toList))]) ∧
      w'.ownsRow w.heap.size 45 4 (.slice ad' (parseT s.data.toList).length cap') (parseT s.data.toList).length (wangs (parseT s.data.toList)) ∧ Below w.heap.size w w' := by
  obtain ⟨m, hm⟩ := hT
  have hsp := Tryd.strings_Split s ⟨#[32]⟩ m w (by omega) hm (by decide)
  have hll := split_lists s
  have hlen := split_len s
  have HSP := Lib.hid hsp
  have hno : ∀ (k : Nat) (hk : k < (Lib.splitB ⟨#[32]⟩ 0 (Lib.countB s ⟨#[32]⟩) s).length), (Lib.splitB ⟨#[32]⟩ 0 (Lib.countB s ⟨#[32]⟩) s)[k].data.toList.length ≠ 4 ∨ 6 ≤ k → ¬ okI s.data.toList := by
    intro k hk h hok
    obtain ⟨h4, h6, _⟩ := hok
    rw [← hll] at h4 h6
    rw [List.length_map] at h6
    rcases h with h | h
    · exact h (h4 _ (List.mem_map_of_mem (List.getElem_mem hk)))
    · omega
  have hyes : (∀ p ∈ Lib.splitB ⟨#[32]⟩ 0 (Lib.countB s ⟨#[32]⟩) s, p.data.toList.length = 4) → (Lib.splitB ⟨#[32]⟩ 0 (Lib.countB s ⟨#[32]⟩) s).length ≤ 6 → decide (Wangs ((Lib.splitB ⟨#[32]⟩ 0 (Lib.countB s ⟨#[32]⟩) s).map fun p => tileOf p.data.toList)) = decide (okI s.data.toList) := by
    intro h4 h6
    have e : (spl s.data.toList).map tileOf = (Lib.splitB ⟨#[32]⟩ 0 (Lib.countB s ⟨#[32]⟩) s).map fun p => tileOf p.data.toList := by
      rw [← hll, List.map_map]
      rfl
    rw [← e]
    refine decide_eq_decide.2 ⟨fun q => ⟨?_, ?_, q⟩, fun q => q.2.2⟩
    · rw [← hll]
      intro p hp
      obtain ⟨y, hy, rfl⟩ := List.mem_map.1 hp
      exact h4 y hy
    · rw [← hll, List.length_map]
      exact h6
  have hpt : okI s.data.toList → parseT s.data.toList = (Lib.splitB ⟨#[32]⟩ 0 (Lib.countB s ⟨#[32]⟩) s).map fun p => tileOf p.data.toList := by
    intro q
    rw [show parseT s.data.toList = (spl s.data.toList).map tileOf from if_pos q, ← hll, List.map_map]
    rfl
  have hpn : ¬ okI s.data.toList → parseT s.data.toList = [] := fun q => if_neg q
  have hcl : Lib.countB s ⟨#[32]⟩ ≤ 1048576 := Nat.le_trans (Lib.countB_le ⟨#[32]⟩ (by decide) s.size s (Nat.le_refl _)) hs
  clear hsp hll hm
  have HNO := Lib.hid hno
  have HYES := Lib.hid hyes
  have HPT := Lib.hid hpt
  have HPN := Lib.hid hpn
  clear hno hyes hpt hpn
  generalize parseT s.data.toList = PT at HPT HPN ⊢
  generalize hP : Lib.splitB ⟨#[32]⟩ 0 (Lib.countB s ⟨#[32]⟩) s = P at HSP hlen HNO HYES HPT
  clear hP
  generalize Lib.countB s ⟨#[32]⟩ = c at HSP hlen hcl
  have HLEN := Lib.hid hlen
  clear hlen
  obtain ⟨w1, hw1⟩ : ∃ w1, w1 = w.alloc (.cells (P.map Value.string).toArray 9) := ⟨_, rfl⟩
  have hb1 : Below w.heap.size w w1 := by rw [hw1]; exact (Below.refl _ _).alloc (Nat.le_refl _) _
  have hz1 : w1.heap.size = w.heap.size + 1 := by rw [hw1]; simp
  have hblk : w1.heap[w.heap.size]? = some (.cells (P.map Value.string).toArray 9 (0, 0)) := by rw [hw1]; exact heap_alloc_new w _
  have HW1 := Lib.hid hw1
  have HB1 := Lib.hid hb1
  have HBLK := Lib.hid hblk
  clear hw1 hb1 hblk
  go_enter Tryd.func14, Tryd.ntmps14
  go_wp2_with fail
  refine HSP.out.mono ?_
  rintro e w2 ⟨rfl, hw2⟩
  rw [← HW1.out] at hw2
  have hw3 := hw2.symm
  subst hw3
  go_wp2
  go_loopw [4, 10] (fun ov iv wr => ∃ (k : Nat) (av : Option Addr) (cv : Nat), k ≤ P.length ∧ k ≤ 6 ∧ iv = .int .i64 k ∧ ov = .slice av k cv ∧ (∀ p ∈ P.take k, p.data.toList.length = 4) ∧
    wr.ownsRow w1.heap.size 45 4 (.slice av k cv) k (wangs ((P.take k).map fun p => tileOf p.data.toList)) ∧ Below w1.heap.size w1 wr) (fun _ iv _ => P.length - (intOf iv).toNat)
  case atStart => exact ⟨0, none, 0, Nat.zero_le _, Nat.zero_le _, rfl, rfl, (fun p hp => by simp at hp), World.ownsRow_nil _ _ _ _, Below.refl _ _⟩
  case round =>
    obtain ⟨k, av, cv, hk, hk6, rfl, rfl, h4, hown, hb⟩ := hrel
    have HB := Lib.hid hb
    have hsz := hb.size
    have HOWN := Lib.hid hown
    have H4 := Lib.hid h4
    clear hown h4
    by_cases hlt : k < P.length
    · have i1 : (k : Int) < (c : Int) + 1 := by have := HLEN.out; omega
      have x0 : wr.cell? ⟨w.heap.size, k, none⟩ = some (.string P[k]) := by
        rw [cell_of_row wr _ k _ _ _ ((hb.block w.heap.size (by omega)).trans HBLK.out)]
        simp [hlt]
      have htk := List.take_succ_eq_append_getElem hlt
      have HTK := Lib.hid htk
      have HNOk := Lib.hid (HNO.out k hlt)
      clear hb htk
      generalize P[k] = p at x0 HTK HNOk
      by_cases hp4 : p.data.toList.length = 4
      · obtain ⟨b0, b1, b2, b3, hpb⟩ : ∃ b0 b1 b2 b3, p.data.toList = [b0, b1, b2, b3] := by
          match h : p.data.toList, hp4 with
          | [b0, b1, b2, b3], _ => exact ⟨b0, b1, b2, b3, rfl⟩
        obtain rfl : p = ⟨#[b0, b1, b2, b3]⟩ := ba_of_list hpb
        clear hp4 hpb
        by_cases h6 : k < 6
        · have g1 : decide ((6 : Int) ≤ (k : Int)) = false := decide_eq_false (by omega)
          have g2 : decide (6 ≤ k) = false := decide_eq_false (by omega)
          have s0 := byte_sub b0
          have s1 := byte_sub b1
          have s2 := byte_sub b2
          have s3 := byte_sub b3
          have t0 := byte_wrap b0
          have t1 := byte_wrap b1
          have t2 := byte_wrap b2
          have t3 := byte_wrap b3
          have e0 : ∀ h, (⟨#[b0, b1, b2, b3]⟩ : ByteArray)[0]'h = b0 := fun _ => rfl
          have e1 : ∀ h, (⟨#[b0, b1, b2, b3]⟩ : ByteArray)[1]'h = b1 := fun _ => rfl
          have e2 : ∀ h, (⟨#[b0, b1, b2, b3]⟩ : ByteArray)[2]'h = b2 := fun _ => rfl
          have e3 : ∀ h, (⟨#[b0, b1, b2, b3]⟩ : ByteArray)[3]'h = b3 := fun _ => rfl
          go_wp2
          have hcs : (wangs ((P.take k).map fun p => tileOf p.data.toList)).length = k * 4 := by rw [wangs_length, List.length_map, List.length_take]; omega
          have hgw : wr.grownBy (wr.drew.alloc (.cells #[.int .i64 ((b0.toNat : Int) - 48), .int .i64 ((b1.toNat : Int) - 48), .int .i64 ((b2.toNat : Int) - 48), .int .i64 ((b3.toNat : Int) - 48)] 45)) none := grownBy_trans (grownBy_drew wr none) (World.grownBy_alloc wr.drew _ none)
          have hht := heap_alloc_top wr.drew (.cells #[.int .i64 ((b0.toNat : Int) - 48), .int .i64 ((b1.toNat : Int) - 48), .int .i64 ((b2.toNat : Int) - 48), .int .i64 ((b3.toNat : Int) - 48)] 45)
          have HGW := Lib.hid hgw
          have HHT := Lib.hid hht
          clear hgw hht
          refine wp_region_any (by kernel_rfl) ?_
          change wpAny _ _ _ _ _ _ _ (World.drew _)
          refine wpAny_take (i := 0) (v := .slice av k cv) rfl (by kernel_rfl) (by kernel_rfl) (by kernel_rfl) (fun _ _ _ h => h) (Or.inl ⟨by rfl, fun w => by first | (go_simp; done) | (go_simp; rfl)⟩) ?_
          refine wpAny_take (i := 1) (v := .string ⟨#[b0, b1, b2, b3]⟩) rfl (by kernel_rfl) (by kernel_rfl) (by kernel_rfl) (fun _ _ _ h => h) (Or.inl ⟨by rfl, fun w => by first | (go_simp; done) | (go_simp; rfl)⟩) ?_
          refine wpAny_take (i := 2) (v := .int .u8 (b0.toNat : Int)) rfl (by kernel_rfl) (by kernel_rfl) (by kernel_rfl) (fun _ _ _ h => h) (Or.inl ⟨by rfl, fun w => by first | (go_simp; done) | (go_simp; rfl)⟩) ?_
          refine wpAny_take (i := 3) (v := .int .i64 (b0.toNat : Int)) rfl (by kernel_rfl) (by kernel_rfl) (by kernel_rfl) (fun _ _ _ h => h) (Or.inl ⟨by rfl, fun w => by first | (go_simp; done) | (go_simp; rfl)⟩) ?_
          refine wpAny_take (i := 4) (v := .int .i64 ((b0.toNat : Int) - 48)) rfl (by kernel_rfl) (by kernel_rfl) (by kernel_rfl) (fun _ _ _ h => h) (Or.inl ⟨by rfl, fun w => by first | (go_simp; done) | (go_simp; rfl)⟩) ?_
          refine wpAny_take (i := 5) (v := .string ⟨#[b0, b1, b2, b3]⟩) rfl (by kernel_rfl) (by kernel_rfl) (by kernel_rfl) (fun _ _ _ h => h) (Or.inl ⟨by rfl, fun w => by first | (go_simp; done) | (go_simp; rfl)⟩) ?_
          refine wpAny_take (i := 6) (v := .int .u8 (b1.toNat : Int)) rfl (by kernel_rfl) (by kernel_rfl) (by kernel_rfl) (fun _ _ _ h => h) (Or.inl ⟨by rfl, fun w => by first | (go_simp; done) | (go_simp; rfl)⟩) ?_
          refine wpAny_take (i := 7) (v := .int .i64 (b1.toNat : Int)) rfl (by kernel_rfl) (by kernel_rfl) (by kernel_rfl) (fun _ _ _ h => h) (Or.inl ⟨by rfl, fun w => by first | (go_simp; done) | (go_simp; rfl)⟩) ?_
          refine wpAny_take (i := 8) (v := .int .i64 ((b1.toNat : Int) - 48)) rfl (by kernel_rfl) (by kernel_rfl) (by kernel_rfl) (fun _ _ _ h => h) (Or.inl ⟨by rfl, fun w => by first | (go_simp; done) | (go_simp; rfl)⟩) ?_
          refine wpAny_take (i := 9) (v := .string ⟨#[b0, b1, b2, b3]⟩) rfl (by kernel_rfl) (by kernel_rfl) (by kernel_rfl) (fun _ _ _ h => h) (Or.inl ⟨by rfl, fun w => by first | (go_simp; done) | (go_simp; rfl)⟩) ?_
          refine wpAny_take (i := 10) (v := .int .u8 (b2.toNat : Int)) rfl (by kernel_rfl) (by kernel_rfl) (by kernel_rfl) (fun _ _ _ h => h) (Or.inl ⟨by rfl, fun w => by first | (go_simp; done) | (go_simp; rfl)⟩) ?_
          refine wpAny_take (i := 11) (v := .int .i64 (b2.toNat : Int)) rfl (by kernel_rfl) (by kernel_rfl) (by kernel_rfl) (fun _ _ _ h => h) (Or.inl ⟨by rfl, fun w => by first | (go_simp; done) | (go_simp; rfl)⟩) ?_
          refine wpAny_take (i := 12) (v := .int .i64 ((b2.toNat : Int) - 48)) rfl (by kernel_rfl) (by kernel_rfl) (by kernel_rfl) (fun _ _ _ h => h) (Or.inl ⟨by rfl, fun w => by first | (go_simp; done) | (go_simp; rfl)⟩) ?_
          refine wpAny_take (i := 13) (v := .string ⟨#[b0, b1, b2, b3]⟩) rfl (by kernel_rfl) (by kernel_rfl) (by kernel_rfl) (fun _ _ _ h => h) (Or.inl ⟨by rfl, fun w => by first | (go_simp; done) | (go_simp; rfl)⟩) ?_
          refine wpAny_take (i := 14) (v := .int .u8 (b3.toNat : Int)) rfl (by kernel_rfl) (by kernel_rfl) (by kernel_rfl) (fun _ _ _ h => h) (Or.inl ⟨by rfl, fun w => by first | (go_simp; done) | (go_simp; rfl)⟩) ?_
          refine wpAny_take (i := 15) (v := .int .i64 (b3.toNat : Int)) rfl (by kernel_rfl) (by kernel_rfl) (by kernel_rfl) (fun _ _ _ h => h) (Or.inl ⟨by rfl, fun w => by first | (go_simp; done) | (go_simp; rfl)⟩) ?_
          refine wpAny_take (i := 16) (v := .int .i64 ((b3.toNat : Int) - 48)) rfl (by kernel_rfl) (by kernel_rfl) (by kernel_rfl) (fun _ _ _ h => h) (Or.inl ⟨by rfl, fun w => by first | (go_simp; done) | (go_simp; rfl)⟩) ?_
          refine wpAny_take (i := 17) (v := .agg #[.int .i64 ((b0.toNat : Int) - 48), .int .i64 ((b1.toNat : Int) - 48), .int .i64 ((b2.toNat : Int) - 48), .int .i64 ((b3.toNat : Int) - 48)]) rfl (by kernel_rfl) (by kernel_rfl) (by kernel_rfl) (fun _ _ _ h => h) (Or.inl ⟨by rfl, fun w => by first | (go_simp; done) | (go_simp; rfl)⟩) ?_
          refine wpAny_ready (rs := [18]) (by kernel_rfl) (by simp) ?_
          refine AllReady.cons rfl (fun K hK => ?_) AllReady.nil
          go_simp
          refine hK _ _ ?_
          clear hK K
          refine wpAny_ready (rs := [19]) (by kernel_rfl) (by simp) ?_
          refine AllReady.cons rfl (fun K hK => ?_) AllReady.nil
          refine step_app1w (wr := wr) (w2 := wr.drew.alloc (.cells #[.int .i64 ((b0.toNat : Int) - 48), .int .i64 ((b1.toNat : Int) - 48), .int .i64 ((b2.toNat : Int) - 48), .int .i64 ((b3.toNat : Int) - 48)] 45)) rfl (.tmp 22) (.tmp 40) 25 rfl w1.heap.size 45 (.agg #[.int .i64 0, .int .i64 0, .int .i64 0, .int .i64 0]) 4 32 Tryd.elemWang (.slice av k cv) k (wangs ((P.take k).map fun p => tileOf p.data.toList)) #[.int .i64 ((b0.toNat : Int) - 48), .int .i64 ((b1.toNat : Int) - 48), .int .i64 ((b2.toNat : Int) - 48), .int .i64 ((b3.toNat : Int) - 48)] wr.heap.size (0, 0) rfl (by rfl) (by rfl) HGW.out HHT.out HOWN.out rfl (by simp [Value.oneCell']) (by unfold maxLen; omega) (by omega) hsz ?_
          intro g4 c4 w6 r1 r2 r3 r4 r5 r6
          refine hK _ _ ?_
          clear hK K
          refine wpAny_take (i := 20) (v := .slice (some ⟨g4, 0, none⟩) (k + 1) c4) rfl (by kernel_rfl) (by kernel_rfl) (by kernel_rfl) (fun _ _ _ h => h) (Or.inl ⟨by rfl, fun w => by first | (go_simp; done) | (go_simp; rfl)⟩) ?_
          refine wpAny_done (by kernel_rfl) ?_ _
          have HB6 := Lib.hid (HB.out.trans (r2.mono (Nat.le_refl _)))
          have HO6 := Lib.hid r1
          clear r1 r2 r3 r4 r5 r6 e0 e1 e2 e3
          go_wp2
          go_roundw
          case rel =>
            refine ⟨k + 1, some ⟨g4, 0, none⟩, c4, hlt, by omega, by go_num, rfl, ?_, ?_, HB6.out⟩
            · rw [HTK.out]
              intro p hp
              rcases List.mem_append.1 hp with hp | hp
              · exact H4.out p hp
              · rw [List.mem_singleton.1 hp]; rfl
            · rw [HTK.out, List.map_append, wangs_append]
              exact HO6.out
          case measure => simp [intOf]; omega
        · have g1 : decide ((6 : Int) ≤ (k : Int)) = true := decide_eq_true (by omega)
          have g2 : decide (6 ≤ k) = true := decide_eq_true (by omega)
          have HNK := Lib.hid (HNOk.out (.inr (by omega)))
          go_wp2
          go_ret2
          rw [HPN.out HNK.out, decide_eq_false HNK.out]
          exact ⟨none, 0, rfl, World.ownsRow_nil _ _ _ _, HB1.out.trans (HB.out.mono (by omega))⟩
      · have hne : ((p.size : Int) != 4) = true := by
          have e : p.size = p.data.toList.length := rfl
          simp only [bne_iff_ne]
          omega
        have HNK := Lib.hid (HNOk.out (.inl hp4))
        clear hp4
        go_wp2
        go_ret2
        rw [HPN.out HNK.out, decide_eq_false HNK.out]
        exact ⟨none, 0, rfl, World.ownsRow_nil _ _ _ _, HB1.out.trans (HB.out.mono (by omega))⟩
    · obtain rfl : k = P.length := by omega
      have i2 : ¬ ((P.length : Int) < (c : Int) + 1) := by have := HLEN.out; omega
      clear hb
      have h4 := H4.out
      rw [List.take_length] at h4 HOWN
      have hd := HYES.out h4 hk6
      have hare := fun w' h => implAre av cv (P.map fun p => tileOf p.data.toList) w' (by rw [List.length_map]; have := HLEN.out; omega) h
      rw [hd, List.length_map] at hare
      have HARE := Lib.hid (hare wr (ownsRow_cellsAt HOWN.out))
      clear hare hd h4
      by_cases hok : okI s.data.toList
      · have HAR := HARE
        rw [decide_eq_true hok] at HAR
        have HOK := Lib.hid hok
        have hpt := HPT.out hok
        have HPTe := Lib.hid hpt
        clear hpt hok HARE
        go_wp2_with fail
        refine HAR.out.mono ?_
        rintro e w3 ⟨rfl, hb3⟩
        have HO3 := Lib.hid (ownsRow_far_below HOWN.out hb3 (Nat.le_refl _))
        have HB3 := Lib.hid (HB1.out.trans ((HB.out.trans (hb3.mono hsz)).mono (by omega)))
        clear hb3
        go_wp2
        go_ret2
        rw [HPTe.out, List.length_map, decide_eq_true HOK.out]
        exact ⟨av, cv, rfl, ownsRow_rebase HO3.out (by omega), HB3.out⟩
      · have HAR := HARE
        rw [decide_eq_false hok] at HAR
        have HOK := Lib.hid hok
        have HPTe := Lib.hid (HPN.out hok)
        clear hok HARE
        go_wp2_with fail
        refine HAR.out.mono ?_
        rintro e w3 ⟨rfl, hb3⟩
        have HB3 := Lib.hid (HB1.out.trans ((HB.out.trans (hb3.mono hsz)).mono (by omega)))
        clear hb3
        go_wp2
        go_ret2
        rw [HPTe.out, decide_eq_false HOK.out]
        exact ⟨none, 0, rfl, World.ownsRow_nil _ _ _ _, HB3.out⟩
end Go.Proofs.YtdnklmdmafbogaaDoor
