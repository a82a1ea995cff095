/- ParseS: the walk of the reference's ParseWang. -/
import Derived.Test.YtdnklmdmafbogaaDoorParseP
import Derived.Test.YtdnklmdmafbogaaDoorFmtS
import Derived.Test.YtdnklmdmafbogaaDoorAllFrame
import Derived.BigRegion
import Derived.IntWalk
import Derived.Deep.DrawnRows
namespace Go.Proofs.YtdnklmdmafbogaaDoor
open Go.RowKit

attribute [local go_sem ↓] Go.wp_at_zero Go.wp_at_succ

theorem byte_subS (b : UInt8) : IntKind.i64.wrap ((b.toNat : Int) - 48) = (b.toNat : Int) - 48 := by
  have := b.toNat_lt
  rw [IntWalk.i64_left]
  exact IntWalk.wrap64_in _ (by omega)
theorem byte_wrapS (b : UInt8) : IntKind.i64.wrap (b.toNat : Int) = (b.toNat : Int) := by
  have := b.toNat_lt
  rw [IntWalk.i64_left]
  exact IntWalk.wrap64_in _ (by omega)
theorem get_byte (s : ByteArray) (n : Nat) (h : n < s.size) : s[n]'h = s.data.toList.getD n 0 := by
  have h' : n < s.data.toList.length := h
  rw [List.getD_eq_getElem?_getD, List.getElem?_eq_getElem h']
  rfl
theorem parse_no {s : List UInt8} (h : ¬ okS s) : parseT s = [] ∧ decide (okI s) = false :=
  ⟨if_neg (fun q => h ((ok_same s).1 q)), decide_eq_false (fun q => h ((ok_same s).1 q))⟩

set_option maxRecDepth 100000 in
set_option maxHeartbeats 3200000 in
theorem specParse (s : ByteArray) (w : World) (hs : s.size ≤ 1048576) :
    Calls Tryd.prog 13 #[.string s] w fun e w' => ∃ ad' cap', e = .returned (.tuple #[.slice ad' (parseT s.data.toList).length cap', .bool (decide (okI s.data.toList))]) ∧
      w'.ownsRow w.heap.size 45 4 (.slice ad' (parseT s.data.toList).length cap') (parseT s.data.toList).length (wangs (parseT s.data.toList)) ∧ Below w.heap.size w w' := by
  have hss : s.size = s.data.toList.length := rfl
  have hbe : Below w.heap.size w (w.alloc (.cells #[] 45)) := (Below.refl _ _).alloc (Nat.le_refl _) _
  have HBE := Lib.hid hbe
  have HOE := Lib.hid (ownsRow_empty w 45 4)
  clear hbe
  have hmod : (s.size : Int).tmod 5 = ((s.size % 5 : Nat) : Int) := by
    rw [Int.tmod_eq_emod_of_nonneg (by omega)]
    norm_cast
  by_cases h5 : s.size % 5 = 4
  · rw [h5] at hmod
    by_cases h40 : s.size ≤ 40
    · obtain ⟨n, hn⟩ : ∃ n, s.size + 1 = 5 * n := ⟨(s.size + 1) / 5, by omega⟩
      have g1 : decide ((40 : Int) < (s.size : Int)) = false := decide_eq_false (by omega)
      have g2 : decide (40 < s.size) = false := decide_eq_false (by omega)
      have hgt : ∀ i (hi : i < s.size), s[i]'hi = s.data.toList.getD i 0 := fun i hi => get_byte s i hi
      have hok : okI s.data.toList ↔ (fmtW (tilesAt s.data.toList n)).data.toList = s.data.toList := by
        rw [ok_same]
        unfold okS
        rw [← hss, show (s.size + 1) / 5 = n by omega]
        exact ⟨fun q => q.2.2, fun q => ⟨h5, h40, q⟩⟩
      have hpt : okI s.data.toList → parseT s.data.toList = tilesAt s.data.toList n := by
        intro q
        have e := tiles_same q
        rw [← hss, show (s.size + 1) / 5 = n by omega] at e
        rw [e]
        exact if_pos q
      have hpn : ¬ okI s.data.toList → parseT s.data.toList = [] := fun q => if_neg q
      have HGT := Lib.hid hgt
      have HOK := Lib.hid hok
      have HPT := Lib.hid hpt
      have HPN := Lib.hid hpn
      have HSS := Lib.hid hss
      clear hgt hok hpt hpn hss h5
      generalize hL : s.data.toList = L at HGT HOK HPT HPN HSS ⊢
      have HL := Lib.hid hL
      clear hL
      generalize parseT L = PT at HPT HPN ⊢
      have hn8 : n ≤ 8 := by omega
      have HNN := Lib.hid hn
      clear hn
      go_enter Tryd.func13, Tryd.ntmps13
      go_wp2
      go_loopw [4, 5] (fun ov iv wr => ∃ (k : Nat) (av : Option Addr) (cv : Nat), k ≤ n ∧ iv = .int .i64 ((k * 5 : Nat) : Int) ∧ ov = .slice av k cv ∧
        wr.ownsRow w.heap.size 45 4 (.slice av k cv) k (wangs (tilesAt L k)) ∧ Below w.heap.size w wr) (fun _ iv _ => 5 * n - (intOf iv).toNat)
      case atStart => exact ⟨0, some ⟨w.heap.size, 0, none⟩, 0, Nat.zero_le _, rfl, rfl, HOE.out, HBE.out⟩
      case round =>
        obtain ⟨k, av, cv, hk, rfl, rfl, hown, hb⟩ := hrel
        have HB := Lib.hid hb
        have hsz := hb.size
        have HOWN := Lib.hid hown
        clear hown hb
        have hnn := HNN.out
        obtain ⟨k5, hk5⟩ : ∃ k5, k5 = k * 5 := ⟨_, rfl⟩
        rw [← hk5]
        by_cases hlt : k < n
        · have i1 : (k5 : Int) + 3 < (s.size : Int) := by omega
          have c0 : IntKind.i64.wrap ((k5 : Int) + 3) = (k5 : Int) + 3 := by rw [IntWalk.i64_left]; exact IntWalk.wrap64_in _ (by omega)
          have c1 : IntKind.i64.wrap ((k5 : Int) + 1) = (k5 : Int) + 1 := by rw [IntWalk.i64_left]; exact IntWalk.wrap64_in _ (by omega)
          have c2 : IntKind.i64.wrap ((k5 : Int) + 2) = (k5 : Int) + 2 := by rw [IntWalk.i64_left]; exact IntWalk.wrap64_in _ (by omega)
          have c5 : IntKind.i64.wrap ((k5 : Int) + 5) = (k5 : Int) + 5 := by rw [IntWalk.i64_left]; exact IntWalk.wrap64_in _ (by omega)
          have j0 : (k5 : Int) < (s.size : Int) := by omega
          have j1 : (k5 : Int) + 1 < (s.size : Int) := by omega
          have j2 : (k5 : Int) + 2 < (s.size : Int) := by omega
          have n0 : (0 : Int) ≤ (k5 : Int) := by omega
          have n1 : (0 : Int) ≤ (k5 : Int) + 1 := by omega
          have n2 : (0 : Int) ≤ (k5 : Int) + 2 := by omega
          have n3 : (0 : Int) ≤ (k5 : Int) + 3 := by omega
          have htile : tileAt L k = ⟨((L.getD k5 0).toNat : Int) - 48, ((L.getD (k5 + 1) 0).toNat : Int) - 48, ((L.getD (k5 + 2) 0).toNat : Int) - 48, ((L.getD (k5 + 3) 0).toNat : Int) - 48⟩ := by rw [hk5]; rfl
          obtain ⟨b0, hb0⟩ : ∃ b, b = L.getD k5 0 := ⟨_, rfl⟩
          obtain ⟨b1, hb1⟩ : ∃ b, b = L.getD (k5 + 1) 0 := ⟨_, rfl⟩
          obtain ⟨b2, hb2⟩ : ∃ b, b = L.getD (k5 + 2) 0 := ⟨_, rfl⟩
          obtain ⟨b3, hb3⟩ : ∃ b, b = L.getD (k5 + 3) 0 := ⟨_, rfl⟩
          rw [← hb0, ← hb1, ← hb2, ← hb3] at htile
          have HTL := Lib.hid htile
          have e0 : ∀ h, s[((k5 : Int)).toNat]'h = b0 := fun h => by rw [HGT.out, hb0]; congr 1
          have e1 : ∀ h, s[((k5 : Int) + 1).toNat]'h = b1 := fun h => by rw [HGT.out, hb1]; congr 1
          have e2 : ∀ h, s[((k5 : Int) + 2).toNat]'h = b2 := fun h => by rw [HGT.out, hb2]; congr 1
          have e3 : ∀ h, s[((k5 : Int) + 3).toNat]'h = b3 := fun h => by rw [HGT.out, hb3]; congr 1
          have E0 : ∀ h, s[k5]'h = b0 := fun h => by rw [HGT.out, hb0]
          have E1 : ∀ h, s[k5 + 1]'h = b1 := fun h => by rw [HGT.out, hb1]
          have E2 : ∀ h, s[k5 + 2]'h = b2 := fun h => by rw [HGT.out, hb2]
          have E3 : ∀ h, s[k5 + 3]'h = b3 := fun h => by rw [HGT.out, hb3]
          have s0 := byte_subS b0
          have s1 := byte_subS b1
          have s2 := byte_subS b2
          have s3 := byte_subS b3
          have t0 := byte_wrapS b0
          have t1 := byte_wrapS b1
          have t2 := byte_wrapS b2
          have t3 := byte_wrapS b3
          have HK5 := Lib.hid hk5
          clear hb0 hb1 hb2 hb3 htile hk5 hnn
          have hgw : wr.grownBy (wr.drew.alloc (.cells #[.int .i64 ((b0.toNat : Int) - 48), .int .i64 ((b1.toNat : Int) - 48), .int .i64 ((b2.toNat : Int) - 48), .int .i64 ((b3.toNat : Int) - 48)] 45)) none := grownBy_trans (grownBy_drew wr none) (World.grownBy_alloc wr.drew _ none)
          have hht := heap_alloc_top wr.drew (.cells #[.int .i64 ((b0.toNat : Int) - 48), .int .i64 ((b1.toNat : Int) - 48), .int .i64 ((b2.toNat : Int) - 48), .int .i64 ((b3.toNat : Int) - 48)] 45)
          have HGW := Lib.hid hgw
          have HHT := Lib.hid hht
          clear hgw hht
          go_wp2
          refine wp_region_any (by kernel_rfl) ?_
          change wpAny _ _ _ _ _ _ _ (World.drew _)
          refine wpAny_take (i := 0) (v := .slice av k cv) rfl (by kernel_rfl) (by kernel_rfl) (by kernel_rfl) (fun _ _ _ h => h) (Or.inl ⟨by rfl, fun w => by first | (go_simp; done) | (go_simp; rfl)⟩) ?_
          refine wpAny_take (i := 1) (v := .string s) rfl (by kernel_rfl) (by kernel_rfl) (by kernel_rfl) (fun _ _ _ h => h) (Or.inl ⟨by rfl, fun w => by first | (go_simp; done) | (go_simp; rfl)⟩) ?_
          refine wpAny_take (i := 2) (v := .int .i64 (k5 : Int)) rfl (by kernel_rfl) (by kernel_rfl) (by kernel_rfl) (fun _ _ _ h => h) (Or.inl ⟨by rfl, fun w => by first | (go_simp; done) | (go_simp; rfl)⟩) ?_
          refine wpAny_take (i := 3) (v := .int .u8 (b0.toNat : Int)) rfl (by kernel_rfl) (by kernel_rfl) (by kernel_rfl) (fun _ _ _ h => h) (Or.inl ⟨by rfl, fun w => by first | (go_simp; done) | (go_simp; rfl)⟩) ?_
          refine wpAny_take (i := 4) (v := .int .i64 (b0.toNat : Int)) rfl (by kernel_rfl) (by kernel_rfl) (by kernel_rfl) (fun _ _ _ h => h) (Or.inl ⟨by rfl, fun w => by first | (go_simp; done) | (go_simp; rfl)⟩) ?_
          refine wpAny_take (i := 5) (v := .int .i64 ((b0.toNat : Int) - 48)) rfl (by kernel_rfl) (by kernel_rfl) (by kernel_rfl) (fun _ _ _ h => h) (Or.inl ⟨by rfl, fun w => by first | (go_simp; done) | (go_simp; rfl)⟩) ?_
          refine wpAny_take (i := 6) (v := .string s) rfl (by kernel_rfl) (by kernel_rfl) (by kernel_rfl) (fun _ _ _ h => h) (Or.inl ⟨by rfl, fun w => by first | (go_simp; done) | (go_simp; rfl)⟩) ?_
          refine wpAny_take (i := 7) (v := .int .i64 (k5 : Int)) rfl (by kernel_rfl) (by kernel_rfl) (by kernel_rfl) (fun _ _ _ h => h) (Or.inl ⟨by rfl, fun w => by first | (go_simp; done) | (go_simp; rfl)⟩) ?_
          refine wpAny_take (i := 8) (v := .int .i64 ((k5 : Int) + 1)) rfl (by kernel_rfl) (by kernel_rfl) (by kernel_rfl) (fun _ _ _ h => h) (Or.inl ⟨by rfl, fun w => by first | (go_simp; done) | (go_simp; rfl)⟩) ?_
          refine wpAny_take (i := 9) (v := .int .u8 (b1.toNat : Int)) rfl (by kernel_rfl) (by kernel_rfl) (by kernel_rfl) (fun _ _ _ h => h) (Or.inl ⟨by rfl, fun w => by first | (go_simp; done) | (go_simp; rfl)⟩) ?_
          refine wpAny_take (i := 10) (v := .int .i64 (b1.toNat : Int)) rfl (by kernel_rfl) (by kernel_rfl) (by kernel_rfl) (fun _ _ _ h => h) (Or.inl ⟨by rfl, fun w => by first | (go_simp; done) | (go_simp; rfl)⟩) ?_
          refine wpAny_take (i := 11) (v := .int .i64 ((b1.toNat : Int) - 48)) rfl (by kernel_rfl) (by kernel_rfl) (by kernel_rfl) (fun _ _ _ h => h) (Or.inl ⟨by rfl, fun w => by first | (go_simp; done) | (go_simp; rfl)⟩) ?_
          refine wpAny_take (i := 12) (v := .string s) rfl (by kernel_rfl) (by kernel_rfl) (by kernel_rfl) (fun _ _ _ h => h) (Or.inl ⟨by rfl, fun w => by first | (go_simp; done) | (go_simp; rfl)⟩) ?_
          refine wpAny_take (i := 13) (v := .int .i64 (k5 : Int)) rfl (by kernel_rfl) (by kernel_rfl) (by kernel_rfl) (fun _ _ _ h => h) (Or.inl ⟨by rfl, fun w => by first | (go_simp; done) | (go_simp; rfl)⟩) ?_
          refine wpAny_take (i := 14) (v := .int .i64 ((k5 : Int) + 2)) rfl (by kernel_rfl) (by kernel_rfl) (by kernel_rfl) (fun _ _ _ h => h) (Or.inl ⟨by rfl, fun w => by first | (go_simp; done) | (go_simp; rfl)⟩) ?_
          refine wpAny_take (i := 15) (v := .int .u8 (b2.toNat : Int)) rfl (by kernel_rfl) (by kernel_rfl) (by kernel_rfl) (fun _ _ _ h => h) (Or.inl ⟨by rfl, fun w => by first | (go_simp; done) | (go_simp; rfl)⟩) ?_
          refine wpAny_take (i := 16) (v := .int .i64 (b2.toNat : Int)) rfl (by kernel_rfl) (by kernel_rfl) (by kernel_rfl) (fun _ _ _ h => h) (Or.inl ⟨by rfl, fun w => by first | (go_simp; done) | (go_simp; rfl)⟩) ?_
          refine wpAny_take (i := 17) (v := .int .i64 ((b2.toNat : Int) - 48)) rfl (by kernel_rfl) (by kernel_rfl) (by kernel_rfl) (fun _ _ _ h => h) (Or.inl ⟨by rfl, fun w => by first | (go_simp; done) | (go_simp; rfl)⟩) ?_
          refine wpAny_take (i := 18) (v := .string s) rfl (by kernel_rfl) (by kernel_rfl) (by kernel_rfl) (fun _ _ _ h => h) (Or.inl ⟨by rfl, fun w => by first | (go_simp; done) | (go_simp; rfl)⟩) ?_
          refine wpAny_take (i := 19) (v := .int .i64 (k5 : Int)) rfl (by kernel_rfl) (by kernel_rfl) (by kernel_rfl) (fun _ _ _ h => h) (Or.inl ⟨by rfl, fun w => by first | (go_simp; done) | (go_simp; rfl)⟩) ?_
          refine wpAny_take (i := 20) (v := .int .i64 ((k5 : Int) + 3)) rfl (by kernel_rfl) (by kernel_rfl) (by kernel_rfl) (fun _ _ _ h => h) (Or.inl ⟨by rfl, fun w => by first | (go_simp; done) | (go_simp; rfl)⟩) ?_
          refine wpAny_take (i := 21) (v := .int .u8 (b3.toNat : Int)) rfl (by kernel_rfl) (by kernel_rfl) (by kernel_rfl) (fun _ _ _ h => h) (Or.inl ⟨by rfl, fun w => by first | (go_simp; done) | (go_simp; rfl)⟩) ?_
          refine wpAny_take (i := 22) (v := .int .i64 (b3.toNat : Int)) rfl (by kernel_rfl) (by kernel_rfl) (by kernel_rfl) (fun _ _ _ h => h) (Or.inl ⟨by rfl, fun w => by first | (go_simp; done) | (go_simp; rfl)⟩) ?_
          refine wpAny_take (i := 23) (v := .int .i64 ((b3.toNat : Int) - 48)) rfl (by kernel_rfl) (by kernel_rfl) (by kernel_rfl) (fun _ _ _ h => h) (Or.inl ⟨by rfl, fun w => by first | (go_simp; done) | (go_simp; rfl)⟩) ?_
          refine wpAny_take (i := 24) (v := .agg #[.int .i64 ((b0.toNat : Int) - 48), .int .i64 ((b1.toNat : Int) - 48), .int .i64 ((b2.toNat : Int) - 48), .int .i64 ((b3.toNat : Int) - 48)]) rfl (by kernel_rfl) (by kernel_rfl) (by kernel_rfl) (fun _ _ _ h => h) (Or.inl ⟨by rfl, fun w => by first | (go_simp; done) | (go_simp; rfl)⟩) ?_
          refine wpAny_ready (rs := [25]) (by kernel_rfl) (by simp) ?_
          refine AllReady.cons rfl (fun K hK => ?_) AllReady.nil
          go_simp
          refine hK _ _ ?_
          clear hK K
          refine wpAny_ready (rs := [26]) (by kernel_rfl) (by simp) ?_
          refine AllReady.cons rfl (fun K hK => ?_) AllReady.nil
          refine step_app1w (wr := wr) (w2 := wr.drew.alloc (.cells #[.int .i64 ((b0.toNat : Int) - 48), .int .i64 ((b1.toNat : Int) - 48), .int .i64 ((b2.toNat : Int) - 48), .int .i64 ((b3.toNat : Int) - 48)] 45)) rfl (.tmp 24) (.tmp 49) 25 rfl w.heap.size 45 (.agg #[.int .i64 0, .int .i64 0, .int .i64 0, .int .i64 0]) 4 32 Tryd.elemWang (.slice av k cv) k (wangs (tilesAt L k)) #[.int .i64 ((b0.toNat : Int) - 48), .int .i64 ((b1.toNat : Int) - 48), .int .i64 ((b2.toNat : Int) - 48), .int .i64 ((b3.toNat : Int) - 48)] wr.heap.size (0, 0) rfl (by rfl) (by rfl) HGW.out HHT.out HOWN.out rfl (by simp [Value.oneCell']) (by unfold maxLen; omega) (by omega) hsz ?_
          intro g4 c4 w6 r1 r2 r3 r4 r5 r6
          refine hK _ _ ?_
          clear hK K
          refine wpAny_take (i := 27) (v := .slice (some ⟨g4, 0, none⟩) (k + 1) c4) rfl (by kernel_rfl) (by kernel_rfl) (by kernel_rfl) (fun _ _ _ h => h) (Or.inl ⟨by rfl, fun w => by first | (go_simp; done) | (go_simp; rfl)⟩) ?_
          refine wpAny_done (by kernel_rfl) ?_ _
          have HB6 := Lib.hid (HB.out.trans (r2.mono (Nat.le_refl _)))
          have HO6 := Lib.hid r1
          clear r1 r2 r3 r4 r5 r6 e0 e1 e2 e3 E0 E1 E2 E3
          go_wp2
          go_roundw
          case rel =>
            refine ⟨k + 1, some ⟨g4, 0, none⟩, c4, hlt, ?_, rfl, ?_, HB6.out⟩
            · have q1 := HK5.out
              congr 1
              omega
            · rw [tilesAt_succ, wangs_append, HTL.out]
              exact HO6.out
          case measure =>
            have q1 := HK5.out
            simp [intOf]
            omega
        · obtain rfl : k = n := by omega
          have i1 : ¬ ((k5 : Int) + 3 < (s.size : Int)) := by omega
          have c0 : IntKind.i64.wrap ((k5 : Int) + 3) = (k5 : Int) + 3 := by rw [IntWalk.i64_left]; exact IntWalk.wrap64_in _ (by omega)
          have hfm := specFmt av cv (tilesAt L k) wr (by rw [tilesAt_length]; omega) (ownsRow_cellsAt HOWN.out)
          rw [tilesAt_length] at hfm
          have HFM := Lib.hid hfm
          have HTLE := Lib.hid (tilesAt_length L k)
          clear hfm hk5 hnn
          by_cases hq : okI L
          · have hfs : fmtW (tilesAt L k) = s := ba_of_list (by rw [HL.out]; exact HOK.out.1 hq)
            rw [hfs] at HFM
            have HQ := Lib.hid hq
            have hne := ba_ne s
            clear hfs hq
            go_wp2_with fail
            refine HFM.out.mono ?_
            rintro e w3 ⟨rfl, hb3⟩
            have HO3 := Lib.hid (ownsRow_far_below HOWN.out hb3 (Nat.le_refl _))
            have HB3 := Lib.hid (HB.out.trans (hb3.mono hsz))
            clear hb3
            go_wp2
            go_ret2
            rw [HPT.out HQ.out, decide_eq_true HQ.out, HTLE.out]
            exact ⟨av, cv, rfl, HO3.out, HB3.out⟩
          · have hfs : fmtW (tilesAt L k) ≠ s := fun q => hq (HOK.out.2 (by rw [q]; exact HL.out))
            have hne : (fmtW (tilesAt L k) != s) = true := ba_neq hfs
            have hne2 : (fmtW (tilesAt L k) == s) = false := by simpa [bne] using hne
            have hne3 : (!(fmtW (tilesAt L k)).toList == s.toList) = true := by
              have q : ((fmtW (tilesAt L k)).toList == s.toList) = false := beq_false_of_ne (fun e => hfs (ba_of_list (by rw [← ByteArray.toList_eq, ← ByteArray.toList_eq]; exact e)))
              rw [q]
              rfl
            have HQ := Lib.hid hq
            clear hq
            generalize fmtW (tilesAt L k) = F at HFM hne hne2 hne3 hfs
            go_wp2_with fail
            refine HFM.out.mono ?_
            rintro e w3 ⟨rfl, hb3⟩
            have HB3 := Lib.hid (HB.out.trans (hb3.mono hsz))
            have hs3 := HB3.out.size
            have HOE3 := Lib.hid (ownsRow_rebase (ownsRow_empty w3 45 4) hs3)
            have HBE3 := Lib.hid (HB3.out.trans (((Below.refl w3.heap.size w3).alloc (Nat.le_refl _) (.cells #[] 45)).mono hs3))
            clear hb3
            go_wp2
            go_ret2
            rw [HPN.out HQ.out, decide_eq_false HQ.out]
            exact ⟨_, _, rfl, HOE3.out, HBE3.out⟩
    · obtain ⟨hp, hd⟩ := parse_no (s := s.data.toList) (fun q => h40 q.2.1)
      rw [hp, hd]
      have g1 : decide ((40 : Int) < (s.size : Int)) = true := decide_eq_true (by omega)
      have g2 : decide (40 < s.size) = true := decide_eq_true (by omega)
      clear hp hd hss h5
      go_enter Tryd.func13, Tryd.ntmps13
      go_wp2
      go_ret2
      exact ⟨_, _, rfl, HOE.out, HBE.out⟩
  · obtain ⟨hp, hd⟩ := parse_no (s := s.data.toList) (fun q => h5 q.1)
    rw [hp, hd]
    have hne : ((((s.size % 5 : Nat) : Int)) != 4) = true := by
      simp only [bne_iff_ne]
      omega
    generalize s.size % 5 = r at hmod hne
    clear hp hd hss h5
    go_enter Tryd.func13, Tryd.ntmps13
    go_wp2
    go_ret2
    exact ⟨_, _, rfl, HOE.out, HBE.out⟩
end Go.Proofs.YtdnklmdmafbogaaDoor
