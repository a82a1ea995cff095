/- DrawT: short texts that the reference draws: l1Text, l1Pick, l1Spoil. -/
import Derived.Test.YtdnklmdmafbogaaDoorDraw1
import Derived.Laws.BytesArg
import Derived.Laws.IdiomStrings
import Derived.BigRegion
import Derived.Deep.Cut
import Derived.Deep.RegionHeld3
namespace Go.Proofs.YtdnklmdmafbogaaDoor
open Go.RowKit

attribute [local go_sem ↓] Go.wp_at_zero Go.wp_at_succ

theorem Tryd.infoByte : (Tryd.prog.info? 5).map (fun i => (i.zero, i.size, i.bytes)) = some (some (.int .u8 0), 1, 1) := by kernel_rfl
theorem Tryd.elemByte : ElemT Tryd.prog 33 5 (.int .u8 0) 1 1 := ⟨Tryd.underlying33, info_parts Tryd.infoByte, rfl, by decide⟩
def byts (xs : List Int) : List Value := xs.map (Value.int .u8)
theorem byts_length (xs : List Int) : (byts xs).length = xs.length := by simp [byts]
theorem byts_snoc (xs : List Int) (v : Int) : byts (xs ++ [v]) = byts xs ++ [.int .u8 v] := by simp [byts]
theorem str_size (xs : List Int) : (strOfNums xs).size = xs.length := by
  show (strOfNums xs).data.size = _
  simp [strOfNums]
/-- A row of bytes, as a text. -/
theorem bytes_text {w : World} {base n cap : Nat} {ad : Option Addr} {xs : List Int} (h : w.ownsRow base 5 1 (.slice ad n cap) n (byts xs)) (hn : xs.length = n) :
    ∃ s : ByteArray, s.size = n ∧ Sem.run Tryd.prog (convert 33 9 (.slice ad n cap)) w = .ok (.string s) w := by
  cases ad with
  | none =>
    have hz : n = 0 := by
      rcases h.2 with ⟨h1, _⟩ | ⟨g, c, cur, h1, _⟩
      · injection h1 with _ h2 _
      · injection h1 with h2 _ _; cases h2
    exact ⟨ByteArray.empty, by rw [hz]; rfl, run_convert_bytes_nil w 33 5 Tryd.underlying33 Tryd.underlying5 n cap 9 Tryd.underlying9⟩
  | some a =>
    obtain ⟨g, rfl⟩ : ∃ g, a = ⟨g, 0, none⟩ := by
      rcases h.2 with ⟨h1, _⟩ | ⟨g, c, cur, h1, _⟩
      · injection h1 with h2 _ _; cases h2
      · injection h1 with h2 _ _; injection h2 with h3; exact ⟨g, h3⟩
    refine ⟨strOfNums xs, by rw [str_size, hn], run_convert_bytes_arg w 33 5 Tryd.underlying33 Tryd.underlying5 g 0 n cap xs hn (fun i hi => ?_) 9 Tryd.underlying9⟩
    rw [Nat.zero_add, h.cellAt i (by omega)]
    simp [byts, show i < xs.length by omega]

set_option maxRecDepth 100000 in
set_option maxHeartbeats 3200000 in
theorem l1Text_any (g : Nat) (bs : List Nat) (w : World) (hc : Curs w g bs) :
    Calls Tryd.prog 88 #[.pointer (some ⟨g, 0, none⟩), .int .i64 3] w fun e w' => ∃ s : ByteArray, e = .returned (.string s) ∧ s.size ≤ 3 ∧ Curs w' g bs ∧ w.grownBy w' (some g) := by
  have HE := Lib.hid (ownsRow_empty w 5 1)
  have hgw := hc.lt
  have hbA : Below w.heap.size w (w.alloc (.cells #[] 5)) := (Below.refl _ _).alloc (Nat.le_refl _) _
  have HCA := Lib.hid (hc.below hbA hgw)
  have HGA := Lib.hid (grown_below (row := some g) hbA)
  clear hc hbA
  go_enter Tryd.func88, Tryd.ntmps88
  go_upto_region 2 with (fail)
  generalize w.alloc (.cells #[] 5) = wA at HE HCA HGA ⊢
  have HD := Lib.hid (drawBelow g bs 4 wA HCA.out (by decide))
  go_wp2_with fail
  refine HD.out.mono ?_
  rintro e w1 ⟨md, rfl, hmd, hc1, hg1⟩
  have HG1 := Lib.hid (grownBy_trans HGA.out hg1)
  have HE1 := Lib.hid (own_grown HE.out hg1 hgw)
  have HD2 := Lib.hid (drawBelow g bs 4 w1 hc1 (by decide))
  clear hc1 hg1 HCA HE
  go_wp2_with fail
  refine HD2.out.mono ?_
  rintro e w2 ⟨m0, rfl, hm0, hc2, hg2⟩
  have HC2 := Lib.hid hc2
  have HG2 := Lib.hid (grownBy_trans HG1.out hg2)
  have HE2 := Lib.hid (own_grown HE1.out hg2 hgw)
  have hmd1 : ((md : Int) == 1) = decide (md = 1) := by by_cases q : md = 1 <;> simp [q] <;> omega
  have hmd2 : ((md : Int) == 2) = decide (md = 2) := by by_cases q : md = 2 <;> simp [q] <;> omega
  clear hc2 hg2 HE1 HG1 HGA hmd1 hmd2
  go_wp2
  go_loopw [5, 7] (fun v i wr => ∃ m : Nat, m ≤ 3 ∧ i = .int .i64 m ∧ ∃ xs : List Int, xs.length + m ≤ 3 ∧ wr.ownsRow w.heap.size 5 1 v xs.length (byts xs) ∧ Curs wr g bs ∧ w.grownBy wr (some g)) (fun _ i _ => (intOf i).toNat)
  case atStart => exact ⟨m0, by omega, rfl, [], by simp; omega, HE2.out, HC2.out, HG2.out⟩
  case round =>
    obtain ⟨m, hm, rfl, xs, hx3, hown, hcr, hgr⟩ := hrel
    have HO := Lib.hid hown
    have HCR := Lib.hid hcr
    have HGR := Lib.hid hgr
    have hsz : w.heap.size ≤ wr.heap.size := hgr.size
    clear hown hcr hgr
    by_cases h0 : 0 < m
    · have hd : decide (0 < m) = true := decide_eq_true h0
      have hd2 : decide ((0 : Int) < (m : Int)) = true := decide_eq_true (by omega)
      obtain ⟨p, rfl⟩ : ∃ p, m = p + 1 := ⟨m - 1, by omega⟩
      have HD := Lib.hid (drawByte g bs wr HCR.out)
      go_wp2_with fail
      refine HD.out.mono ?_
      rintro e w3 ⟨z, rfl, hz, hc3, hg3⟩
      have HC3 := Lib.hid hc3
      have HG3 := Lib.hid (grownBy_trans HGR.out hg3)
      have HO3 := Lib.hid (own_grown HO.out hg3 hgw)
      have hsz3 : w.heap.size ≤ w3.heap.size := HG3.out.size
      clear hc3 hg3 HGR HO HCR
      obtain ⟨v2, hv2⟩ : ∃ v : Nat, v = z % 2 := ⟨_, rfl⟩
      obtain ⟨v4, hv4⟩ : ∃ v : Nat, v = z % 4 := ⟨_, rfl⟩
      have e2 : (z : Int) % 2 = (v2 : Int) := by omega
      have e2t : (z : Int).tmod 2 = (v2 : Int) := by rw [hv2]; norm_cast
      have e4 : (z : Int) % 4 = (v4 : Int) := by omega
      have e4t : (z : Int).tmod 4 = (v4 : Int) := by rw [hv4]; norm_cast
      have l2 : v2 < 2 := by omega
      have l4 : v4 < 4 := by omega
      obtain ⟨v97, hv97⟩ : ∃ v : Nat, v = 97 + v4 := ⟨_, rfl⟩
      have e97 : (97 : Int) + (v4 : Int) = (v97 : Int) := by omega
      have w97 : IntKind.i64.wrap (v97 : Int) = (v97 : Int) := IntWalk.i64_in _ (by omega)
      have l97 : v97 ≤ 255 := by omega
      clear hv2 hv4 hv97
      by_cases h1 : md = 1
      · subst h1
        clear e4 e4t l4 e97 w97 l97
        go_wp2_with (at_builtin; refine wpList_app1 rfl (.tmp 31) (.tmp 34) 33 rfl w.heap.size 5 _ 1 1 Tryd.elemByte _ xs.length _ _ _ _ rfl rfl rfl HO3.out (by rfl) (by simp [Value.oneCell']) (by unfold maxLen; omega) (by omega) (by omega) ?_; intro g' cap w4 q1 q2 q3 q4 q5 q6)
        go_roundw
        case rel =>
          refine ⟨p, by omega, by go_num, xs ++ [(v2 : Int)], by rw [List.length_append, List.length_singleton]; omega, ?_, HC3.out.below q2 hgw, grown_then HG3.out q2⟩
          rw [byts_snoc, List.length_append, List.length_singleton]
          exact q1
        case measure => simp [intOf]; try omega
      · by_cases h2 : md = 2
        · subst h2
          clear e2 e2t l2 h1
          go_wp2_with (at_builtin; refine wpList_app1 rfl (.tmp 31) (.tmp 34) 33 rfl w.heap.size 5 _ 1 1 Tryd.elemByte _ xs.length _ _ _ _ rfl rfl rfl HO3.out (by rfl) (by simp [Value.oneCell']) (by unfold maxLen; omega) (by omega) (by omega) ?_; intro g' cap w4 q1 q2 q3 q4 q5 q6)
          go_roundw
          case rel =>
            refine ⟨p, by omega, by go_num, xs ++ [(v97 : Int)], by rw [List.length_append, List.length_singleton]; omega, ?_, HC3.out.below q2 hgw, grown_then HG3.out q2⟩
            rw [byts_snoc, List.length_append, List.length_singleton]
            exact q1
          case measure => simp [intOf]; try omega
        · have n1 : ((md : Int) == 1) = false := by simp; omega
          have n2 : ((md : Int) == 2) = false := by simp; omega
          clear e2 e2t l2 e4 e4t l4 e97 w97 l97
          go_wp2_with (at_builtin; refine wpList_app1 rfl (.tmp 31) (.tmp 34) 33 rfl w.heap.size 5 _ 1 1 Tryd.elemByte _ xs.length _ _ _ _ rfl rfl rfl HO3.out (by rfl) (by simp [Value.oneCell']) (by unfold maxLen; omega) (by omega) (by omega) ?_; intro g' cap w4 q1 q2 q3 q4 q5 q6)
          go_roundw
          case rel =>
            refine ⟨p, by omega, by go_num, xs ++ [(z : Int)], by rw [List.length_append, List.length_singleton]; omega, ?_, HC3.out.below q2 hgw, grown_then HG3.out q2⟩
            rw [byts_snoc, List.length_append, List.length_singleton]
            exact q1
          case measure => simp [intOf]; try omega
    · obtain rfl : m = 0 := by omega
      have hd : decide (0 < (0 : Nat)) = false := rfl
      obtain ⟨av, cv, rfl, _⟩ := ownsRow_cells HO.out
      obtain ⟨s, hs, hcv⟩ := bytes_text HO.out rfl
      have HS := Lib.hid hs
      have hs3 : s.size ≤ 3 := by omega
      clear hs
      go_wp2
      go_ret
      exact ⟨s, rfl, hs3, HCR.out, HGR.out⟩

/-- One byte in fresh memory, as a text. -/
theorem byte_text (w : World) (x : Int) : Sem.run Tryd.prog (convert 33 9 (.slice (some ⟨w.heap.size, 0, none⟩) 1 1)) (w.alloc (.cells #[.int .u8 x] 5)) = .ok (.string (strOfNums [x])) (w.alloc (.cells #[.int .u8 x] 5)) :=
  run_convert_bytes_arg (P := Tryd.prog) (w.alloc (.cells #[.int .u8 x] 5)) 33 5 Tryd.underlying33 Tryd.underlying5 w.heap.size 0 1 1 [x] rfl (fun i hi => by
    obtain rfl : i = 0 := Nat.lt_one_iff.1 hi
    rw [World.cell?_alloc_mark]
    rfl) 9 Tryd.underlying9
theorem cut_size (s : ByteArray) (a b : Nat) : (s.extract a b).size ≤ s.size := by
  rw [ByteArray.size_extract]
  omega
theorem two_size (a b : ByteArray) : (a ++ b).size = a.size + b.size := ByteArray.size_append

set_option maxRecDepth 100000 in
set_option maxHeartbeats 3200000 in
theorem l1Spoil_any (g : Nat) (bs : List Nat) (s : ByteArray) (w : World) (hc : Curs w g bs) (hs : s.size ≤ 100) :
    Calls Tryd.prog 69 #[.pointer (some ⟨g, 0, none⟩), .string s] w fun e w' => ∃ t : ByteArray, e = .returned (.string t) ∧ t.size ≤ 300 ∧ Curs w' g bs ∧ w.grownBy w' (some g) := by
  by_cases h0 : s.size = 0
  · have hz : ((s.size : Int) == 0) = true := by rw [h0]; rfl
    have HT := Lib.hid (l1Text_any g bs w hc)
    clear hc
    go_enter Tryd.func69, Tryd.ntmps69
    go_wp2_with fail
    refine HT.out.mono ?_
    rintro e w1 ⟨t, rfl, ht, hc1, hg1⟩
    have HC1 := Lib.hid hc1
    have HG1 := Lib.hid hg1
    clear hc1 hg1
    go_wp2
    go_ret
    exact ⟨t, rfl, by omega, HC1.out, HG1.out⟩
  · have hz : ((s.size : Int) == 0) = false := beq_false_of_ne (by omega)
    have HD := Lib.hid (drawBelow g bs s.size w hc (by omega))
    clear hc h0
    go_enter Tryd.func69, Tryd.ntmps69
    go_wp2_with fail
    refine HD.out.mono ?_
    rintro e w1 ⟨k, rfl, hk, hc1, hg1⟩
    have HD1 := Lib.hid (drawBelow g bs 4 w1 hc1 (by decide))
    have HG1 := Lib.hid hg1
    clear hc1 hg1
    go_wp2_with fail
    refine HD1.out.mono ?_
    rintro e w2 ⟨md, rfl, hmd, hc2, hg2⟩
    have HC2 := Lib.hid hc2
    have HG2 := Lib.hid (grownBy_trans HG1.out hg2)
    have hgw := HC2.out.lt
    obtain ⟨k1, hk1⟩ : ∃ k1 : Nat, k1 = k + 1 := ⟨_, rfl⟩
    have i0 : (k : Int) ≤ (s.size : Int) := by omega
    have i00 : (k : Int) < (s.size : Int) := by omega
    have i1 : (k : Int) + 1 = (k1 : Int) := by omega
    have i2 : IntKind.i64.wrap (k1 : Int) = (k1 : Int) := IntWalk.i64_in _ (by omega)
    have i3 : (k1 : Int) ≤ (s.size : Int) := by omega
    have ea := cut_size s 0 k
    have eb := cut_size s k1 s.size
    have ec := cut_size s k s.size
    have eab := two_size (s.extract 0 k) (s.extract k1 s.size)
    clear hc2 hg2 hk1
    have HC2d := Lib.hid (show Curs w2.drew g bs from HC2.out.below ((Below.refl _ _).drew) hgw)
    have HG2d := Lib.hid (grownBy_trans HG2.out (grownBy_drew w2 (some g)))
    obtain rfl | rfl | rfl | rfl : md = 0 ∨ md = 1 ∨ md = 2 ∨ md = 3 := by omega
    · go_wp2
      go_region
      go_wp2
      go_ret
      exact ⟨_, rfl, by first | omega | (simp only [two_size]; omega), HC2d.out, HG2d.out⟩
    · have HD3 := Lib.hid (drawByte g bs w2.drew HC2d.out)
      go_wp2
      refine wp_region_any (by kernel_rfl) ?_
      change wpAny _ _ _ _ _ _ _ (World.drew _)
      refine wpAny_take (i := 0) (v := .string s) rfl (by kernel_rfl) (by kernel_rfl) (by kernel_rfl) (fun _ _ _ h => h) (Or.inl ⟨by rfl, fun w => by first | (go_simp; done) | (go_simp; rfl) | (go_simp; omega)⟩) ?_
      refine wpAny_take (i := 1) (v := .int .i64 (k : Int)) rfl (by kernel_rfl) (by kernel_rfl) (by kernel_rfl) (fun _ _ _ h => h) (Or.inl ⟨by rfl, fun w => by first | (go_simp; done) | (go_simp; rfl) | (go_simp; omega)⟩) ?_
      refine wpAny_take (i := 2) (v := .string (s.extract 0 k)) rfl (by kernel_rfl) (by kernel_rfl) (by kernel_rfl) (fun _ _ _ h => h) (Or.inl ⟨by rfl, fun w => by first | (go_simp; done) | (go_simp; rfl) | (go_simp; omega)⟩) ?_
      refine wpAny_take (i := 3) (v := .pointer (some ⟨g, 0, none⟩)) rfl (by kernel_rfl) (by kernel_rfl) (by kernel_rfl) (fun _ _ _ h => h) (Or.inl ⟨by rfl, fun w => by first | (go_simp; done) | (go_simp; rfl) | (go_simp; omega)⟩) ?_
      refine wpAny_take (i := 9) (v := .string s) rfl (by kernel_rfl) (by kernel_rfl) (by kernel_rfl) (fun _ _ _ h => h) (Or.inl ⟨by rfl, fun w => by first | (go_simp; done) | (go_simp; rfl) | (go_simp; omega)⟩) ?_
      refine wpAny_take (i := 10) (v := .int .i64 (k : Int)) rfl (by kernel_rfl) (by kernel_rfl) (by kernel_rfl) (fun _ _ _ h => h) (Or.inl ⟨by rfl, fun w => by first | (go_simp; done) | (go_simp; rfl) | (go_simp; omega)⟩) ?_
      refine wpAny_take (i := 11) (v := .string (s.extract k s.size)) rfl (by kernel_rfl) (by kernel_rfl) (by kernel_rfl) (fun _ _ _ h => h) (Or.inl ⟨by rfl, fun w => by first | (go_simp; done) | (go_simp; rfl) | (go_simp; omega)⟩) ?_
      refine wpAny_ready (rs := [4]) (by kernel_rfl) (by simp) ?_
      refine AllReady.cons rfl (fun K hK => ?_) AllReady.nil
      go_simp
      go_wp2_with (refine HD3.out.mono ?_; rintro e w3 ⟨z, rfl, hz3, hc3, hg3⟩)
      have wz : IntKind.u8.wrap (z : Int) = (z : Int) := by simp [IntKind.wrap, IntKind.signed, IntKind.bits]; omega
      have hcv := byte_text w3 (z : Int)
      obtain ⟨tz, htz⟩ : ∃ tz, tz = strOfNums [(z : Int)] := ⟨_, rfl⟩
      have htz1 : tz.size = 1 := by rw [htz, str_size]; rfl
      rw [← htz] at hcv
      have e2 := two_size (s.extract 0 k) tz
      have e3 := two_size (s.extract 0 k ++ tz) (s.extract k s.size)
      clear htz
      refine wpAny_take (i := 5) (v := .int .u8 (z : Int)) rfl (by kernel_rfl) (by kernel_rfl) (by kernel_rfl) (fun _ _ _ h => h) (Or.inl ⟨by rfl, fun w => by first | (go_simp; done) | (go_simp; rfl) | (go_simp; omega)⟩) ?_
      refine wpAny_ready (rs := [6]) (by kernel_rfl) (by simp) ?_
      refine AllReady.cons rfl (fun K hK => ?_) AllReady.nil
      go_simp
      refine hK _ _ ?_
      clear hK K
      refine wpAny_ready (rs := [7]) (by kernel_rfl) (by simp) ?_
      refine AllReady.cons rfl (fun K hK => ?_) AllReady.nil
      go_simp
      refine hK _ _ ?_
      clear hK K
      refine wpAny_take (i := 8) (v := .string (s.extract 0 k ++ tz)) rfl (by kernel_rfl) (by kernel_rfl) (by kernel_rfl) (fun _ _ _ h => h) (Or.inl ⟨by rfl, fun w => by first | (go_simp; done) | (go_simp; rfl) | (go_simp; omega)⟩) ?_
      refine wpAny_take (i := 12) (v := .string (s.extract 0 k ++ tz ++ s.extract k s.size)) rfl (by kernel_rfl) (by kernel_rfl) (by kernel_rfl) (fun _ _ _ h => h) (Or.inl ⟨by rfl, fun w => by first | (go_simp; done) | (go_simp; rfl) | (go_simp; omega)⟩) ?_
      refine wpAny_take (i := 13) (v := .string (s.extract 0 k ++ tz ++ s.extract k s.size)) rfl (by kernel_rfl) (by kernel_rfl) (by kernel_rfl) (fun _ _ _ h => h) (Or.inl ⟨by rfl, fun w => by first | (go_simp; done) | (go_simp; rfl) | (go_simp; omega)⟩) ?_
      refine wpAny_done (by kernel_rfl) ?_ _
      have hb4 : Below w3.heap.size w3 (w3.alloc (.cells #[.int .u8 (z : Int)] 5)) := (Below.refl _ _).alloc (Nat.le_refl _) _
      have HC4 := Lib.hid (hc3.below hb4 hc3.lt)
      have HG4 := Lib.hid (grownBy_trans HG2d.out (grownBy_trans hg3 (grown_below hb4)))
      clear hc3 hg3 hb4 hcv
      go_wp2
      go_ret
      exact ⟨_, rfl, by omega, HC4.out, HG4.out⟩
    · go_wp2
      go_ret
      exact ⟨_, rfl, by omega, HC2.out, HG2.out⟩
    · have HD3 := Lib.hid (drawBelow g bs 255 w2.drew HC2d.out (by decide))
      obtain ⟨b, hb⟩ : ∃ b : UInt8, b = s[k]'hk := ⟨_, rfl⟩
      have e0 : ∀ h, s[((k : Int)).toNat]'h = b := fun h => by rw [hb]; congr 1
      have E0 : ∀ h, s[k]'h = b := fun h => by rw [hb]
      have hbt := b.toNat_lt
      have w0 : IntKind.i64.wrap (b.toNat : Int) = (b.toNat : Int) := IntWalk.i64_in _ (by omega)
      clear hb
      go_wp2
      refine wp_region_any (by kernel_rfl) ?_
      change wpAny _ _ _ _ _ _ _ (World.drew _)
      refine wpAny_take (i := 0) (v := .string s) rfl (by kernel_rfl) (by kernel_rfl) (by kernel_rfl) (fun _ _ _ h => h) (Or.inl ⟨by rfl, fun w => by first | (go_simp; done) | (go_simp; rfl) | (go_simp; omega)⟩) ?_
      refine wpAny_take (i := 1) (v := .int .i64 (k : Int)) rfl (by kernel_rfl) (by kernel_rfl) (by kernel_rfl) (fun _ _ _ h => h) (Or.inl ⟨by rfl, fun w => by first | (go_simp; done) | (go_simp; rfl) | (go_simp; omega)⟩) ?_
      refine wpAny_take (i := 2) (v := .string (s.extract 0 k)) rfl (by kernel_rfl) (by kernel_rfl) (by kernel_rfl) (fun _ _ _ h => h) (Or.inl ⟨by rfl, fun w => by first | (go_simp; done) | (go_simp; rfl) | (go_simp; omega)⟩) ?_
      refine wpAny_take (i := 3) (v := .string s) rfl (by kernel_rfl) (by kernel_rfl) (by kernel_rfl) (fun _ _ _ h => h) (Or.inl ⟨by rfl, fun w => by first | (go_simp; done) | (go_simp; rfl) | (go_simp; omega)⟩) ?_
      refine wpAny_take (i := 4) (v := .int .i64 (k : Int)) rfl (by kernel_rfl) (by kernel_rfl) (by kernel_rfl) (fun _ _ _ h => h) (Or.inl ⟨by rfl, fun w => by first | (go_simp; done) | (go_simp; rfl) | (go_simp; omega)⟩) ?_
      refine wpAny_take (i := 5) (v := .int .u8 (b.toNat : Int)) rfl (by kernel_rfl) (by kernel_rfl) (by kernel_rfl) (fun _ _ _ h => h) (Or.inl ⟨by rfl, fun w => by first | (go_simp; done) | (go_simp; rfl) | (go_simp; omega)⟩) ?_
      refine wpAny_take (i := 6) (v := .int .i64 (b.toNat : Int)) rfl (by kernel_rfl) (by kernel_rfl) (by kernel_rfl) (fun _ _ _ h => h) (Or.inl ⟨by rfl, fun w => by first | (go_simp; done) | (go_simp; rfl) | (go_simp; omega)⟩) ?_
      refine wpAny_take (i := 7) (v := .pointer (some ⟨g, 0, none⟩)) rfl (by kernel_rfl) (by kernel_rfl) (by kernel_rfl) (fun _ _ _ h => h) (Or.inl ⟨by rfl, fun w => by first | (go_simp; done) | (go_simp; rfl) | (go_simp; omega)⟩) ?_
      refine wpAny_take (i := 15) (v := .string s) rfl (by kernel_rfl) (by kernel_rfl) (by kernel_rfl) (fun _ _ _ h => h) (Or.inl ⟨by rfl, fun w => by first | (go_simp; done) | (go_simp; rfl) | (go_simp; omega)⟩) ?_
      refine wpAny_take (i := 16) (v := .int .i64 (k : Int)) rfl (by kernel_rfl) (by kernel_rfl) (by kernel_rfl) (fun _ _ _ h => h) (Or.inl ⟨by rfl, fun w => by first | (go_simp; done) | (go_simp; rfl) | (go_simp; omega)⟩) ?_
      refine wpAny_take (i := 17) (v := .int .i64 (k1 : Int)) rfl (by kernel_rfl) (by kernel_rfl) (by kernel_rfl) (fun _ _ _ h => h) (Or.inl ⟨by rfl, fun w => by first | (go_simp; done) | (go_simp; rfl) | (go_simp; omega)⟩) ?_
      refine wpAny_take (i := 18) (v := .string (s.extract k1 s.size)) rfl (by kernel_rfl) (by kernel_rfl) (by kernel_rfl) (fun _ _ _ h => h) (Or.inl ⟨by rfl, fun w => by first | (go_simp; done) | (go_simp; rfl) | (go_simp; omega)⟩) ?_
      refine wpAny_ready (rs := [8]) (by kernel_rfl) (by simp) ?_
      refine AllReady.cons rfl (fun K hK => ?_) AllReady.nil
      go_simp
      go_wp2_with (refine HD3.out.mono ?_; rintro e w3 ⟨z, rfl, hz3, hc3, hg3⟩)
      obtain ⟨xv, hxv⟩ : ∃ xv, bits .xor .i64 (b.toNat : Int) ((z + 1 : Nat) : Int) = xv := ⟨_, rfl⟩
      have hcv := byte_text w3 (IntKind.u8.wrap xv)
      obtain ⟨tz, htz⟩ : ∃ tz, tz = strOfNums [IntKind.u8.wrap xv] := ⟨_, rfl⟩
      have htz1 : tz.size = 1 := by rw [htz, str_size]; rfl
      rw [← htz] at hcv
      have e2 := two_size (s.extract 0 k) tz
      have e3 := two_size (s.extract 0 k ++ tz) (s.extract k1 s.size)
      clear htz
      obtain ⟨z1, hz1⟩ : ∃ z1 : Nat, z1 = z + 1 := ⟨_, rfl⟩
      have f1 : (1 : Int) + (z : Int) = (z1 : Int) := by omega
      have f2 : IntKind.i64.wrap (z1 : Int) = (z1 : Int) := IntWalk.i64_in _ (by omega)
      have f3 : bits .xor .i64 (b.toNat : Int) (z1 : Int) = xv := by rw [← hxv, hz1]
      clear hz1
      refine wpAny_take (i := 9) (v := .int .i64 (z1 : Int)) rfl (by kernel_rfl) (by kernel_rfl) (by kernel_rfl) (fun _ _ _ h => h) (Or.inl ⟨by rfl, fun w => by first | (go_simp; done) | (go_simp; rfl) | (go_simp; omega)⟩) ?_
      refine wpAny_take (i := 10) (v := .int .i64 xv) rfl (by kernel_rfl) (by kernel_rfl) (by kernel_rfl) (fun _ _ _ h => h) (Or.inl ⟨by rfl, fun w => by first | (go_simp; done) | (go_simp; rfl) | (go_simp; omega)⟩) ?_
      refine wpAny_take (i := 11) (v := .int .u8 (IntKind.u8.wrap xv)) rfl (by kernel_rfl) (by kernel_rfl) (by kernel_rfl) (fun _ _ _ h => h) (Or.inl ⟨by rfl, fun w => by first | (go_simp; done) | (go_simp; rfl) | (go_simp; omega)⟩) ?_
      refine wpAny_ready (rs := [12]) (by kernel_rfl) (by simp) ?_
      refine AllReady.cons rfl (fun K hK => ?_) AllReady.nil
      go_simp
      refine hK _ _ ?_
      clear hK K
      refine wpAny_ready (rs := [13]) (by kernel_rfl) (by simp) ?_
      refine AllReady.cons rfl (fun K hK => ?_) AllReady.nil
      go_simp
      refine hK _ _ ?_
      clear hK K
      refine wpAny_take (i := 14) (v := .string (s.extract 0 k ++ tz)) rfl (by kernel_rfl) (by kernel_rfl) (by kernel_rfl) (fun _ _ _ h => h) (Or.inl ⟨by rfl, fun w => by first | (go_simp; done) | (go_simp; rfl) | (go_simp; omega)⟩) ?_
      refine wpAny_take (i := 19) (v := .string (s.extract 0 k ++ tz ++ s.extract k1 s.size)) rfl (by kernel_rfl) (by kernel_rfl) (by kernel_rfl) (fun _ _ _ h => h) (Or.inl ⟨by rfl, fun w => by first | (go_simp; done) | (go_simp; rfl) | (go_simp; omega)⟩) ?_
      refine wpAny_take (i := 20) (v := .string (s.extract 0 k ++ tz ++ s.extract k1 s.size)) rfl (by kernel_rfl) (by kernel_rfl) (by kernel_rfl) (fun _ _ _ h => h) (Or.inl ⟨by rfl, fun w => by first | (go_simp; done) | (go_simp; rfl) | (go_simp; omega)⟩) ?_
      refine wpAny_done (by kernel_rfl) ?_ _
      have hb4 : Below w3.heap.size w3 (w3.alloc (.cells #[.int .u8 (IntKind.u8.wrap xv)] 5)) := (Below.refl _ _).alloc (Nat.le_refl _) _
      have HC4 := Lib.hid (hc3.below hb4 hc3.lt)
      have HG4 := Lib.hid (grownBy_trans HG2d.out (grownBy_trans hg3 (grown_below hb4)))
      clear hc3 hg3 hb4 hcv
      go_wp2
      go_ret
      exact ⟨_, rfl, by omega, HC4.out, HG4.out⟩
end Go.Proofs.YtdnklmdmafbogaaDoor
