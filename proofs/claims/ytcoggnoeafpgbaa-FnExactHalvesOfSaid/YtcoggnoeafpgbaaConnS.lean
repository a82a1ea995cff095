/- ConnS: the walk of the reference's IsConnectedShape. -/
import Derived.Test.YtcoggnoeafpgbaaConn0
import Derived.Test.YtcoggnoeafpgbaaAllShape
import Derived.Test.YtcoggnoeafpgbaaAllCr
import Derived.Test.YtcoggnoeafpgbaaAllFrame
import Derived.Test.YtcoggnoeafpgbaaPut0
import Derived.Lib.QuietBelow
import Derived.BigQuiet
import Derived.IntWalk
import Derived.Deep.DrawnRows
namespace Go.Proofs.Ytcoggnoeafpgbaa
open Go.RowKit

attribute [local go_sem ↓] Go.wp_at_zero Go.wp_at_succ

theorem shape_fit {s : List Cl} (h : Shape s) : ∀ c ∈ s, Fit c := fun c hc => by
  have := h.1.2 c hc
  unfold OnB at this
  unfold Fit
  omega
theorem shape_nodup {s : List Cl} (h : Shape s) : s.Nodup := h.1.1.imp fun {x y} hxy e => by subst e; rw [wholeC.irr] at hxy; cases hxy
theorem hasC_idx {s : List Cl} (hs : s.Nodup) {idx : List Nat} (hi : ∀ j ∈ idx, j < s.length) {k : Nat} (hk : k < s.length) : hasC (idx.map (at0 s)) (at0 s k).x (at0 s k).y = decide (k ∈ idx) := by
  unfold hasC
  refine decide_eq_decide.2 ⟨fun h => ?_, fun h => ?_⟩
  · obtain ⟨j, hj, e⟩ := List.mem_map.1 h
    have e' : at0 s j = at0 s k := e
    rw [at0_get (hi j hj), at0_get hk] at e'
    have := (List.getElem_inj hs).1 e'
    rw [← this]
    exact hj
  · exact List.mem_map.2 ⟨k, h, rfl⟩

theorem two_made {w W : World} {e : Nat} {x y : Value} (h : W.heap = w.heap.push (.cells #[x, y] e (0, 0))) : W.ownsRow w.heap.size e 2 (.slice (some ⟨w.heap.size, 0, none⟩) 1 1) 1 [x, y] := by
  refine ⟨by simp, .inr ⟨w.heap.size, 1, #[x, y], rfl, Nat.le_refl _, ?_, Nat.le_refl _, by decide, by simp, by simp⟩⟩
  rw [h]; simp

set_option maxRecDepth 100000 in
set_option maxHeartbeats 3200000 in
theorem specConn (ad : Option Addr) (c : Nat) (s : List Cl) (b : Bool) (w : World) (hs : Shape s) (hb : b = true ↔ Hangs s) (hc : CellsAt w ad (cls s)) :
    Calls Try.prog 17 #[.slice ad s.length c] w fun e w' => e = .returned (.bool b) ∧ Below w.heap.size w w' := by
  have hsh := specShape ad c s w (by have := hs.2.2; omega) hc
  rw [decide_eq_true hs] at hsh
  have HSH := Lib.hid hsh
  have HFIT := Lib.hid (shape_fit hs)
  have HND := Lib.hid (shape_nodup hs)
  have hn8 := hs.2.2
  have hn1 := hs.2.1
  have HC := Lib.hid hc
  have HB := Lib.hid hb
  have HNEAR := Lib.hid (fun a b w' ha hb => specNear a b w' ha hb)
  clear hs hsh hc hb
  go_enter Try.func17, Try.ntmps17
  go_wp2_with fail
  refine HSH.out.mono ?_
  rintro e w1 ⟨rfl, hb1⟩
  have HB1 := Lib.hid hb1
  have hz1 := hb1.size
  obtain ⟨g, off, rfl, hg, hcc⟩ := cl_open (HC.out.below hb1) (by omega)
  obtain ⟨x0, x1⟩ := hcc 0 (by omega)
  have x0' : w1.cell? ⟨g, off, none⟩ = some (.int .i64 s[0].x) := by simpa using x0
  have x1' : w1.cell? ⟨g, off + 1, none⟩ = some (.int .i64 s[0].y) := by simpa using x1
  have HCC := Lib.hid hcc
  have hz : at0 s 0 = s[0] := at0_get (by omega)
  obtain ⟨w2, hw2⟩ : ∃ w2, w2 = w1.alloc (.cells #[.int .i64 s[0].x, .int .i64 s[0].y] 39) := ⟨_, rfl⟩
  have hb2 : Below w1.heap.size w1 w2 := by rw [hw2]; exact (Below.refl _ _).alloc (Nat.le_refl _) _
  have ho2 : w2.ownsRow w1.heap.size 39 2 (.slice (some ⟨w1.heap.size, 0, none⟩) 1 1) 1 (cls ([0].map (at0 s))) := by
    rw [hw2]
    show (w1.alloc _).ownsRow _ _ _ _ _ [Value.int .i64 (at0 s 0).x, Value.int .i64 (at0 s 0).y]
    rw [hz]
    exact two_made rfl
  have HW2 := Lib.hid hw2
  have HB2 := Lib.hid hb2
  have HO2 := Lib.hid ho2
  clear hb1 hcc x0 x1 hw2 hb2 ho2
  go_wp2
  rw [← HW2.out]
  clear x0' x1' hz
  go_loopw [3, 4] (fun sv iv wr => ∃ (idx : List Nat) (i cv : Nat) (av : Option Addr), i ≤ idx.length ∧ iv = .int .i64 i ∧ sv = .slice av idx.length cv ∧ wr.ownsRow w1.heap.size 39 2 (.slice av idx.length cv) idx.length (cls (idx.map (at0 s))) ∧
    idx.Nodup ∧ (∀ j ∈ idx, j < s.length ∧ Rch s j) ∧ 0 ∈ idx ∧ (∀ p, p < i → ∀ j, j < s.length → near (at0 s (idx.getD p 0)) (at0 s j) = true → j ∈ idx) ∧ Below w1.heap.size w1 wr) (fun _ iv _ => s.length - (intOf iv).toNat)
  case atStart => exact ⟨[0], 0, 1, _, Nat.zero_le _, rfl, rfl, HO2.out, by simp, (fun j hj => by rw [List.mem_singleton] at hj; subst hj; exact ⟨by omega, .first (by omega)⟩), by simp, (fun p hp => by omega), HB2.out⟩
  case round =>
    obtain ⟨idx, i, cv, av, hi, rfl, rfl, hown, hnd, hin, h0, hcl, hb⟩ := hrel
    have HIN := Lib.hid hin
    have HND2 := Lib.hid hnd
    have H0 := Lib.hid h0
    have HCL := Lib.hid hcl
    have HBR := Lib.hid hb
    have hszr := hb.size
    have HOWN := Lib.hid hown
    have hfew := (few_lt s.length idx hnd (fun x hx => (hin x hx).1)).1
    by_cases hlt : i < idx.length
    · have i1 : (i : Int) < (idx.length : Int) := by omega
      have hii : idx[i] < s.length ∧ Rch s idx[i] := hin _ (List.getElem_mem hlt)
      have HII := Lib.hid hii
      clear hin hnd h0 hcl hb hown hii
      obtain ⟨wo, rfl⟩ : ∃ wo : World, wo = wr := ⟨_, rfl⟩
      go_wp2
      go_loopw [3, 5] (fun sv kv wr => ∃ (jdx : List Nat) (k cv : Nat) (av : Option Addr), k ≤ s.length ∧ kv = .int .i64 k ∧ sv = .slice av jdx.length cv ∧ wr.ownsRow w1.heap.size 39 2 (.slice av jdx.length cv) jdx.length (cls (jdx.map (at0 s))) ∧
        idx <+: jdx ∧ jdx.Nodup ∧ (∀ j ∈ jdx, j < s.length ∧ Rch s j) ∧ (∀ j, j < k → near (at0 s (idx.getD i 0)) (at0 s j) = true → j ∈ jdx) ∧ Below w1.heap.size w1 wr) (fun _ kv _ => s.length - (intOf kv).toNat)
      case atStart => exact ⟨idx, 0, cv, av, Nat.zero_le _, rfl, rfl, HOWN.out, List.prefix_refl _, HND2.out, HIN.out, (fun j hj => by omega), HBR.out⟩
      case round =>
        obtain ⟨jdx, k, cv2, av2, hk, rfl, rfl, hown, hpre, hnd, hin, hcl, hb⟩ := hrel
        have HPRE := Lib.hid hpre
        have HINj := Lib.hid hin
        have HNDj := Lib.hid hnd
        have HCLj := Lib.hid hcl
        have HBj := Lib.hid hb
        have hszj := hb.size
        have HOWNj := Lib.hid hown
        have hfewj := (few_lt s.length jdx hnd (fun x hx => (hin x hx).1)).1
        have hlj := hpre.length_le
        have hij : i < jdx.length := by omega
        have hgj : jdx[i] = idx[i] := (List.IsPrefix.getElem hpre hlt).symm
        by_cases hkl : k < s.length
        · have i2 : (k : Int) < (s.length : Int) := by omega
          have i3 : (i : Int) < (jdx.length : Int) := by omega
          have hcs := ownsRow_cellsAt hown
          obtain ⟨g2, off2, rfl, hg2, hcc2⟩ := cl_open hcs (by rw [List.length_map]; omega)
          obtain ⟨u0, u1⟩ := hcc2 i (by rw [List.length_map]; omega)
          rw [List.getElem_map, hgj] at u0 u1
          obtain ⟨y0, y1⟩ := HCC.out k hkl
          have v0 := (hb.cell (p := ⟨g, off + k * 2, none⟩) hg).trans y0
          have v1 := (hb.cell (p := ⟨g, off + k * 2 + 1, none⟩) hg).trans y1
          have hnn := HNEAR.out (at0 s idx[i]) s[k]
          have hfa : Fit (at0 s idx[i]) := by rw [at0_get HII.out.1]; exact HFIT.out _ (List.getElem_mem _)
          have hfb : Fit s[k] := HFIT.out _ (List.getElem_mem _)
          have HNR := Lib.hid (fun w' => hnn w' hfa hfb)
          have HHAS := Lib.hid (fun w' h => specHas (some ⟨g2, off2, none⟩) cv2 (jdx.map (at0 s)) (at0 s k).x (at0 s k).y w' (by rw [List.length_map]; omega) h)
          rw [hasC_idx HND.out (fun j hj => (hin j hj).1) hkl, List.length_map] at HHAS
          have hgd : idx.getD i 0 = idx[i] := by rw [List.getD_eq_getElem?_getD, List.getElem?_eq_getElem hlt]; rfl
          have hsk : at0 s k = s[k] := at0_get hkl
          rw [hsk] at HHAS
          have HSK := Lib.hid hsk
          have HGD := Lib.hid hgd
          have HCS := Lib.hid hcs
          clear hcc2 hcs y0 y1 hnn hfa hfb hgd hsk hown hpre hnd hin hcl hb hgj
          generalize hp : at0 s idx[i] = p at u0 u1 HNR HGD
          generalize hq : s[k] = q at v0 v1 HNR HHAS HSK
          have HPE := Lib.hid hp
          have HQE := Lib.hid hq
          clear hp hq
          generalize hnr : near p q = nr at HNR
          have HNRE := Lib.hid hnr
          clear hnr
          obtain ⟨px, py⟩ := p
          obtain ⟨qx, qy⟩ := q
          dsimp only at u0 u1 v0 v1 HNR HHAS
          have U0 := cell_regrown u0
          have U1 := cell_regrown u1
          have V0 := cell_regrown v0
          have V1 := cell_regrown v1
          have HNR2 := Lib.hid (fun d os => Calls.regrown_of (d := d) (os := os) (HNR.out (Go.Sort.grow (redrawn wr d) os)))
          cases nr with
          | true =>
            by_cases hkj : k ∈ jdx
            · rw [decide_eq_true hkj] at HHAS
              have HHAS2 := Lib.hid (fun d os => Calls.regrown_of (d := d) (os := os) ((HHAS.out (Go.Sort.grow (redrawn wr d) os) (HCS.out.below (below_regrown wr d os))).mono fun e w' q => (⟨q.1, by rw [← q.2]; exact Below.refl _ _⟩ : e = .returned (.bool true) ∧ Below (Go.Sort.grow (redrawn wr d) os).heap.size (Go.Sort.grow (redrawn wr d) os) w')))
              have HKJ := Lib.hid hkj
              clear hkj
              go_wp2
              refine wp_region_quiet_below (by kernel_rfl) (by kernel_rfl) ?_
              repeat (go_big_quiet_step (first | exact HNR2.out _ _ | exact HHAS2.out _ _))
              refine wpQuiet_nil ?_
              intro _ hw'
              obtain ⟨⟨dq, osq⟩, hw''⟩ := hw'
              subst hw''
              have hbr := below_regrown wr dq osq
              have z0 := V0 dq osq
              have z1 := V1 dq osq
              generalize Go.Sort.grow (redrawn wr dq) osq = w5 at hbr z0 z1 ⊢
              have HB5 := Lib.hid (HBj.out.trans (hbr.mono hszj))
              have hsz5 := HB5.out.size
              have HO5 := Lib.hid (ownsRow_far_below HOWNj.out hbr (Nat.le_refl _))
              clear hbr U0 U1 V0 V1 u0 u1 v0 v1
              go_wp2
              go_roundw
              case rel =>
                refine ⟨jdx, k + 1, cv2, _, hkl, by go_num, rfl, HO5.out, HPRE.out, HNDj.out, HINj.out, fun j hj hn => ?_, HB5.out⟩
                by_cases e : j = k
                · rw [e]; exact HKJ.out
                · exact HCLj.out j (by omega) hn
              case measure => simp [intOf]; omega
            · rw [decide_eq_false hkj] at HHAS
              have HHAS2 := Lib.hid (fun d os => Calls.regrown_of (d := d) (os := os) ((HHAS.out (Go.Sort.grow (redrawn wr d) os) (HCS.out.below (below_regrown wr d os))).mono fun e w' q => (⟨q.1, by rw [← q.2]; exact Below.refl _ _⟩ : e = .returned (.bool false) ∧ Below (Go.Sort.grow (redrawn wr d) os).heap.size (Go.Sort.grow (redrawn wr d) os) w')))
              have HKJ := Lib.hid hkj
              clear hkj
              go_wp2
              refine wp_region_quiet_below (by kernel_rfl) (by kernel_rfl) ?_
              repeat (go_big_quiet_step (first | exact HNR2.out _ _ | exact HHAS2.out _ _))
              refine wpQuiet_nil ?_
              intro _ hw'
              obtain ⟨⟨dq, osq⟩, hw''⟩ := hw'
              subst hw''
              have hbr := below_regrown wr dq osq
              have z0 := V0 dq osq
              have z1 := V1 dq osq
              generalize Go.Sort.grow (redrawn wr dq) osq = w5 at hbr z0 z1 ⊢
              have HB5 := Lib.hid (HBj.out.trans (hbr.mono hszj))
              have hsz5 := HB5.out.size
              have HO5 := Lib.hid (ownsRow_far_below HOWNj.out hbr (Nat.le_refl _))
              clear hbr U0 U1 V0 V1 u0 u1 v0 v1
              have hcl8 : (cls (jdx.map (at0 s))).length = jdx.length * 2 := by rw [cls_length, List.length_map]
              go_wp2_with (at_builtin; refine wpList_app1 rfl (.tmp 49) (.tmp 54) 36 rfl w1.heap.size 39 _ 2 16 Try.elemCl _ jdx.length (cls (jdx.map (at0 s))) _ _ _ rfl rfl rfl HO5.out (by rfl) (by simp [Value.oneCell']) (by unfold maxLen; omega) (by omega) (by omega) ?_; intro g4 c4 w6 r1 r2 r3 r4 r5 r6)
              have HB6 := Lib.hid (HB5.out.trans (r2.mono (Nat.le_refl _)))
              have HO6 := Lib.hid r1
              clear r1 r2 r3 r4 r5 r6
              go_roundw
              case rel =>
                have hlen : (jdx ++ [k]).length = jdx.length + 1 := by rw [List.length_append]; rfl
                refine ⟨jdx ++ [k], k + 1, c4, some ⟨g4, 0, none⟩, hkl, by go_num, by rw [hlen], ?_, HPRE.out.trans (List.prefix_append _ _), ?_, ?_, fun j hj hn => ?_, HB6.out⟩
                · rw [hlen, List.map_append, cls_append]
                  show w6.ownsRow _ _ _ _ _ (_ ++ [Value.int .i64 (at0 s k).x, Value.int .i64 (at0 s k).y])
                  rw [HSK.out]
                  exact HO6.out
                · exact List.nodup_append.2 ⟨HNDj.out, by simp, fun a ha b hb e => by rw [List.mem_singleton] at hb; subst hb; subst e; exact HKJ.out ha⟩
                · intro j hj
                  rcases List.mem_append.1 hj with hj | hj
                  · exact HINj.out j hj
                  · rw [List.mem_singleton] at hj
                    subst hj
                    refine ⟨hkl, .next HII.out.2 hkl ?_⟩
                    rw [HPE.out, HSK.out]
                    exact HNRE.out
                · by_cases e : j = k
                  · rw [e]; exact List.mem_append_right _ (List.mem_singleton.2 rfl)
                  · exact List.mem_append_left _ (HCLj.out j (by omega) hn)
              case measure => simp [intOf]; omega
          | false =>
            go_wp2
            refine wp_region_quiet_below (by kernel_rfl) (by kernel_rfl) ?_
            repeat (go_big_quiet_step (exact HNR2.out _ _))
            refine wpQuiet_nil ?_
            intro _ hw'
            obtain ⟨⟨dq, osq⟩, hw''⟩ := hw'
            subst hw''
            have hbr := below_regrown wr dq osq
            have z0 := V0 dq osq
            have z1 := V1 dq osq
            generalize Go.Sort.grow (redrawn wr dq) osq = w5 at hbr z0 z1 ⊢
            have HB5 := Lib.hid (HBj.out.trans (hbr.mono hszj))
            have hsz5 := HB5.out.size
            have HO5 := Lib.hid (ownsRow_far_below HOWNj.out hbr (Nat.le_refl _))
            clear hbr U0 U1 V0 V1 u0 u1 v0 v1
            go_wp2
            go_roundw
            case rel =>
              refine ⟨jdx, k + 1, cv2, _, hkl, by go_num, rfl, HO5.out, HPRE.out, HNDj.out, HINj.out, fun j hj hn => ?_, HB5.out⟩
              by_cases e : j = k
              · exfalso
                rw [e, HGD.out, HPE.out, HSK.out, HNRE.out] at hn
                cases hn
              · exact HCLj.out j (by omega) hn
            case measure => simp [intOf]; omega
        · obtain rfl : k = s.length := by omega
          clear hown hpre hnd hin hcl hb hgj
          go_wp2
          go_roundw
          case rel =>
            refine ⟨jdx, i + 1, cv2, av2, by omega, by go_num, rfl, HOWNj.out, HNDj.out, HINj.out, HPRE.out.subset H0.out, fun p hp j hj hn => ?_, HBj.out⟩
            have hpl : p < idx.length := by omega
            have hpj : jdx.getD p 0 = idx.getD p 0 := by
              rw [List.getD_eq_getElem?_getD, List.getD_eq_getElem?_getD, List.getElem?_eq_getElem (by omega : p < jdx.length), List.getElem?_eq_getElem hpl, List.IsPrefix.getElem HPRE.out hpl]
            rw [hpj] at hn
            by_cases e : p = i
            · rw [e] at hn
              exact HCLj.out j hj hn
            · exact HPRE.out.subset (HCL.out p (by omega) j hj hn)
          case measure => simp [intOf]; omega
    · obtain rfl : i = idx.length := by omega
      have hidx := hangs_idx hnd hin h0 (fun p hp j hj hn => by
        obtain ⟨q, hq, rfl⟩ := List.mem_iff_getElem.1 hp
        refine hcl q hq j hj ?_
        rw [List.getD_eq_getElem?_getD, List.getElem?_eq_getElem hq]
        exact hn)
      have hbe : ((idx.length : Int) == (s.length : Int)) = b := by
        rw [Bool.eq_iff_iff, HB.out, ← hidx, beq_iff_eq]
        omega
      have HBE := Lib.hid hbe
      clear hown hnd hin h0 hcl hb hidx hbe
      go_wp2
      go_ret
      exact ⟨by first | (rw [HBE.out]; done) | (rw [HBE.out]; rfl), HB1.out.trans (HBR.out.mono hz1)⟩
end Go.Proofs.Ytcoggnoeafpgbaa
