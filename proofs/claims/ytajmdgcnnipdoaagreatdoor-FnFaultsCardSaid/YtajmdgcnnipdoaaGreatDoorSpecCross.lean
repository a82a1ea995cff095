/- SpecCross: the walk of the reference's CrossingsOf; two slices of integers that a call returns. -/
import Derived.Test.YtajmdgcnnipdoaaGreatDoorAllCr
import Derived.Test.YtajmdgcnnipdoaaGreatDoorAllBase
import Derived.StillTailTactics
import Derived.Deep.DrawnRows
namespace Go.Proofs.YtajmdgcnnipdoaaGreatDoor
open Go.RowKit

attribute [local go_sem ↓] Go.wp_at_zero Go.wp_at_succ

/-- The call returns two slices that hold the lists, each in memory of its own. -/
def TwoRows (w : World) (e : Ending) (w' : World) (r0 r1 : List Int) : Prop :=
  ∃ a0 c0 a1 c1 lo0 hi0 lo1 hi1, e = .returned (.tuple #[.slice a0 r0.length c0, .slice a1 r1.length c1]) ∧ Owned w' lo0 hi0 3 1 a0 r0.length c0 (ints r0) ∧ Owned w' lo1 hi1 3 1 a1 r1.length c1 (ints r1) ∧
    w.heap.size ≤ lo0 ∧ lo0 ≤ hi0 ∧ hi0 ≤ w'.heap.size ∧ w.heap.size ≤ lo1 ∧ lo1 ≤ hi1 ∧ hi1 ≤ w'.heap.size ∧ (hi0 ≤ lo1 ∨ hi1 ≤ lo0) ∧ Below w.heap.size w w'
/-- The span of blocks of an owned slice. -/
theorem owned_span {w : World} {base B e size n cap : Nat} {ad : Option Addr} {xs : List Value} (h : w.ownsRow base e size (.slice ad n cap) n xs) (hB : B ≤ base) (hw : B ≤ w.heap.size) :
    ∃ lo hi, Owned w lo hi e size ad n cap xs ∧ B ≤ lo ∧ lo ≤ hi ∧ hi ≤ w.heap.size ∧ ((Value.slice ad n cap).ownBlock = none ∧ lo = B ∧ hi = B ∨ (Value.slice ad n cap).ownBlock = some lo ∧ hi = lo + 1) := by
  rcases h.2 with ⟨h1, h2⟩ | ⟨g, cap', cur, h1, h2, h3, r⟩
  · cases h1
    exact ⟨B, B, ⟨⟨h.1, .inl ⟨rfl, h2⟩⟩, fun k hk => by cases hk⟩, Nat.le_refl _, Nat.le_refl _, hw, .inl ⟨rfl, rfl, rfl⟩⟩
  · cases h1
    have hlt := (Array.getElem?_eq_some_iff.1 h3).1
    exact ⟨g, g + 1, ⟨⟨h.1, .inr ⟨g, cap, cur, rfl, Nat.le_refl _, h3, r⟩⟩, fun k hk => by cases hk; exact Nat.lt_succ_self _⟩, by omega, Nat.le_succ _, hlt, .inr ⟨rfl, rfl⟩⟩
theorem TwoRows.mk {w w' : World} {a0 a1 : Option Addr} {c0 c1 b0 b1 : Nat} {r0 r1 : List Int} (h0 : w'.ownsRow b0 3 1 (.slice a0 r0.length c0) r0.length (ints r0)) (h1 : w'.ownsRow b1 3 1 (.slice a1 r1.length c1) r1.length (ints r1))
    (q0 : w.heap.size ≤ b0) (q1 : w.heap.size ≤ b1) (hne : ∀ g, (Value.slice a0 r0.length c0).ownBlock = some g → (Value.slice a1 r1.length c1).ownBlock ≠ some g) (hb : Below w.heap.size w w') :
    TwoRows w (.returned (.tuple #[.slice a0 r0.length c0, .slice a1 r1.length c1])) w' r0 r1 := by
  obtain ⟨lo0, hi0, o0, x0, y0, z0, f0⟩ := owned_span h0 q0 hb.size
  obtain ⟨lo1, hi1, o1, x1, y1, z1, f1⟩ := owned_span h1 q1 hb.size
  refine ⟨a0, c0, a1, c1, lo0, hi0, lo1, hi1, rfl, o0, o1, x0, y0, z0, x1, y1, z1, ?_, hb⟩
  rcases f0 with ⟨_, e0, e0'⟩ | ⟨e0, e0'⟩
  · left; omega
  · rcases f1 with ⟨_, e1, e1'⟩ | ⟨e1, e1'⟩
    · right; omega
    · have := hne _ e0
      have h2 : lo0 ≠ lo1 := fun q => this (q ▸ e1)
      omega

set_option maxRecDepth 100000 in
set_option maxHeartbeats 3200000 in
theorem specCrossings (b : Int) (ad al : Option Addr) (c cl : Nat) (xs ls : List Int) (w : World) (hn : xs.length ≤ 1048576) (hnl : ls.length ≤ 1048576) (hwl : ∀ x ∈ ls, (Lit.int .i64 x).wf = true) (hc : CellsAt w ad (ints xs)) (hcl : CellsAt w al (ints ls)) :
    Calls Tryz.prog 10 #[.agg #[.int .i64 b, .slice ad xs.length c], .slice al ls.length cl] w fun e w' => TwoRows w e w' (acrossL b xs ls) (downL b xs ls) := by
  have hreg := fun w (h : CellsAt w ad (ints xs)) => specReg b ad c xs w hn h
  have HC := Lib.hid hc
  have HCL := Lib.hid hcl
  have HWL := Lib.hid hwl
  have hl := ints_length xs
  have hll := ints_length ls
  clear hc hcl hwl
  have hbA : Below w.heap.size w (((w.alloc (.cells #[.int .i64 b, .slice ad xs.length c] 26)).alloc (.cells #[] 3)).alloc (.cells #[] 3)) := (((Below.refl _ _).alloc (Nat.le_refl _) _).alloc (by simp) _).alloc (by simp; omega) _
  have hzA : (((w.alloc (.cells #[.int .i64 b, .slice ad xs.length c] 26)).alloc (.cells #[] 3)).alloc (.cells #[] 3)).heap.size = w.heap.size + 3 := by simp
  have hblkA : (((w.alloc (.cells #[.int .i64 b, .slice ad xs.length c] 26)).alloc (.cells #[] 3)).alloc (.cells #[] 3)).heap[w.heap.size]? = some (.cells #[.int .i64 b, .slice ad xs.length c] 26 (0, 0)) := by
    rw [Below.heap_alloc _ _ _ (by simp; omega), Below.heap_alloc _ _ _ (by simp)]
    exact heap_alloc_new w _
  have ho1 : (((w.alloc (.cells #[.int .i64 b, .slice ad xs.length c] 26)).alloc (.cells #[] 3)).alloc (.cells #[] 3)).ownsRow (w.heap.size + 1) 3 1 (.slice (some ⟨w.heap.size + 1, 0, none⟩) 0 0) 0 [] := by
    have h := ownsRow_empty (w.alloc (.cells #[.int .i64 b, .slice ad xs.length c] 26)) 3 1
    have e : (w.alloc (.cells #[.int .i64 b, .slice ad xs.length c] 26)).heap.size = w.heap.size + 1 := by simp
    rw [e] at h
    exact h.alloc _
  have ho2 : (((w.alloc (.cells #[.int .i64 b, .slice ad xs.length c] 26)).alloc (.cells #[] 3)).alloc (.cells #[] 3)).ownsRow (w.heap.size + 2) 3 1 (.slice (some ⟨w.heap.size + 2, 0, none⟩) 0 0) 0 [] := by
    have h := ownsRow_empty ((w.alloc (.cells #[.int .i64 b, .slice ad xs.length c] 26)).alloc (.cells #[] 3)) 3 1
    have e : ((w.alloc (.cells #[.int .i64 b, .slice ad xs.length c] 26)).alloc (.cells #[] 3)).heap.size = w.heap.size + 2 := by simp
    rw [e] at h
    exact h
  by_cases hr : Reg b xs
  · have ha : acrossL b xs ls = cntL colX b xs ls (b.toNat - 1) ls.length := if_pos hr
    have hd : downL b xs ls = cntL colY b xs ls (xs.length - 1) ls.length := if_pos hr
    rw [decide_eq_true hr] at hreg
    obtain ⟨B, rfl, hB1, hB2⟩ := int_le_nat hr.1.1 hr.1.2
    have hcrX := fun v x w hx hv (h : CellsAt w ad (ints xs)) => specCrossX B ad c xs v x w hx hr hv h
    have hcrY := fun v x w hx hv (h : CellsAt w ad (ints xs)) => specCrossY B ad c xs v x w hx hr hv h
    have hl1 := hr.2.1.1
    have hl6 := hr.2.1.2
    obtain ⟨n0, hn0⟩ : ∃ n0, n0 = B - 1 := ⟨_, rfl⟩
    obtain ⟨n1, hn1⟩ : ∃ n1, n1 = xs.length - 1 := ⟨_, rfl⟩
    rw [show ((B : Int)).toNat - 1 = n0 by rw [Int.toNat_natCast, hn0]] at ha
    rw [← hn1] at hd
    have hn0' : n0 ≤ B - 1 := by omega
    have hn0'' : B - 1 ≤ n0 := by omega
    have hn1' : n1 ≤ xs.length - 1 := by omega
    have hn1'' : xs.length - 1 ≤ n1 := by omega
    have HA := Lib.hid ha
    have HD := Lib.hid hd
    have HCRX := Lib.hid hcrX
    have HCRY := Lib.hid hcrY
    have HREG := Lib.hid hreg
    clear ha hd hcrX hcrY hreg hr hn0 hn1
    go_enter Tryz.func10, Tryz.ntmps10
    go_wp2
    generalize (((w.alloc (.cells #[.int .i64 (B : Int), .slice ad xs.length c] 26)).alloc (.cells #[] 3)).alloc (.cells #[] 3)) = wA at hbA hzA hblkA ho1 ho2 ⊢
    have HBA := Lib.hid hbA
    have HZA := Lib.hid hzA
    have HBLKA := Lib.hid hblkA
    have HO1 := Lib.hid ho1
    have HO2 := Lib.hid ho2
    clear hbA hzA hblkA ho1 ho2
    go_loopw [6, 8] (fun s i wr => ∃ j : Nat, j ≤ n0 ∧ i = .int .i64 ((j : Int) + 1) ∧ wr.ownsRow (w.heap.size + 1) 3 1 s j (ints (cntL colX B xs ls j ls.length)) ∧ (s.ownBlock ≠ some (w.heap.size + 2)) ∧ wr.ownsRow (w.heap.size + 2) 3 1 (.slice (some ⟨w.heap.size + 2, 0, none⟩) 0 0) 0 [] ∧ Below (w.heap.size + 1) wA wr) (fun _ i _ => n0 + 1 - (intOf i).toNat)
    case atStart =>
      exact ⟨0, by omega, by simp, HO1.out, by simp [Value.ownBlock], HO2.out, Below.refl _ _⟩
    case round =>
      obtain ⟨j, hj, rfl, hown, hne, hkeep, hb⟩ := hrel
      obtain ⟨wo, rfl⟩ : ∃ wo, wo = wr := ⟨_, rfl⟩
      have HW := Lib.hid hown
      have HNE := Lib.hid hne
      have HK := Lib.hid hkeep
      have HB := Lib.hid hb
      have hszo := hb.size
      have hzA := HZA.out
      have hblk := (hb.block w.heap.size (by omega)).trans HBLKA.out
      have x0 : wo.cell? ⟨w.heap.size, 0, none⟩ = some (.int .i64 B) := by rw [cell_of_row wo _ 0 _ _ _ hblk]; rfl
      have x1 : wo.cell? ⟨w.heap.size, 1, none⟩ = some (.slice ad xs.length c) := by rw [cell_of_row wo _ 1 _ _ _ hblk]; rfl
      have HBW := Lib.hid (HBA.out.trans (hb.mono (Nat.le_succ _)))
      clear hown hne hkeep hb hblk
      by_cases hjl : j < n0
      · have dlt : decide ((j : Int) + 1 < (B : Int)) = true := by simp; omega
        go_wp2_with fail
        refine (HREG.out _ (HC.out.below HBW.out)).mono ?_
        rintro e w1 ⟨rfl, hb1⟩
        have HB1 := Lib.hid hb1
        have hsz1 := hb1.size
        clear hb1 x0 x1
        go_wp2
        go_loopw [9, 10] (fun s i wr => ∃ q : Nat, q ≤ ls.length ∧ i = .int .i64 q ∧ s = .int .i64 (cntTo colX B xs ls (j : Int) q : Nat) ∧ Below wo.heap.size wo wr) (fun _ i _ => ls.length - (intOf i).toNat)
        case atStart => exact ⟨0, by omega, rfl, by rw [cntTo_zero]; rfl, HB1.out⟩
        case round =>
          obtain ⟨q, hq, rfl, rfl, hb⟩ := hrel
          obtain ⟨wi, rfl⟩ : ∃ wi, wi = wr := ⟨_, rfl⟩
          have HBI := Lib.hid hb
          have hle := cntTo_le colX B xs ls (j : Int) q
          have hbi := HB.out.trans (hb.mono (by omega))
          have hblk := (hbi.block w.heap.size (by omega)).trans HBLKA.out
          have x0 : wi.cell? ⟨w.heap.size, 0, none⟩ = some (.int .i64 B) := by rw [cell_of_row wi _ 0 _ _ _ hblk]; rfl
          have x1 : wi.cell? ⟨w.heap.size, 1, none⟩ = some (.slice ad xs.length c) := by rw [cell_of_row wi _ 1 _ _ _ hblk]; rfl
          have HBIW := Lib.hid (HBA.out.trans (hbi.mono (Nat.le_succ _)))
          have hszi := hb.size
          clear hb hbi hblk
          by_cases hql : q < ls.length
          · obtain ⟨g, off, rfl, hg, hcc⟩ := HCL.out.open (by omega)
            have y0 := (HBIW.out.cell (p := ⟨g, off + q, none⟩) hg).trans (hcc q _ (ints_at ls q hql))
            have hsu := cntTo_succ colX B xs ls (j : Int) q hql
            have hwf := HWL.out _ (List.getElem_mem hql)
            generalize ls[q] = v at y0 hsu hwf
            have hcr := fun w => HCRX.out v ((j : Int) + 1) w (by omega) hwf
            rw [preX_eq] at hcr
            have HWF := Lib.hid hwf
            have hqi : (q : Int) < (ls.length : Int) := by omega
            obtain ⟨u, hu⟩ : ∃ u, u = cntTo colX B xs ls (j : Int) q := ⟨_, rfl⟩
            rw [← hu] at hsu hle ⊢
            generalize colX (maskC B xs v) (j : Int) = bb at hsu hcr
            have HCR := Lib.hid hcr
            clear hcc hcr hwf hu
            cases bb
            · have HSU := Lib.hid (hsu.trans (by simp : u + (if false = true then 1 else 0) = u))
              clear hsu
              go_wp2
              go_still_tail 6, (by kernel_rfl)
              go_wp2_with fail
              refine (HCR.out _ (HC.out.below HBIW.out.drew)).mono ?_
              rintro e w2 ⟨rfl, hb2⟩
              go_wp2
              go_roundw
              case rel => exact ⟨q + 1, by omega, by go_num, by rw [HSU.out], HBI.out.trans (((Below.refl _ _).drew.trans (hb2.mono (Nat.le_refl _))).mono hszi)⟩
              case measure => simp [intOf]; omega
            · have HSU := Lib.hid (hsu.trans (by simp : u + (if true = true then 1 else 0) = u + 1))
              clear hsu
              go_wp2
              go_still_tail 6, (by kernel_rfl)
              go_wp2_with fail
              refine (HCR.out _ (HC.out.below HBIW.out.drew)).mono ?_
              rintro e w2 ⟨rfl, hb2⟩
              go_wp2
              go_roundw
              case rel => exact ⟨q + 1, by omega, by go_num, by rw [HSU.out]; go_num, HBI.out.trans (((Below.refl _ _).drew.trans (hb2.mono (Nat.le_refl _))).mono hszi)⟩
              case measure => simp [intOf]; omega
          · obtain rfl : q = ls.length := by omega
            have hfar := ownsRow_far_below HW.out HBI.out (Nat.le_refl _)
            have hkf := ownsRow_far_below HK.out HBI.out (Nat.le_refl _)
            have HF := Lib.hid hfar
            have HKF := Lib.hid hkf
            have HSN := Lib.hid (cntL_snoc colX B xs ls j ls.length)
            have hlc := cntL_length colX B xs ls j ls.length
            have hltk := hkf.lt
            have HLTK := Lib.hid hltk
            clear hfar hkf hltk
            go_wp2_with (at_builtin; refine wpList_app1 rfl (.tmp 41) (.tmp 43) 24 rfl (w.heap.size + 1) 3 _ 1 8 Tryz.elemInt _ j _ _ _ _ rfl rfl rfl HF.out (by rfl) (by simp [Value.oneCell']) (by unfold maxLen; omega) (by omega) (by omega) ?_; intro g' cap w3 q1 q2 q3 q4 q5 q6)
            go_wp2
            go_roundw
            case rel =>
              refine ⟨j + 1, by omega, by go_num, by rw [HSN.out, ints_append]; exact q1, ?_, ?_, HB.out.trans ((HBI.out.mono (by omega)).trans q2)⟩
              · rcases q6 with q6 | q6
                · exact fun h => HNE.out (q6.trans h)
                · simp only [Value.ownBlock, ne_eq, Option.some.injEq]; omega
              · exact HKF.out.kept q3 (.inr (by rw [show (Value.slice (some ⟨w.heap.size + 2, 0, none⟩) 0 0).ownBlock = some (w.heap.size + 2) from rfl]; exact fun h => HNE.out h.symm))
            case measure => simp [intOf]; omega
      · obtain rfl : n0 = j := by omega
        have dlt : decide ((n0 : Int) + 1 < (B : Int)) = false := by simp; omega
        have hne2 : ∀ g, u6.ownBlock = some g → (Value.slice (some ⟨w.heap.size + 2, 0, none⟩) 0 0).ownBlock ≠ some g := fun g hg h => HNE.out (by rw [hg]; exact h.symm)
        have HNE2 := Lib.hid hne2
        have HSC := Lib.hid HW.out
        have HBC := Lib.hid HB.out
        have HKX := Lib.hid HK.out
        obtain ⟨s0, hs0⟩ : ∃ s0, s0 = u6 := ⟨_, rfl⟩
        rw [← hs0] at HNE2 HSC ⊢
        obtain ⟨wc, rfl⟩ : ∃ wc, wc = wo := ⟨_, rfl⟩
        clear hne2 HW HNE HK HB hs0 hszo hj hjl
        go_wp2
        go_loopw [7, 11] (fun s i wr => ∃ j : Nat, j ≤ n1 ∧ i = .int .i64 ((j : Int) + 1) ∧ wr.ownsRow (w.heap.size + 1) 3 1 s j (ints (cntL colY B xs ls j ls.length)) ∧ (∀ g, s0.ownBlock = some g → s.ownBlock ≠ some g) ∧ wr.ownsRow (w.heap.size + 1) 3 1 s0 n0 (ints (cntL colX B xs ls n0 ls.length)) ∧ Below (w.heap.size + 1) wA wr) (fun _ i _ => n1 + 1 - (intOf i).toNat)
        case atStart =>
          exact ⟨0, by omega, by simp, ownsRow_rebase HKX.out (by omega), HNE2.out, HSC.out, HBC.out⟩
        case round =>
          obtain ⟨j, hj, rfl, hown, hne, hkeep, hb⟩ := hrel
          obtain ⟨wo, rfl⟩ : ∃ wo, wo = wr := ⟨_, rfl⟩
          have HW := Lib.hid hown
          have HNE := Lib.hid hne
          have HK := Lib.hid hkeep
          have HB := Lib.hid hb
          have hszo := hb.size
          have hzA := HZA.out
          have hblk := (hb.block w.heap.size (by omega)).trans HBLKA.out
          have x0 : wo.cell? ⟨w.heap.size, 0, none⟩ = some (.int .i64 B) := by rw [cell_of_row wo _ 0 _ _ _ hblk]; rfl
          have x1 : wo.cell? ⟨w.heap.size, 1, none⟩ = some (.slice ad xs.length c) := by rw [cell_of_row wo _ 1 _ _ _ hblk]; rfl
          have HBW := Lib.hid (HBA.out.trans (hb.mono (Nat.le_succ _)))
          clear hown hne hkeep hb hblk
          by_cases hjl : j < n1
          · have dlt : decide ((j : Int) + 1 < (xs.length : Int)) = true := by simp; omega
            go_wp2_with fail
            refine (HREG.out _ (HC.out.below HBW.out)).mono ?_
            rintro e w1 ⟨rfl, hb1⟩
            have HB1 := Lib.hid hb1
            have hsz1 := hb1.size
            clear hb1 x0 x1
            go_wp2
            go_loopw [12, 13] (fun s i wr => ∃ q : Nat, q ≤ ls.length ∧ i = .int .i64 q ∧ s = .int .i64 (cntTo colY B xs ls (j : Int) q : Nat) ∧ Below wo.heap.size wo wr) (fun _ i _ => ls.length - (intOf i).toNat)
            case atStart => exact ⟨0, by omega, rfl, by rw [cntTo_zero]; rfl, HB1.out⟩
            case round =>
              obtain ⟨q, hq, rfl, rfl, hb⟩ := hrel
              obtain ⟨wi, rfl⟩ : ∃ wi, wi = wr := ⟨_, rfl⟩
              have HBI := Lib.hid hb
              have hle := cntTo_le colY B xs ls (j : Int) q
              have hbi := HB.out.trans (hb.mono (by omega))
              have hblk := (hbi.block w.heap.size (by omega)).trans HBLKA.out
              have x0 : wi.cell? ⟨w.heap.size, 0, none⟩ = some (.int .i64 B) := by rw [cell_of_row wi _ 0 _ _ _ hblk]; rfl
              have x1 : wi.cell? ⟨w.heap.size, 1, none⟩ = some (.slice ad xs.length c) := by rw [cell_of_row wi _ 1 _ _ _ hblk]; rfl
              have HBIW := Lib.hid (HBA.out.trans (hbi.mono (Nat.le_succ _)))
              have hszi := hb.size
              clear hb hbi hblk
              by_cases hql : q < ls.length
              · obtain ⟨g, off, rfl, hg, hcc⟩ := HCL.out.open (by omega)
                have y0 := (HBIW.out.cell (p := ⟨g, off + q, none⟩) hg).trans (hcc q _ (ints_at ls q hql))
                have hsu := cntTo_succ colY B xs ls (j : Int) q hql
                have hwf := HWL.out _ (List.getElem_mem hql)
                generalize ls[q] = v at y0 hsu hwf
                have hcr := fun w => HCRY.out v ((j : Int) + 1) w (by omega) hwf
                rw [preY_eq] at hcr
                have HWF := Lib.hid hwf
                have hqi : (q : Int) < (ls.length : Int) := by omega
                obtain ⟨u, hu⟩ : ∃ u, u = cntTo colY B xs ls (j : Int) q := ⟨_, rfl⟩
                rw [← hu] at hsu hle ⊢
                generalize colY (maskC B xs v) (j : Int) = bb at hsu hcr
                have HCR := Lib.hid hcr
                clear hcc hcr hwf hu
                cases bb
                · have HSU := Lib.hid (hsu.trans (by simp : u + (if false = true then 1 else 0) = u))
                  clear hsu
                  go_wp2
                  go_still_tail 6, (by kernel_rfl)
                  go_wp2_with fail
                  refine (HCR.out _ (HC.out.below HBIW.out.drew)).mono ?_
                  rintro e w2 ⟨rfl, hb2⟩
                  go_wp2
                  go_roundw
                  case rel => exact ⟨q + 1, by omega, by go_num, by rw [HSU.out], HBI.out.trans (((Below.refl _ _).drew.trans (hb2.mono (Nat.le_refl _))).mono hszi)⟩
                  case measure => simp [intOf]; omega
                · have HSU := Lib.hid (hsu.trans (by simp : u + (if true = true then 1 else 0) = u + 1))
                  clear hsu
                  go_wp2
                  go_still_tail 6, (by kernel_rfl)
                  go_wp2_with fail
                  refine (HCR.out _ (HC.out.below HBIW.out.drew)).mono ?_
                  rintro e w2 ⟨rfl, hb2⟩
                  go_wp2
                  go_roundw
                  case rel => exact ⟨q + 1, by omega, by go_num, by rw [HSU.out]; go_num, HBI.out.trans (((Below.refl _ _).drew.trans (hb2.mono (Nat.le_refl _))).mono hszi)⟩
                  case measure => simp [intOf]; omega
              · obtain rfl : q = ls.length := by omega
                have hfar := ownsRow_far_below HW.out HBI.out (Nat.le_refl _)
                have hkf := ownsRow_far_below HK.out HBI.out (Nat.le_refl _)
                have HF := Lib.hid hfar
                have HKF := Lib.hid hkf
                have HSN := Lib.hid (cntL_snoc colY B xs ls j ls.length)
                have hlc := cntL_length colY B xs ls j ls.length
                have hltk := hkf.lt
                have HLTK := Lib.hid hltk
                clear hfar hkf hltk
                go_wp2_with (at_builtin; refine wpList_app1 rfl (.tmp 71) (.tmp 73) 24 rfl (w.heap.size + 1) 3 _ 1 8 Tryz.elemInt _ j _ _ _ _ rfl rfl rfl HF.out (by rfl) (by simp [Value.oneCell']) (by unfold maxLen; omega) (by omega) (by omega) ?_; intro g' cap w3 q1 q2 q3 q4 q5 q6)
                go_wp2
                go_roundw
                case rel =>
                  refine ⟨j + 1, by omega, by go_num, by rw [HSN.out, ints_append]; exact q1, ?_, ?_, HB.out.trans ((HBI.out.mono (by omega)).trans q2)⟩
                  · intro g0 hg0
                    rcases q6 with q6 | q6
                    · exact fun h => HNE.out g0 hg0 (q6.trans h)
                    · have := (HLTK.out g0 hg0).2
                      simp only [Value.ownBlock, ne_eq, Option.some.injEq]; omega
                  · refine HKF.out.kept q3 ?_
                    cases hs0 : s0.ownBlock with
                    | none => exact .inl rfl
                    | some g0 => exact .inr (fun h => HNE.out g0 hs0 h.symm)
                case measure => simp [intOf]; omega
          · obtain rfl : n1 = j := by omega
            have dlt : decide ((n1 : Int) + 1 < (xs.length : Int)) = false := by simp; omega
            go_wp2
            go_ret2
            rw [HA.out, HD.out]
            obtain ⟨a0, c0, rfl, _⟩ := ownsRow_cells HK.out
            obtain ⟨a1, c1, rfl, _⟩ := ownsRow_cells HW.out
            have t := TwoRows.mk (w := w) (w' := wo) (a0 := a0) (c0 := c0) (a1 := a1) (c1 := c1) (b0 := w.heap.size + 1) (b1 := w.heap.size + 1) (r0 := cntL colX B xs ls n0 ls.length) (r1 := cntL colY B xs ls n1 ls.length) (by rw [cntL_length]; exact HK.out) (by rw [cntL_length]; exact HW.out) (Nat.le_succ _) (Nat.le_succ _) (by rw [cntL_length, cntL_length]; exact HNE.out) HBW.out
            rw [cntL_length, cntL_length] at t
            exact t
  · have ha : acrossL b xs ls = [] := if_neg hr
    have hd : downL b xs ls = [] := if_neg hr
    rw [decide_eq_false hr] at hreg
    have HA := Lib.hid ha
    have HD := Lib.hid hd
    have HREG := Lib.hid hreg
    clear ha hd hreg hr
    go_enter Tryz.func10, Tryz.ntmps10
    go_wp2
    generalize (((w.alloc (.cells #[.int .i64 b, .slice ad xs.length c] 26)).alloc (.cells #[] 3)).alloc (.cells #[] 3)) = wA at hbA hzA hblkA ho1 ho2 ⊢
    have HBA := Lib.hid hbA
    have HZA := Lib.hid hzA
    have HBLKA := Lib.hid hblkA
    have HO1 := Lib.hid ho1
    have HO2 := Lib.hid ho2
    clear hbA hblkA ho1 ho2
    go_loopw [6, 8] (fun s i wr => s = .slice (some ⟨w.heap.size + 1, 0, none⟩) 0 0 ∧ i = .int .i64 1 ∧ wA = wr) (fun _ _ _ => 0)
    case atStart => exact ⟨rfl, rfl, rfl⟩
    case round =>
      obtain ⟨rfl, rfl, rfl⟩ := hrel
      have x0 : wA.cell? ⟨w.heap.size, 0, none⟩ = some (.int .i64 b) := by rw [cell_of_row wA _ 0 _ _ _ HBLKA.out]; rfl
      have x1 : wA.cell? ⟨w.heap.size, 1, none⟩ = some (.slice ad xs.length c) := by rw [cell_of_row wA _ 1 _ _ _ HBLKA.out]; rfl
      by_cases hbx : 1 < b
      · go_wp2_with fail
        refine (HREG.out _ (HC.out.below HBA.out)).mono ?_
        rintro e wq ⟨rfl, hb1⟩
        have HP1 := Lib.hid (ownsRow_far_below HO1.out hb1 (Nat.le_refl _))
        have HR1 := Lib.hid (ownsRow_far_below HO2.out hb1 (Nat.le_refl _))
        have HBQ := Lib.hid (hb1.mono (show w.heap.size + 1 ≤ wA.heap.size by omega))
        clear hb1 x0 x1
        go_wp2
        go_loopw [7, 11] (fun s i wr => s = .slice (some ⟨w.heap.size + 2, 0, none⟩) 0 0 ∧ i = .int .i64 1 ∧ wq = wr) (fun _ _ _ => 0)
        case atStart => exact ⟨rfl, rfl, rfl⟩
        case round =>
          obtain ⟨rfl, rfl, rfl⟩ := hrel
          have hblk := (HBQ.out.block w.heap.size (by omega)).trans HBLKA.out
          have x0 : wq.cell? ⟨w.heap.size, 0, none⟩ = some (.int .i64 b) := by rw [cell_of_row wq _ 0 _ _ _ hblk]; rfl
          have x1 : wq.cell? ⟨w.heap.size, 1, none⟩ = some (.slice ad xs.length c) := by rw [cell_of_row wq _ 1 _ _ _ hblk]; rfl
          clear hblk
          by_cases hx : 1 < xs.length
          · go_wp2_with fail
            refine (HREG.out _ (HC.out.below (HBA.out.trans (HBQ.out.mono (Nat.le_succ _))))).mono ?_
            rintro e w2 ⟨rfl, hb2⟩
            have HP2 := Lib.hid (ownsRow_far_below HP1.out hb2 (Nat.le_refl _))
            have HR2 := Lib.hid (ownsRow_far_below HR1.out hb2 (Nat.le_refl _))
            have HB2 := Lib.hid (HBA.out.trans ((HBQ.out.mono (Nat.le_succ _)).trans (hb2.mono (by have := HBQ.out.size; omega))))
            clear hb2 x0 x1
            go_wp2
            go_ret2
            rw [HA.out, HD.out]
            exact TwoRows.mk (w := w) (r0 := []) (r1 := []) HP2.out HR2.out (Nat.le_succ _) (by omega) (by intro g hg h; simp only [Value.ownBlock, Option.some.injEq] at hg h; omega) HB2.out
          · go_wp2
            go_ret2
            rw [HA.out, HD.out]
            exact TwoRows.mk (w := w) (r0 := []) (r1 := []) HP1.out HR1.out (Nat.le_succ _) (by omega) (by intro g hg h; simp only [Value.ownBlock, Option.some.injEq] at hg h; omega) (HBA.out.trans (HBQ.out.mono (Nat.le_succ _)))
      · have dbx : decide ((1 : Int) < b) = false := decide_eq_false hbx
        have HP1 := Lib.hid HO1.out
        have HR1 := Lib.hid HO2.out
        have HBQ := Lib.hid (Below.refl (w.heap.size + 1) wA)
        go_wp2
        clear x0 x1
        go_loopw [7, 11] (fun s i wr => s = .slice (some ⟨w.heap.size + 2, 0, none⟩) 0 0 ∧ i = .int .i64 1 ∧ wA = wr) (fun _ _ _ => 0)
        case atStart => exact ⟨rfl, rfl, rfl⟩
        case round =>
          obtain ⟨rfl, rfl, rfl⟩ := hrel
          have hblk := (HBQ.out.block w.heap.size (by omega)).trans HBLKA.out
          have x0 : wA.cell? ⟨w.heap.size, 0, none⟩ = some (.int .i64 b) := by rw [cell_of_row wA _ 0 _ _ _ hblk]; rfl
          have x1 : wA.cell? ⟨w.heap.size, 1, none⟩ = some (.slice ad xs.length c) := by rw [cell_of_row wA _ 1 _ _ _ hblk]; rfl
          clear hblk
          by_cases hx : 1 < xs.length
          · go_wp2_with fail
            refine (HREG.out _ (HC.out.below (HBA.out.trans (HBQ.out.mono (Nat.le_succ _))))).mono ?_
            rintro e w2 ⟨rfl, hb2⟩
            have HP2 := Lib.hid (ownsRow_far_below HP1.out hb2 (Nat.le_refl _))
            have HR2 := Lib.hid (ownsRow_far_below HR1.out hb2 (Nat.le_refl _))
            have HB2 := Lib.hid (HBA.out.trans ((HBQ.out.mono (Nat.le_succ _)).trans (hb2.mono (by have := HBQ.out.size; omega))))
            clear hb2 x0 x1
            go_wp2
            go_ret2
            rw [HA.out, HD.out]
            exact TwoRows.mk (w := w) (r0 := []) (r1 := []) HP2.out HR2.out (Nat.le_succ _) (by omega) (by intro g hg h; simp only [Value.ownBlock, Option.some.injEq] at hg h; omega) HB2.out
          · go_wp2
            go_ret2
            rw [HA.out, HD.out]
            exact TwoRows.mk (w := w) (r0 := []) (r1 := []) HP1.out HR1.out (Nat.le_succ _) (by omega) (by intro g hg h; simp only [Value.ownBlock, Option.some.injEq] at hg h; omega) (HBA.out.trans (HBQ.out.mono (Nat.le_succ _)))
end Go.Proofs.YtajmdgcnnipdoaaGreatDoor
