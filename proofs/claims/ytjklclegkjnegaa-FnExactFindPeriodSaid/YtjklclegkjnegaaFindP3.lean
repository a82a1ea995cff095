/- FindP3: the walk of the program's FindPeriod. -/
import Derived.Test.YtjklclegkjnegaaFindP2
namespace Go.Proofs.Ytjklclegkjnegaa
open Go.RowKit

/-- The number in the cell that a pointer names. -/
def behind (p : Value) (w : World) : Nat := match p with
  | .pointer (some a) => (intOf ((w.cell? a).getD undef)).toNat
  | _ => 0

theorem behind_at {w : World} {g : Nat} {x : Int} (h : w.heap[g]? = some (.cells #[.int .i64 x] 3 (0, 0))) : behind (.pointer (some ⟨g, 0, none⟩)) w = x.toNat := by
  unfold behind
  simp only [cell_of_one h]
  rfl

set_option maxHeartbeats 1600000 in
theorem implPer (ad : Option Addr) (c : Nat) (ts : List Tile) (w : World) (hn : ts.length ≤ 1048576) (hc : CellsAt w ad (wangs ts)) :
    Calls Try.prog 9 #[.slice ad ts.length c] w fun e w' => ∃ ad' cap' x a h b, e = .returned (.tuple #[.slice ad' x.length cap', .int .i64 a, .int .i64 h, .bool b]) ∧ PerRes ts x a h b ∧
      w'.ownsRow w.heap.size 3 1 (.slice ad' x.length cap') x.length (ints (nats x)) ∧ Below w.heap.size w w' := by
  have hb0 : Below w.heap.size w (w.alloc (.cells #[.slice ad ts.length c] 27)) := (Below.refl _ _).alloc (Nat.le_refl _) _
  have hare := implAre ad c ts (w.alloc (.cells #[.slice ad ts.length c] 27)) hn (hc.below hb0)
  have hbox := heap_alloc_new w (.cells #[.slice ad ts.length c] 27)
  have HARE := Lib.hid hare
  have HC := Lib.hid hc
  have HB0 := Lib.hid hb0
  have HBOX := Lib.hid hbox
  clear hare hc hb0 hbox
  by_cases hW : Wangs ts
  · rw [decide_eq_true hW] at HARE
    have HW := Lib.hid hW
    clear hW
    go_enter Try.func9, Try.ntmps9
    go_wp2_with fail
    refine HARE.out.mono ?_
    rintro e w1 ⟨rfl, hb1⟩
    have HB1 := Lib.hid (HB0.out.trans (hb1.mono HB0.out.size))
    have hx1 : w1.heap[w.heap.size]? = some (.cells #[.slice ad ts.length c] 27 (0, 0)) := by rw [hb1.block _ (lt_of_block HBOX.out)]; exact HBOX.out
    have HX1 := Lib.hid hx1
    clear hx1
    clear hb1
    go_wp2_with fail
    go_loopw [6] (fun i wr => ∃ k : Nat, 1 ≤ k ∧ k ≤ 10 ∧ i = .int .i64 k ∧ (∀ j, j < 3 * (k - 1) → perQ ts j = false) ∧ Below w.heap.size w wr ∧ wr.heap[w.heap.size]? = some (.cells #[.slice ad ts.length c] 27 (0, 0))) (fun i _ => 10 - (intOf i).toNat)
    case atStart => exact ⟨1, by omega, by omega, rfl, fun j hj => by omega, HB1.out, HX1.out⟩
    case round =>
      obtain ⟨k, hk1, hk2, rfl, hq, hb, hx⟩ := hrel
      have HQ := Lib.hid hq
      have HX := Lib.hid hx
      have HB := Lib.hid hb
      clear hq hx hb HX1 HB1
      by_cases hlt : k ≤ 9
      · have hltd : decide ((k : Int) ≤ 9) = true := by simp; omega
        go_wp2_with fail
        go_loopw [7] (fun p wr => ∃ m g : Nat, 1 ≤ m ∧ m ≤ 4 ∧ p = .pointer (some ⟨g, 0, none⟩) ∧ w.heap.size < g ∧ wr.heap[g]? = some (.cells #[.int .i64 m] 3 (0, 0)) ∧ (∀ j, j < 3 * (k - 1) + (m - 1) → perQ ts j = false) ∧ Below w.heap.size w wr ∧ wr.heap[w.heap.size]? = some (.cells #[.slice ad ts.length c] 27 (0, 0))) (fun p wr => 4 - behind p wr)
        case atStart =>
          refine ⟨1, wr.heap.size, by omega, by omega, rfl, ?_, heap_alloc_new _ _, HQ.out, HB.out.alloc HB.out.size _, ?_⟩
          · exact lt_of_block HX.out
          · rw [Below.heap_alloc _ _ _ (lt_of_block HX.out)]; exact HX.out
        case round =>
          obtain ⟨m, g, hm1, hm2, rfl, hg, hcell, hq2, hb2, hx2⟩ := hrel
          have HQ2 := Lib.hid hq2
          have HX2 := Lib.hid hx2
          have HB2 := Lib.hid hb2
          have HCELL := Lib.hid hcell
          have x7 := cell_of_one hcell
          have y7 := free_of_one hcell
          have x1 := cell_of_one hx2
          have z7 := lt_of_block hcell
          have z1 := lt_of_block hx2
          clear hq2 hx2 hb2 hcell
          by_cases hlt2 : m ≤ 3
          · obtain ⟨qd, hqd⟩ : ∃ q : Nat, q = k / m := ⟨_, rfl⟩
            obtain ⟨rm, hrm⟩ : ∃ r : Nat, r = k % m := ⟨_, rfl⟩
            have em : (k : Int) % (m : Int) = (rm : Int) := by rw [hrm]; norm_cast
            have ed : (k : Int) / (m : Int) = (qd : Int) := by rw [hqd]; norm_cast
            have hq9 : qd ≤ 9 := by rw [hqd]; exact Nat.le_trans (Nat.div_le_self _ _) hlt
            have hrl : rm < m := by rw [hrm]; exact Nat.mod_lt k (by omega)
            have hq1a : 0 ≤ (k : Int) / (m : Int) := by rw [ed]; omega
            have hq1b : (k : Int) / (m : Int) ≤ 9 := by rw [ed]; omega
            have hr1a : 0 ≤ (k : Int) % (m : Int) := by rw [em]; omega
            have hr1b : (k : Int) % (m : Int) ≤ 9 := by rw [em]; omega
            have hm0 : ¬ (m : Int) = 0 := by omega
            by_cases hdv : rm = 0
            · have hdvd : ((k : Int) % (m : Int) != 0) = false := by rw [em, hdv]; rfl
              have hqd1 : 1 ≤ qd := by
                have := Nat.div_add_mod k m
                rw [← hqd, ← hrm, hdv] at this
                rcases Nat.eq_zero_or_pos qd with h | h
                · rw [h, Nat.mul_zero] at this; omega
                · exact h
              by_cases hh : qd ≤ 3
              · obtain ⟨pb, hpb⟩ : ∃ pb, pb = someOf (perF ts m qd k []) := ⟨_, rfl⟩
                have hok : perOk ts k m = pb := by unfold perOk; rw [← hqd, ← hrm, hpb]; simp [hdv, hh]
                have hkm : m * qd = k := by have := Nat.div_add_mod k m; rw [← hqd, ← hrm, hdv] at this; omega
                have hba : Below wr.heap.size wr (wr.alloc (.cells #[.int .i64 (qd : Int)] 3)) := (Below.refl _ _).alloc (Nat.le_refl _) _
                have hbb : Below wr.heap.size wr (((wr.alloc (.cells #[.int .i64 (qd : Int)] 3)).alloc (.cells #[.slice none 0 0] 24)).alloc (.cells #[.bool false] 4)) := (hba.alloc hba.size _).alloc (hba.alloc hba.size _).size _
                have hbx := HB2.out.trans (hbb.mono HB2.out.size)
                have hI : PerI (wr.heap.size + 1) w.heap.size g wr.heap.size c m qd ad ts [] (((wr.alloc (.cells #[.int .i64 (qd : Int)] 3)).alloc (.cells #[.slice none 0 0] 24)).alloc (.cells #[.bool false] 4)) := by
                  refine ⟨⟨⟨none, 0, ?_, World.ownsRow_nil _ _ _ _⟩, ?_, HC.out.below hbx, fun g' off h h0 => by have := HC.out.lt g' off h h0; omega⟩, ⟨by omega, by omega, by omega⟩, ?_, ?_, ?_⟩
                  · rw [Below.heap_alloc _ _ _ (by simp)]
                    have := heap_alloc_new (wr.alloc (.cells #[.int .i64 (qd : Int)] 3)) (.cells #[.slice none 0 0] 24)
                    simpa using this
                  · have := heap_alloc_new ((wr.alloc (.cells #[.int .i64 (qd : Int)] 3)).alloc (.cells #[.slice none 0 0] 24)) (.cells #[.bool false] 4)
                    simpa using this
                  · rw [hbb.block _ z1]; exact HX2.out
                  · rw [hbb.block _ z7]; exact HCELL.out
                  · rw [Below.heap_alloc _ _ _ (by simp; omega), Below.heap_alloc _ _ _ (by simp)]; exact heap_alloc_new wr _
                have hfills := wangFills_any 26 #[.pointer (some ⟨w.heap.size, 0, none⟩), .pointer (some ⟨g, 0, none⟩), .pointer (some ⟨wr.heap.size, 0, none⟩), .pointer (some ⟨wr.heap.size + 1, 0, none⟩), .pointer (some ⟨wr.heap.size + 1 + 1, 0, none⟩)]
                  (wr.heap.size + 1) (wr.heap.size + 1 + 2) m qd ad c ts (PerI (wr.heap.size + 1) w.heap.size g wr.heap.size c m qd ad ts) (perCont ts m qd) hn ⟨hm1, by omega⟩ ⟨hqd1, by omega⟩ callFunc_per
                  (fun L w h => h.1.2.2.1) (fun L w w' h hb => perKept h hb) (fun L f w' af cf h _ hl hf ho => perVisit (wr.heap.size + 1) w.heap.size g wr.heap.size c m qd ad ts L f w' af cf hn ⟨hm1, by omega⟩ ⟨hqd1, by omega⟩ hl hf h ho)
                  k [] [] (((wr.alloc (.cells #[.int .i64 (qd : Int)] 3)).alloc (.cells #[.slice none 0 0] 24)).alloc (.cells #[.bool false] 4)) none 0 (by simp [hkm]) (InR.nil ts) hI (by simp) (World.ownsRow_nil _ _ _ _)
                have v0 := cell_of_one hI.2.2.1
                have v7 := cell_of_one hI.2.2.2.1
                have v8 := cell_of_one hI.2.2.2.2
                have hvis := visit_per ts m qd (fillsF ts m k []) [] rfl
                have hvis1 : ((visit (perCont ts m qd) (fillsF ts m k []) []).1.filter (clos ts m qd)).getLastD [] = firstOf (perF ts m qd k []) := hvis.1
                have hvis2 : (!((visit (perCont ts m qd) (fillsF ts m k []) []).1.filter (clos ts m qd)).isEmpty) = pb := by rw [hpb]; exact hvis.2
                have HF := Lib.hid hfills
                have HBX := Lib.hid hbx
                have HOK := Lib.hid hok
                have HQD := Lib.hid hqd
                have HV1 := Lib.hid hvis1
                have HV2 := Lib.hid hvis2
                have EM := Lib.hid em
                clear hfills hbx hbb hba hok hpb hqd hrm em hkm hdv hI hvis hvis1 hvis2
                go_wp2_with fail
                refine (between_yes _ _ _ _ (by omega) (by omega)).mono ?_
                rintro e w' ⟨rfl, rfl⟩
                go_wp2_with fail
                refine HF.out.mono ?_
                rintro e w3 ⟨rfl, hI3, ht3⟩
                have hB3 : Below w.heap.size w w3 := HBX.out.trans (ht3.below (by have := HBX.out.size; omega) HBX.out.size)
                obtain ⟨⟨⟨a0, c0, h1, h0⟩, h2, _, _⟩, _, k0, k7, k8⟩ := hI3
                rw [HV1.out] at h1 h0
                rw [HV2.out] at h2
                have w1c := cell_of_one h1
                have w2c := cell_of_one h2
                have w0c := cell_of_one k0
                have w7c := cell_of_one k7
                have w7f := free_of_one k7
                have w8c := cell_of_one k8
                have z73 := lt_of_block k7
                have z03 := lt_of_block k0
                have K7 := Lib.hid k7
                have K0 := Lib.hid k0
                have HO := Lib.hid (ownsRow_rebase h0 (show w.heap.size ≤ wr.heap.size + 1 + 2 by omega))
                have HB3 := Lib.hid hB3
                clear h1 h2 h0 ht3 k0 k7 k8 hB3
                cases pb with
                | true =>
                  go_wp2
                  go_big_quiet (fail)
                  go_wp2
                  ((try simp only [Exit.inBlock, Exit.then]); refine bodyPost_ret (results_tmp4 rfl _ _ _) rfl ?_)
                  have hres := PerRes.found (ts := ts) ⟨hk1, hlt⟩ ⟨hm1, hlt2⟩ HW.out HOK.out HQ2.out
                  rw [← HQD.out] at hres
                  exact ⟨a0, c0, _, _, _, _, rfl, hres, HO.out, below_drewN HB3.out _⟩
                | false =>
                  go_wp2_with fail
                  go_roundw
                  case rel =>
                    refine ⟨m + 1, w3.heap.size, by omega, by omega, by simp, by omega, heap_alloc_new _ _, perQ_next hk1 ⟨hm1, hlt2⟩ HOK.out HQ2.out, ?_, ?_⟩
                    · exact HB3.out.alloc HB3.out.size _
                    · rw [Below.heap_alloc _ _ _ z03]; exact K0.out
                  case measure =>
                    have e1 := behind_at (heap_alloc_new w3 (.cells #[.int .i64 ((m : Int) + 1)] 3))
                    have e2 := behind_at HCELL.out
                    show 4 - behind (.pointer (some ⟨w3.heap.size, 0, none⟩)) _ < 4 - behind (.pointer (some ⟨g, 0, none⟩)) wr
                    rw [e1, e2]
                    omega
              · have hno : perOk ts k m = false := by unfold perOk; rw [← hqd]; simp [hh]
                have HNO := Lib.hid hno
                have EM := Lib.hid em; clear hno em hdv hqd hrm
                go_wp2_with fail
                refine (between_no _ _ _ _ (by omega)).mono ?_
                rintro e w' ⟨rfl, rfl⟩
                go_wp2_with fail
                go_roundw
                case rel =>
                  have hwn : Below wr.heap.size wr (wr.alloc (.cells #[.int .i64 (qd : Int)] 3)) := (Below.refl _ _).alloc (Nat.le_refl _) _
                  refine ⟨m + 1, (wr.alloc (.cells #[.int .i64 (qd : Int)] 3)).heap.size, by omega, by omega, by simp, by simp; omega, heap_alloc_new _ _, perQ_next hk1 ⟨hm1, hlt2⟩ HNO.out HQ2.out, ?_, ?_⟩
                  · exact (HB2.out.trans (hwn.mono HB2.out.size)).alloc (HB2.out.trans (hwn.mono HB2.out.size)).size _
                  · rw [Below.heap_alloc _ _ _ (by simp; omega), hwn.block _ z1]; exact HX2.out
                case measure =>
                  have e1 : behind (.pointer (some ⟨wr.heap.size + 1, 0, none⟩)) ((wr.alloc (.cells #[.int .i64 (qd : Int)] 3)).alloc (.cells #[.int .i64 ((m : Int) + 1)] 3)) = ((m : Int) + 1).toNat := by
                    have := behind_at (heap_alloc_new (wr.alloc (.cells #[.int .i64 (qd : Int)] 3)) (.cells #[.int .i64 ((m : Int) + 1)] 3))
                    simpa using this
                  have e2 := behind_at HCELL.out
                  show 4 - behind (.pointer (some ⟨wr.heap.size + 1, 0, none⟩)) _ < 4 - behind (.pointer (some ⟨g, 0, none⟩)) wr
                  rw [e1, e2]
                  omega
            · have hdvd : ((k : Int) % (m : Int) != 0) = true := by rw [em, bne_iff_ne]; omega
              have hno : perOk ts k m = false := by unfold perOk; rw [← hrm]; simp [hdv]
              have HNO := Lib.hid hno
              have EM := Lib.hid em; clear hno em hdv hqd hrm
              go_wp2_with fail
              go_roundw
              case rel =>
                have hwn : Below wr.heap.size wr (wr.alloc (.cells #[.int .i64 (qd : Int)] 3)) := (Below.refl _ _).alloc (Nat.le_refl _) _
                refine ⟨m + 1, (wr.alloc (.cells #[.int .i64 (qd : Int)] 3)).heap.size, by omega, by omega, by simp, by simp; omega, heap_alloc_new _ _, perQ_next hk1 ⟨hm1, hlt2⟩ HNO.out HQ2.out, ?_, ?_⟩
                · exact (HB2.out.trans (hwn.mono HB2.out.size)).alloc (HB2.out.trans (hwn.mono HB2.out.size)).size _
                · rw [Below.heap_alloc _ _ _ (by simp; omega), hwn.block _ z1]; exact HX2.out
              case measure =>
                have e1 : behind (.pointer (some ⟨wr.heap.size + 1, 0, none⟩)) ((wr.alloc (.cells #[.int .i64 (qd : Int)] 3)).alloc (.cells #[.int .i64 ((m : Int) + 1)] 3)) = ((m : Int) + 1).toNat := by
                  have := behind_at (heap_alloc_new (wr.alloc (.cells #[.int .i64 (qd : Int)] 3)) (.cells #[.int .i64 ((m : Int) + 1)] 3))
                  simpa using this
                have e2 := behind_at HCELL.out
                show 4 - behind (.pointer (some ⟨wr.heap.size + 1, 0, none⟩)) _ < 4 - behind (.pointer (some ⟨g, 0, none⟩)) wr
                rw [e1, e2]
                omega
          · obtain rfl : m = 4 := by omega
            go_wp2
            go_roundw
            case rel => exact ⟨k + 1, by omega, by omega, by go_num, fun j hj => HQ2.out j (by omega), HB2.out, HX2.out⟩
            case measure => simp [intOf]; omega
      · obtain rfl : k = 10 := by omega
        go_wp2
        ((try simp only [Exit.inBlock, Exit.then]); refine bodyPost_ret (results_tmp4 rfl _ _ _) rfl ?_)
        exact ⟨none, 0, [], _, _, _, rfl, .inr ⟨fun _ => HQ.out, rfl, rfl, rfl, rfl⟩, World.ownsRow_nil _ _ _ _, HB.out⟩
  · rw [decide_eq_false hW] at HARE
    have HW := Lib.hid hW
    clear hW
    go_enter Try.func9, Try.ntmps9
    go_wp2_with fail
    refine HARE.out.mono ?_
    rintro e w1 ⟨rfl, hb1⟩
    go_wp2
    ((try simp only [Exit.inBlock, Exit.then]); refine bodyPost_ret (results_tmp4 rfl _ _ _) rfl ?_)
    exact ⟨none, 0, [], _, _, _, rfl, .inr ⟨fun h => absurd h HW.out, rfl, rfl, rfl, rfl⟩, World.ownsRow_nil _ _ _ _, HB0.out.trans (hb1.mono HB0.out.size)⟩
end Go.Proofs.Ytjklclegkjnegaa
