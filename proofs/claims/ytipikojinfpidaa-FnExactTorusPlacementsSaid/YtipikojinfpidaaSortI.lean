/- SortI: the walk of the program's SortCells over at most twelve cells in whatever order. -/
import Derived.Test.YtipikojinfpidaaSortH
import Derived.Test.YtipikojinfpidaaSortD
namespace Go.Proofs.Ytipikojinfpidaa
open Go.RowKit

theorem row_at {w : World} {base e size n c : Nat} {ad : Option Addr} {xs : List Value} (h : w.ownsRow base e size (.slice ad n c) n xs) (hn : 0 < n) : ∃ g, ad = some ⟨g, 0, none⟩ := by
  rcases h.2 with ⟨h1, h2⟩ | ⟨g, c', cur, h1, _⟩
  · cases h1; omega
  · cases h1; exact ⟨g, rfl⟩

set_option maxRecDepth 100000 in
set_option maxHeartbeats 3200000 in
theorem implSortB (ad : Option Addr) (c : Nat) (l : List Cl) (w : World) (hn : l.length ≤ 12) (h2 : 2 ≤ l.length) (hnil : ad = none → c = 0) (hc : CellsAt w ad (cls l)) :
    Calls Try.prog 80 #[.slice ad l.length c] w fun e w' => ∃ ad' c', e = .returned (.slice ad' (putAllG ltC l).length c') ∧ w'.ownsRow w.heap.size 47 2 (.slice ad' (putAllG ltC l).length c') (putAllG ltC l).length (cls (putAllG ltC l)) ∧ Below w.heap.size w w' := by
  have hcl := cls_length l
  have HC := Lib.hid hc
  have HN := Lib.hid hnil
  clear hc hnil
  go_enter Try.func80, Try.ntmps80
  go_upto_region 2 with (at_builtin; refine wpList_appN rfl (.const (.slice none 0 0)) (.tmp 7) 26 rfl w.heap.size 47 _ 2 16 Try.elemCl _ 0 [] rfl (World.ownsRow_nil _ _ _ _) ad l.length c (cls l) rfl HN.out (by omega) HC.out (cls_one l) (by unfold maxLen; omega) (by omega) (Nat.le_refl _) ?_; intro a1 c1 w1 q1 q2 q3; simp only [Nat.zero_add, List.nil_append] at q1; clear q3)
  have HQ2 := Lib.hid q2
  have hsz1 := q2.size
  obtain ⟨g, rfl⟩ := row_at q1 (by omega)
  have hg := (q1.lt g rfl).2
  have hbW : Below w1.heap.size w1 (w1.alloc (.cells #[.slice (some ⟨g, 0, none⟩) l.length c1] 26)) := (Below.refl _ _).alloc (Nat.le_refl _) _
  have hzW : (w1.alloc (.cells #[.slice (some ⟨g, 0, none⟩) l.length c1] 26)).heap.size = w1.heap.size + 1 := by simp
  have hp2 := cell_of_one (heap_alloc_new w1 (.cells #[.slice (some ⟨g, 0, none⟩) l.length c1] 26))
  generalize w1.alloc (.cells #[.slice (some ⟨g, 0, none⟩) l.length c1] 26) = w2 at hbW hzW hp2 ⊢
  have ho2 := ownsRow_far_below q1 hbW (Nat.le_refl _)
  have hgn := (q1.lt g rfl).1
  have HS := Lib.hid (sliceG w.heap.size w1.heap.size g c1 l w2 h2 hn (by omega) (by omega) hp2 ho2)
  have HBW := Lib.hid hbW
  have HP2 := Lib.hid hp2
  have hg2 : g < w2.heap.size := by omega
  clear q1 q2 ho2
  go_wp2_with (go_at_call 84; refine HS.out.mono ?_; rintro e w3 ⟨rfl, s, hsl, hmem, hpw, ho3, hg3⟩; have hy3 := hg3.cell HP2.out (by simp; omega))
  have hb3 : Below w.heap.size w w3 := (HQ2.out.trans (HBW.out.mono hsz1)).grown hg3 (by omega) (fun q hq => by cases hq; exact hgn)
  have HB3 := Lib.hid hb3
  have hsz3 := hg3.size
  have HP3 := Lib.hid hy3
  have hc3 := ownsRow_cellsAt ho3
  have hsl' : s.length ≤ l.length := by omega
  have hls' : l.length ≤ s.length := by omega
  have HDED := Lib.hid (ded_eq wholeC hpw hmem)
  have HSL := Lib.hid hsl
  have HC3 := Lib.hid hc3
  clear hp2 hbW hy3 hmem hpw ho3 hg3 hc3 hsl hb3
  go_loopw [4, 15] (fun sl i wr => ∃ k : Nat, k ≤ l.length ∧ i = .int .i64 k ∧ wr.ownsRow w3.heap.size 47 2 sl (dedToG s k).length (cls (dedToG s k)) ∧ Below w3.heap.size w3 wr) (fun _ i _ => l.length - (intOf i).toNat)
  case atStart => exact ⟨0, by omega, rfl, World.ownsRow_nil _ _ _ _, Below.refl _ _⟩
  case round =>
    obtain ⟨k, hk, rfl, hown, hb⟩ := hrel
    have hszr := hb.size
    have HW := Lib.hid hown
    have HB := Lib.hid hb
    clear hown hb
    have hdl := dedToG_le s k
    by_cases hlt : k < l.length
    · have hls : k < s.length := by omega
      obtain ⟨g', off', he, hg', hcc⟩ := cl_open HC3.out (by omega)
      cases he
      obtain ⟨v0, v1⟩ := hcc k hls
      rw [Nat.zero_add] at v0 v1
      have x0 := (HB.out.cell (p := ⟨g, k * 2, none⟩) (by simp; omega)).trans v0
      have x1 := (HB.out.cell (p := ⟨g, k * 2 + 1, none⟩) (by simp; omega)).trans v1
      have y0 := (HB.out.cell (p := ⟨w1.heap.size, 0, none⟩) (by simp; omega)).trans HP3.out
      have hhit := dedC_hit (l := s) (i := k)
      have hmiss := dedC_miss (l := s) (i := k)
      rw [getDG hls] at hhit hmiss
      have i1 : (k : Int) < (l.length : Int) := by omega
      have HCC := Lib.hid hcc
      clear v0 v1 hcc
      by_cases hk0 : k = 0
      · have b0 : ((k : Int) == 0) = true := by simp [hk0]
        have HST := Lib.hid (hhit (.inl hk0))
        clear hk0 hhit hmiss
        generalize s[k] = d at x0 x1 HST
        obtain ⟨dx, dy⟩ := d
        simp only at x0 x1 HST
        have hbB : Below wr.heap.size wr (wr.alloc (.cells #[.int .i64 dx, .int .i64 dy] 47)) := (Below.refl _ _).alloc (Nat.le_refl _) _
        have hzB : (wr.alloc (.cells #[.int .i64 dx, .int .i64 dy] 47)).heap.size = wr.heap.size + 1 := by simp
        have hbox := cl_box (heap_alloc_new wr (.cells #[.int .i64 dx, .int .i64 dy] 47))
        have HBB := Lib.hid hbB
        have HZB := Lib.hid hzB
        have HBOX := Lib.hid hbox
        clear hbB hzB hbox
        go_upto_region 7 with (fail)
        generalize wr.alloc (.cells #[.int .i64 dx, .int .i64 dy] 47) = wb at HBB HZB HBOX ⊢
        obtain ⟨z0, z1⟩ := HBOX.out
        go_big_quiet (fail)
        have hzb := HZB.out
        have HFAR := Lib.hid (ownsRow_far_below HW.out HBB.out (Nat.le_refl _))
        go_wp2_with (at_builtin; refine wpList_app1 rfl (.tmp 31) (.tmp 33) 26 rfl w3.heap.size 47 _ 2 16 Try.elemCl _ (dedToG s k).length _ _ _ _ rfl rfl (by simpa using hzb) (ownsRow_drewN HFAR.out _) (by rfl) (by simp [Value.oneCell']) (by unfold maxLen; omega) (by omega) (by omega) ?_; intro g' cap w4 q1 q2 q3 q4 q5 q6)
        go_roundw
        case rel =>
          refine ⟨k + 1, by omega, by go_num, ?_, HB.out.trans ((below_drewN (HBB.out.mono hszr) _).trans q2)⟩
          rw [HST.out, List.length_append, cls_append]
          exact q1
        case measure => simp [intOf]; omega
      · have b0 : ((k : Int) == 0) = false := by simp [hk0]
        obtain ⟨m, hm⟩ : ∃ m, m = k - 1 := ⟨_, rfl⟩
        have hml : m < s.length := by omega
        rw [← hm, getDG hml] at hhit hmiss
        obtain ⟨v0, v1⟩ := HCC.out m hml
        rw [Nat.zero_add] at v0 v1
        have p0 := (HB.out.cell (p := ⟨g, m * 2, none⟩) (by simp; omega)).trans v0
        have p1 := (HB.out.cell (p := ⟨g, m * 2 + 1, none⟩) (by simp; omega)).trans v1
        have i2 : (k : Int) - 1 = (m : Int) := by omega
        have i3 : IntKind.i64.wrap (m : Int) = (m : Int) := IntWalk.i64_in _ (by omega)
        have i4 : (m : Int) < (l.length : Int) := by omega
        clear v0 v1 hm
        generalize s[k] = d at x0 x1 hhit hmiss
        generalize s[m] = q at p0 p1 hhit hmiss
        by_cases hqd : q = d
        · have hq := cellEq q.x q.y d.x d.y
          have hqt : (q.x == d.x && q.y == d.y) = true := by rw [hqd]; simp
          rw [hqt] at hq
          have HST := Lib.hid (hmiss (by rintro (r | r); exact hk0 r; exact r hqd))
          clear hk0 hhit hmiss hqd hqt
          obtain ⟨dx, dy⟩ := d
          obtain ⟨px, py⟩ := q
          simp only at x0 x1 HST p0 p1 hq
          have hbB : Below wr.heap.size wr (wr.alloc (.cells #[.int .i64 dx, .int .i64 dy] 47)) := (Below.refl _ _).alloc (Nat.le_refl _) _
          have hzB : (wr.alloc (.cells #[.int .i64 dx, .int .i64 dy] 47)).heap.size = wr.heap.size + 1 := by simp
          have hbox := cl_box (heap_alloc_new wr (.cells #[.int .i64 dx, .int .i64 dy] 47))
          have HBB := Lib.hid hbB
          have HZB := Lib.hid hzB
          have HBOX := Lib.hid hbox
          clear hbB hzB hbox
          go_upto_region 7 with (fail)
          generalize wr.alloc (.cells #[.int .i64 dx, .int .i64 dy] 47) = wb at HBB HZB HBOX ⊢
          obtain ⟨z0, z1⟩ := HBOX.out
          have r0 := (HBB.out.cell (p := ⟨g, m * 2, none⟩) (by simp; omega)).trans p0
          have r1 := (HBB.out.cell (p := ⟨g, m * 2 + 1, none⟩) (by simp; omega)).trans p1
          have r2 := (HBB.out.cell (p := ⟨w1.heap.size, 0, none⟩) (by simp; omega)).trans y0
          go_big_quiet (fail)
          have hzb := HZB.out
          have HFAR := Lib.hid (ownsRow_far_below HW.out HBB.out (Nat.le_refl _))
          go_wp2
          go_roundw
          case rel =>
            refine ⟨k + 1, by omega, by go_num, ?_, HB.out.trans (below_drewN (HBB.out.mono hszr) _)⟩
            rw [HST.out]
            exact ownsRow_drewN HFAR.out _
          case measure => simp [intOf]; omega
        · have hq := cellEq q.x q.y d.x d.y
          have hqt : (q.x == d.x && q.y == d.y) = false := by
            cases r : (q.x == d.x && q.y == d.y) with
            | false => rfl
            | true => simp at r; exact absurd (by obtain ⟨a, b⟩ := q; obtain ⟨a', b'⟩ := d; simp at r; rw [r.1, r.2]) hqd
          rw [hqt] at hq
          have HST := Lib.hid (hhit (.inr hqd))
          clear hk0 hhit hmiss hqd hqt
          obtain ⟨dx, dy⟩ := d
          obtain ⟨px, py⟩ := q
          simp only at x0 x1 HST p0 p1 hq
          have hbB : Below wr.heap.size wr (wr.alloc (.cells #[.int .i64 dx, .int .i64 dy] 47)) := (Below.refl _ _).alloc (Nat.le_refl _) _
          have hzB : (wr.alloc (.cells #[.int .i64 dx, .int .i64 dy] 47)).heap.size = wr.heap.size + 1 := by simp
          have hbox := cl_box (heap_alloc_new wr (.cells #[.int .i64 dx, .int .i64 dy] 47))
          have HBB := Lib.hid hbB
          have HZB := Lib.hid hzB
          have HBOX := Lib.hid hbox
          clear hbB hzB hbox
          go_upto_region 7 with (fail)
          generalize wr.alloc (.cells #[.int .i64 dx, .int .i64 dy] 47) = wb at HBB HZB HBOX ⊢
          obtain ⟨z0, z1⟩ := HBOX.out
          have r0 := (HBB.out.cell (p := ⟨g, m * 2, none⟩) (by simp; omega)).trans p0
          have r1 := (HBB.out.cell (p := ⟨g, m * 2 + 1, none⟩) (by simp; omega)).trans p1
          have r2 := (HBB.out.cell (p := ⟨w1.heap.size, 0, none⟩) (by simp; omega)).trans y0
          go_big_quiet (fail)
          have hzb := HZB.out
          have HFAR := Lib.hid (ownsRow_far_below HW.out HBB.out (Nat.le_refl _))
          go_wp2_with (at_builtin; refine wpList_app1 rfl (.tmp 31) (.tmp 33) 26 rfl w3.heap.size 47 _ 2 16 Try.elemCl _ (dedToG s k).length _ _ _ _ rfl rfl (by simpa using hzb) (ownsRow_drewN HFAR.out _) (by rfl) (by simp [Value.oneCell']) (by unfold maxLen; omega) (by omega) (by omega) ?_; intro g' cap w4 q1 q2 q3 q4 q5 q6)
          go_roundw
          case rel =>
            refine ⟨k + 1, by omega, by go_num, ?_, HB.out.trans ((below_drewN (HBB.out.mono hszr) _).trans q2)⟩
            rw [HST.out, List.length_append, cls_append]
            exact q1
          case measure => simp [intOf]; omega
    · obtain rfl : k = l.length := by omega
      have hded := HDED.out
      rw [HSL.out] at hded
      rw [hded] at HW
      go_wp2
      go_ret
      obtain ⟨ad', c', rfl, _⟩ := ownsRow_cells HW.out
      exact ⟨ad', c', rfl, ownsRow_rebase HW.out (by omega), HB3.out.trans (HB.out.mono (by omega))⟩

theorem implSortC (ad : Option Addr) (c : Nat) (l : List Cl) (w : World) (hn : l.length ≤ 12) (h0 : 0 < l.length) (hnil : ad = none → c = 0) (hc : CellsAt w ad (cls l)) :
    Calls Try.prog 80 #[.slice ad l.length c] w fun e w' => ∃ ad' c', e = .returned (.slice ad' (putAllG ltC l).length c') ∧ w'.ownsRow w.heap.size 47 2 (.slice ad' (putAllG ltC l).length c') (putAllG ltC l).length (cls (putAllG ltC l)) ∧ Below w.heap.size w w' := by
  by_cases h2 : 2 ≤ l.length
  · exact implSortB ad c l w hn h2 hnil hc
  · obtain ⟨a, rfl⟩ : ∃ a, l = [a] := by
      cases l with
      | nil => simp at h0
      | cons a m => cases m with
        | nil => exact ⟨a, rfl⟩
        | cons b r => simp at h2
    have hasc : AscG ltC [a] := List.pairwise_singleton _ _
    rw [putAllG_self wholeC hasc]
    exact implSortAsc ad c [a] w hn h0 hasc hnil hc
end Go.Proofs.Ytipikojinfpidaa
