/- SortH: pdqsort_func and sort.Slice over at most twelve cells in whatever order. -/
import Derived.Test.YtipikojinfpidaaSortG
import Derived.Test.YtipikojinfpidaaSortS
namespace Go.Proofs.Ytipikojinfpidaa
open Go.RowKit Go.Lib

set_option maxRecDepth 100000 in
set_option maxHeartbeats 3200000 in
theorem pdqG (base p g c sf : Nat) (sb : Array Value) (lim : Int) (d : Array Cl) (w : World) (hn : d.size ≤ 12) (hpw : p < w.heap.size) (hpg : g ≠ p)
    (hp : w.cell? ⟨p, 0, none⟩ = some (.slice (some ⟨g, 0, none⟩) d.size c))
    (ho : w.ownsRow base 47 2 (.slice (some ⟨g, 0, none⟩) d.size c) d.size (cls d.toList)) (hsw : SwapSwapsK Try.prog sf sb encC 2 g 0 d.size) :
    Calls Try.prog 100 #[.agg #[.func (.func 85) #[] #[.pointer (some ⟨p, 0, none⟩)], .func (.func sf) #[] sb], .int .i64 0, .int .i64 d.size, .int .i64 lim] w fun e w' =>
      e = .returned (.tuple #[]) ∧ w'.ownsRow base 47 2 (.slice (some ⟨g, 0, none⟩) d.size c) d.size (cls (Go.Sort.insertionSort ltC d 0 d.size).toList) ∧ w.grownBy w' (some g) := by
  obtain ⟨w0, hw0⟩ : ∃ w0, w0 = w.alloc (.cells #[.func (.func 85) #[] #[.pointer (some ⟨p, 0, none⟩)], .func (.func sf) #[] sb] 100) := ⟨_, rfl⟩
  have hb0 : Below w.heap.size w w0 := by rw [hw0]; exact (Below.refl _ _).alloc (Nat.le_refl _) _
  have hz0 : w0.heap.size = w.heap.size + 1 := by rw [hw0]; simp
  have b0 : w0.cell? ⟨w.heap.size, 0, none⟩ = some (.func (.func 85) #[] #[.pointer (some ⟨p, 0, none⟩)]) := by rw [hw0, cell_of_row _ _ 0 _ _ _ (heap_alloc_new w _)]; rfl
  have b1 : w0.cell? ⟨w.heap.size, 1, none⟩ = some (.func (.func sf) #[] sb) := by rw [hw0, cell_of_row _ _ 1 _ _ _ (heap_alloc_new w _)]; rfl
  have HI := Lib.hid (insG base p g c sf sb d w0 (by omega) (by omega) hpg ((hb0.cell (p := ⟨p, 0, none⟩) hpw).trans hp) (ownsRow_far_below ho hb0 (Nat.le_refl _)) hsw)
  have HB0 := Lib.hid hb0
  have HW0 := Lib.hid hw0
  have i1 : (d.size : Int) ≤ 12 := by omega
  have s1 : IntKind.i64.wrap (d.size : Int) = (d.size : Int) := IntWalk.i64_in _ (by omega)
  clear hp ho hsw hb0 hw0
  go_enter Try.func100, Try.ntmps100
  go_wp2
  rw [← HW0.out]
  refine wp_loop_rounds 1 ?_
  rw [rounds_succ]
  go_wp2_with (go_at_call 116; refine HI.out.mono ?_; rintro e w' ⟨rfl, ho2, hg2⟩)
  (try simp only [Exit.inBlock, Exit.then])
  refine bodyPost_ret (results_none rfl _ _ _) rfl ?_
  exact ⟨rfl, ho2, grownBy_trans (grown_below HB0.out _) hg2⟩

set_option maxRecDepth 100000 in
set_option maxHeartbeats 1600000 in
theorem sliceG (base p g c : Nat) (l : List Cl) (w : World) (h2 : 2 ≤ l.length) (hn : l.length ≤ 12) (hpw : p < w.heap.size) (hpg : g ≠ p)
    (hp : w.cell? ⟨p, 0, none⟩ = some (.slice (some ⟨g, 0, none⟩) l.length c)) (ho : w.ownsRow base 47 2 (.slice (some ⟨g, 0, none⟩) l.length c) l.length (cls l)) :
    Calls Try.prog 84 #[.iface 26 (.slice (some ⟨g, 0, none⟩) l.length c), .func (.func 85) #[] #[.pointer (some ⟨p, 0, none⟩)]] w fun e w' => e = .returned (.tuple #[]) ∧
      ∃ s : List Cl, s.length = l.length ∧ (∀ x, x ∈ s ↔ x ∈ l) ∧ s.Pairwise (fun a b => ltC b a = false) ∧ w'.ownsRow base 47 2 (.slice (some ⟨g, 0, none⟩) l.length c) l.length (cls s) ∧ w.grownBy w' (some g) := by
  obtain ⟨ie, hie, hpt, hby, hsz⟩ : ∃ ie, Try.prog.info? 47 = some ie ∧ ie.hasPointers = false ∧ ie.bytes = 16 ∧ ie.size = 2 := by
    have h : (Try.prog.info? 47).map (fun i => (i.hasPointers, i.bytes, i.size)) = some (false, 16, 2) := by kernel_rfl
    cases q : Try.prog.info? 47 with
    | none => rw [q] at h; cases h
    | some i => rw [q] at h; simp at h; exact ⟨i, rfl, h.1, h.2.1, h.2.2⟩
  obtain ⟨i, hi, hd⟩ : ∃ i, Try.prog.info? 26 = some i ∧ i.desc = .slice 47 := by
    have h : (Try.prog.info? 26).map (fun i => i.desc) = some (.slice 47) := by kernel_rfl
    cases q : Try.prog.info? 26 with
    | none => rw [q] at h; cases h
    | some i => rw [q] at h; simp at h; exact ⟨i, rfl, h⟩
  have hf : Try.prog.funcs.findIdx? (·.name == "internal/reflectlite" ++ ".Swapper$" ++ toString (swapperK l.length ie 25)) = some 115 := by
    rw [swapperK_cell _ _ hpt hby, if_neg (by omega), if_neg (by omega)]
    kernel_rfl
  have hx : ∀ args W, (callFunc 115 args).run Try.prog W = ((Extern.ReflectliteSwapper.swap false args).run Try.prog W).andThen fun v w' => .ok (.value v) w' := fun args W => run_callFunc_extern Try.func115 (by kernel_rfl) (by kernel_rfl) (by kernel_rfl) (e := Extern.ReflectliteSwapper.swap false) (by kernel_rfl) args W
  have hag : ∀ w, (isAgg 47).run Try.prog w = .ok true w := Try.isAgg47
  have hsw := swapSwapsK_of_literal false 115 hx 47 ie hie encC 2 encC_len hsz hag encC_one g 0 l.length c
  have hbW : Below w.heap.size w (sliceWorld Try.prog Try.laysGg6_ren 26 (some ⟨g, 0, none⟩) l.length c w) := ((Below.refl _ _).alloc (Nat.le_refl _) _).alloc (by simp) _
  have hB : sliceBound Try.prog 47 ie 25 (some ⟨g, 0, none⟩) l.length c = #[.slice (some ⟨g, 0, none⟩) l.length c, typeHandle Try.prog 47] := by
    unfold sliceBound; rw [if_neg (swapperK_gt _ _ _ h2)]
  have hsz' : l.toArray.size = l.length := by simp
  have h1 := pdqG base p g c 115 #[.slice (some ⟨g, 0, none⟩) l.length c, typeHandle Try.prog 47] (Lib.bitLen l.length) l.toArray (sliceWorld Try.prog Try.laysGg6_ren 26 (some ⟨g, 0, none⟩) l.length c w)
    (by rw [hsz']; exact hn) (Nat.lt_of_lt_of_le hpw hbW.size) hpg (by rw [hsz']; exact (hbW.cell (p := ⟨p, 0, none⟩) hpw).trans hp) (by rw [hsz']; exact ownsRow_far_below ho hbW (Nat.le_refl _)) (by rw [hsz']; exact hsw)
  rw [hsz'] at h1
  obtain ⟨s, hs, e1, e2, e3⟩ := sorted_list l
  rw [← hs] at h1
  refine Any.sort_Slice_of_pdq Try.laysGg6 26 47 i ie hi hd (by kernel_rfl) hie 25 (fun _ => by kernel_rfl) (some ⟨g, 0, none⟩) l.length c (by omega) 115 hf (.func 85) #[] #[.pointer (some ⟨p, 0, none⟩)] w
    (fun w' => ∃ s : List Cl, s.length = l.length ∧ (∀ x, x ∈ s ↔ x ∈ l) ∧ s.Pairwise (fun a b => ltC b a = false) ∧ w'.ownsRow base 47 2 (.slice (some ⟨g, 0, none⟩) l.length c) l.length (cls s) ∧ w.grownBy w' (some g)) ?_
  rw [hB]
  exact h1.mono fun e w' ⟨q1, q2, q3⟩ => ⟨q1, s, e1, e2, e3, q2, grownBy_trans (grown_below hbW _) q3⟩
end Go.Proofs.Ytipikojinfpidaa
