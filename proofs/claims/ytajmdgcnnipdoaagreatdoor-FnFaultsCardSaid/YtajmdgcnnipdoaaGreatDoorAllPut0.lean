/- AllPut0: parts laid together: Put0, Corner, Put. -/
import Derived.Test.YtajmdgcnnipdoaaGreatDoorAllFrame
import Derived.Deep.RegionHeld3
import Derived.Test.YtajmdgcnnipdoaaGreatDoorAllShape
import Derived.Test.YtajmdgcnnipdoaaGreatDoorAllHead
import Derived.Deep.RegionLaw
import Derived.Deep.DrawnRows

/- Put0: the pieces of 'append(append(append([]T{}, l[:k]...), x), l[k:]...)', in whatever order its memory is made. -/
namespace Go.Proofs.YtajmdgcnnipdoaaGreatDoor
open Go.RowKit

section
variable {P : Program} {ops : Array Oper} {o : Oper} {a : Act} {w : World} {K : Act → World → Prop} {Q : Exit → Act → World → Prop}
/-- append(v, xs...), v empty: a step of a region that draws its order. -/
theorem step_app0 {E : Prop} (hgd : o.guard = none) (s x : Operand) (t : TypeId) (ho : o.op = .call { callee := .builtin .append, args := #[s, x], argTypes := #[t, t] })
    (base e : Nat) (z : Value) (size bytes : Nat) (T : ElemT P t e z size bytes) (v : Value) (hs : a.eval s = v) (hown : w.ownsRow base e size v 0 [])
    (ad : Option Addr) (m c : Nat) (news : List Value) (hx : a.eval x = .slice ad m c) (hnil : ad = none → c = 0) (hl : news.length = m * size) (hc : CellsAt w ad news) (h1 : ∀ u ∈ news, u.oneCell' = true)
    (h63 : m ≤ maxLen) (hbytes : m * bytes ≤ 140737488355328) (hbase : base ≤ w.heap.size)
    (h : ∀ ad' cap' w', w'.ownsRow base e size (.slice ad' m cap') m news → Below base w w' → w.grownBy w' v.ownBlock → K (a.put o.dst (.slice ad' m cap')) w') :
    if Region.wanted o (yielded ops a.tmps) = true then Oper.wp P o a w K Q else E := by
  refine step_appN hgd s x t ho base e z size bytes T v 0 [] hs hown ad m c news hx hnil hl hc h1 (by omega) (by rw [Nat.zero_add]; exact hbytes) hbase ?_
  intro ad' cap' w' p1 p2 p3
  have := h ad' cap' w'
  simp only [Nat.zero_add, List.nil_append] at p1 ⊢
  exact this p1 p2 p3
end
theorem push_snd (a : Array Obj) (x y : Obj) : ((a.push x).push y)[a.size + 1]? = some y := by
  rw [Array.getElem?_push, if_pos (by simp)]
theorem push_fst (a : Array Obj) (x y : Obj) : ((a.push x).push y)[a.size]? = some x := by
  rw [Array.getElem?_push, if_neg (by simp), Array.getElem?_push, if_pos rfl]
section
variable {w W : World} {e size : Nat} {cs : Array Value}
/-- The empty slice that the statement makes: alone, ahead of the element's block, behind it. -/
theorem empty_a (h : W.heap = w.heap.push (.cells #[] e (0, 0))) : W.ownsRow w.heap.size e size (.slice (some ⟨w.heap.size, 0, none⟩) 0 0) 0 [] := by
  refine ⟨by simp, .inr ⟨w.heap.size, 0, #[], rfl, Nat.le_refl _, ?_, Nat.le_refl _, by decide, by simp, by simp⟩⟩
  rw [h]; simp
theorem empty_b {ob : Obj} (h : W.heap = (w.heap.push (.cells #[] e (0, 0))).push ob) : W.ownsRow w.heap.size e size (.slice (some ⟨w.heap.size, 0, none⟩) 0 0) 0 [] := by
  refine ⟨by simp, .inr ⟨w.heap.size, 0, #[], rfl, Nat.le_refl _, ?_, Nat.le_refl _, by decide, by simp, by simp⟩⟩
  rw [h]; exact push_fst _ _ _
theorem empty_c {ob : Obj} (h : W.heap = (w.heap.push ob).push (.cells #[] e (0, 0))) : W.ownsRow w.heap.size e size (.slice (some ⟨w.heap.size + 1, 0, none⟩) 0 0) 0 [] := by
  refine ⟨by simp, .inr ⟨w.heap.size + 1, 0, #[], rfl, Nat.le_succ _, ?_, Nat.le_refl _, by decide, by simp, by simp⟩⟩
  rw [h]; exact push_snd _ _ _
/-- The element's block. -/
theorem elem_at {B : Nat} (h : W.heap[B]? = some (.cells cs e (0, 0))) : CellsAt W (some ⟨B, 0, none⟩) cs.toList := by
  refine .inr ⟨B, 0, rfl, fun j u hu => ?_⟩
  rw [cell_of_row W _ (0 + j) _ _ _ h, Nat.zero_add]
  simpa using hu
theorem elem_a (h : W.heap = w.heap.push (.cells cs e (0, 0))) : CellsAt W (some ⟨w.heap.size, 0, none⟩) cs.toList := elem_at (e := e) (by rw [h]; simp)
theorem elem_b {W1 : World} {ob : Obj} {row : Option Nat} (h : W.heap = (w.heap.push ob).push (.cells cs e (0, 0))) (hg : W.grownBy W1 row) (hr : row = some w.heap.size) : CellsAt W1 (some ⟨w.heap.size + 1, 0, none⟩) cs.toList := by
  refine elem_at (e := e) ?_
  rw [hg.block (w.heap.size + 1) (by rw [h]; simp) (by rw [hr]; simp), h]
  exact push_snd _ _ _
theorem elem_c {W1 : World} {ob : Obj} {row : Option Nat} (h : W.heap = (w.heap.push (.cells cs e (0, 0))).push ob) (hg : W.grownBy W1 row) (hr : row = some (w.heap.size + 1)) : CellsAt W1 (some ⟨w.heap.size, 0, none⟩) cs.toList := by
  refine elem_at (e := e) ?_
  rw [hg.block w.heap.size (by rw [h]; simp; omega) (by rw [hr]; simp), h]
  exact push_fst _ _ _
/-- What is behind a place of a slice, and ahead of it. -/
theorem cellsAt_drop {g off n size : Nat} {cs : List Value} (h : CellsAt w (some ⟨g, off, none⟩) cs) (k : Nat) (hk : n = k * size) : CellsAt w (some ⟨g, off + n, none⟩) (cs.drop (k * size)) := by
  subst hk
  rcases h with h | ⟨g', off', hv, hc⟩
  · left; rw [h]; simp
  · cases hv
    refine .inr ⟨g, off + k * size, rfl, fun j u hu => ?_⟩
    rw [List.getElem?_drop] at hu
    have := hc (k * size + j) u hu
    rwa [← Nat.add_assoc] at this
end
theorem below_one {w W : World} {a : Obj} (h : W.heap = w.heap.push a) (h1 : W.os = w.os) (h2 : W.tape = w.tape) (h3 : W.output = w.output) : Below w.heap.size w W :=
  ⟨h1, h2, h3, by rw [h]; simp, fun k hk => by rw [h, Array.getElem?_push, if_neg (by omega)]⟩
theorem below_two {w W : World} {a b : Obj} (h : W.heap = (w.heap.push a).push b) (h1 : W.os = w.os) (h2 : W.tape = w.tape) (h3 : W.output = w.output) : Below w.heap.size w W :=
  ⟨h1, h2, h3, by rw [h]; simp; omega, fun k hk => by rw [h, Array.getElem?_push, if_neg (by simp; omega), Array.getElem?_push, if_neg (by omega)]⟩
theorem ints_take (l : List Int) (k : Nat) : ints (l.take k) = (ints l).take k := by simp [ints, List.map_take]
theorem ints_drop (l : List Int) (k : Nat) : ints (l.drop k) = (ints l).drop k := by simp [ints, List.map_drop]
theorem ownsRow_le_cap {w : World} {base e size n cap : Nat} {ad : Option Addr} {xs : List Value} (h : w.ownsRow base e size (.slice ad n cap) n xs) : n ≤ cap ∧ (ad = none → cap = 0) := by
  rcases h.2 with ⟨h1, h2⟩ | ⟨g, c', cur, h1, _, _, h2, _⟩
  · cases h1; exact ⟨by omega, fun _ => rfl⟩
  · cases h1; exact ⟨h2, fun h => by cases h⟩
end Go.Proofs.YtajmdgcnnipdoaaGreatDoor

/- Corner: the walks of the reference's l2Corner and CornerShape, of the program's moved. -/
namespace Go.Proofs.YtajmdgcnnipdoaaGreatDoor
open Go.RowKit

attribute [local go_sem ↓] Go.wp_at_zero Go.wp_at_succ

theorem minTo_one (f : Cl → Int) (l : List Cl) : minTo f l 1 = f (l.getD 0 default) := rfl
theorem minTo_succ {f : Cl → Int} {l : List Cl} {k : Nat} (hk : 0 < k) : minTo f l (k + 1) = min (minTo f l k) (f (l.getD k default)) := by
  rw [minTo, if_neg (by omega)]
theorem shift_take (l : List Cl) (a b : Int) (k : Nat) (hk : k < l.length) : shift (l.take (k + 1)) a b = shift (l.take k) a b ++ [⟨l[k].x - a, l[k].y - b⟩] := by
  unfold shift
  rw [List.take_succ_eq_append_getElem hk, List.map_append]
  rfl

set_option maxRecDepth 100000 in
set_option maxHeartbeats 3200000 in
/-- The reference's l2Corner moves a list of cells, whatever their order. -/
theorem specCorner (ad : Option Addr) (c : Nat) (l : List Cl) (w : World) (hl : l.length ≤ 1000) (hb : ∀ d ∈ l, (-1000 ≤ d.x ∧ d.x ≤ 1000) ∧ -1000 ≤ d.y ∧ d.y ≤ 1000) (hc : CellsAt w ad (cls l)) :
    Calls Tryz.prog 155 #[.slice ad l.length c] w fun e w' => ∃ ad' c', e = .returned (.slice ad' (cornL l).length c') ∧ w'.ownsRow w.heap.size 91 2 (.slice ad' (cornL l).length c') (cornL l).length (cls (cornL l)) ∧ Below w.heap.size w w' := by
  have HC := Lib.hid hc
  have HBD := Lib.hid hb
  have hcl := cls_length l
  clear hc hb
  obtain ⟨w0, hw0⟩ : ∃ w0, w0 = w.alloc (.cells #[] 91) := ⟨_, rfl⟩
  have hb0 : Below w.heap.size w w0 := by rw [hw0]; exact (Below.refl _ _).alloc (Nat.le_refl _) _
  have ho0 : w0.ownsRow w.heap.size 91 2 (.slice (some ⟨w.heap.size, 0, none⟩) 0 0) 0 [] := by rw [hw0]; exact ownsRow_empty _ _ _
  have HB0 := Lib.hid hb0
  have HO0 := Lib.hid ho0
  have HW0 := Lib.hid hw0
  clear hb0 ho0 hw0
  go_enter Tryz.func155, Tryz.ntmps155
  go_wp2
  rw [← HW0.out]
  go_loopw [4, 5, 6] (fun x y i wr => ∃ k : Nat, k ≤ l.length ∧ i = .int .i64 k ∧ x = .int .i64 (minTo Cl.x l k) ∧ y = .int .i64 (minTo Cl.y l k) ∧ w0 = wr) (fun _ _ i _ => l.length - (intOf i).toNat)
  case atStart => exact ⟨0, by omega, rfl, rfl, rfl, rfl⟩
  case round =>
    obtain ⟨k, hk, rfl, rfl, rfl, rfl⟩ := hrel
    by_cases hlt : k < l.length
    · obtain ⟨g, off, rfl, hg, hcc⟩ := cl_open (HC.out.below HB0.out) (by omega)
      obtain ⟨x0, x1⟩ := hcc k hlt
      have hx0 : minTo Cl.x l (k + 1) = if k = 0 then l[k].x else min (minTo Cl.x l k) l[k].x := by
        split
        · rename_i e; subst e; rw [minTo_one, getDG hlt]
        · rw [minTo_succ (by omega), getDG hlt]
      have hy0 : minTo Cl.y l (k + 1) = if k = 0 then l[k].y else min (minTo Cl.y l k) l[k].y := by
        split
        · rename_i e; subst e; rw [minTo_one, getDG hlt]
        · rw [minTo_succ (by omega), getDG hlt]
      clear hcc
      generalize l[k] = d at x0 x1 hx0 hy0
      obtain ⟨dx, dy⟩ := d
      simp only at x0 x1 hx0 hy0
      by_cases hk0 : k = 0
      · have b0 : ((k : Int) == 0) = true := by simp [hk0]
        rw [if_pos hk0] at hx0 hy0
        have HX := Lib.hid hx0
        have HY := Lib.hid hy0
        clear hx0 hy0 hk0
        go_wp2
        go_roundw
        case rel => exact ⟨k + 1, by omega, by go_num, by rw [HX.out], by rw [HY.out], trivial⟩
        case measure => simp [intOf]; omega
      · have b0 : ((k : Int) == 0) = false := by simp [hk0]
        rw [if_neg hk0] at hx0 hy0
        generalize minTo Cl.x l k = mx at hx0 ⊢
        generalize minTo Cl.y l k = my at hy0 ⊢
        by_cases h1 : dx < mx
        · have d1 : decide (dx < mx) = true := decide_eq_true h1
          have HX := Lib.hid (hx0.trans (show min mx dx = dx by omega))
          by_cases h2 : dy < my
          · have d2 : decide (dy < my) = true := decide_eq_true h2
            have HY := Lib.hid (hy0.trans (show min my dy = dy by omega))
            clear hx0 hy0 hk0
            go_wp2
            go_roundw
            case rel => exact ⟨k + 1, by omega, by go_num, by rw [HX.out], by rw [HY.out], trivial⟩
            case measure => simp [intOf]; omega
          · have d2 : decide (dy < my) = false := decide_eq_false h2
            have HY := Lib.hid (hy0.trans (show min my dy = my by omega))
            clear hx0 hy0 hk0
            go_wp2
            go_roundw
            case rel => exact ⟨k + 1, by omega, by go_num, by rw [HX.out], by rw [HY.out], trivial⟩
            case measure => simp [intOf]; omega
        · have d1 : decide (dx < mx) = false := decide_eq_false h1
          have HX := Lib.hid (hx0.trans (show min mx dx = mx by omega))
          by_cases h2 : dy < my
          · have d2 : decide (dy < my) = true := decide_eq_true h2
            have HY := Lib.hid (hy0.trans (show min my dy = dy by omega))
            clear hx0 hy0 hk0
            go_wp2
            go_roundw
            case rel => exact ⟨k + 1, by omega, by go_num, by rw [HX.out], by rw [HY.out], trivial⟩
            case measure => simp [intOf]; omega
          · have d2 : decide (dy < my) = false := decide_eq_false h2
            have HY := Lib.hid (hy0.trans (show min my dy = my by omega))
            clear hx0 hy0 hk0
            go_wp2
            go_roundw
            case rel => exact ⟨k + 1, by omega, by go_num, by rw [HX.out], by rw [HY.out], trivial⟩
            case measure => simp [intOf]; omega
    · obtain rfl : k = l.length := by omega
      obtain ⟨mx, hmx⟩ : ∃ mx, mx = minTo Cl.x l l.length := ⟨_, rfl⟩
      obtain ⟨my, hmy⟩ : ∃ my, my = minTo Cl.y l l.length := ⟨_, rfl⟩
      have hbx : 0 < l.length → -1000 ≤ mx ∧ mx ≤ 1000 := fun h => by rw [hmx]; exact minTo_bd (fun d hd => (HBD.out d hd).1) _ h (Nat.le_refl _)
      have hby : 0 < l.length → -1000 ≤ my ∧ my ≤ 1000 := fun h => by rw [hmy]; exact minTo_bd (fun d hd => (HBD.out d hd).2) _ h (Nat.le_refl _)
      have hfin : cornL l = shift l mx my := by rw [hmx, hmy]; rfl
      rw [← hmx, ← hmy]
      have HF := Lib.hid hfin
      clear hmx hmy hfin
      go_wp2
      go_loopw [3, 7] (fun s i wr => ∃ k : Nat, k ≤ l.length ∧ i = .int .i64 k ∧ wr.ownsRow w.heap.size 91 2 s k (cls (shift (l.take k) mx my)) ∧ Below w.heap.size w wr) (fun _ i _ => l.length - (intOf i).toNat)
      case atStart => exact ⟨0, by omega, rfl, by simpa [shift, cls] using HO0.out, HB0.out⟩
      case round =>
        obtain ⟨k, hk, rfl, hown, hb⟩ := hrel
        have HW := Lib.hid hown
        have HB := Lib.hid hb
        have hszr := hb.size
        clear hown hb
        by_cases hlt : k < l.length
        · obtain ⟨g, off, rfl, hg, hcc⟩ := cl_open HC.out (by omega)
          obtain ⟨v0, v1⟩ := hcc k hlt
          have x0 := (HB.out.cell (p := ⟨g, off + k * 2, none⟩) hg).trans v0
          have x1 := (HB.out.cell (p := ⟨g, off + k * 2 + 1, none⟩) hg).trans v1
          clear v0 v1
          obtain ⟨bx1, bx2⟩ := hbx (by omega)
          obtain ⟨by1, by2⟩ := hby (by omega)
          obtain ⟨⟨dd1, dd2⟩, dd3, dd4⟩ := HBD.out _ (List.getElem_mem hlt)
          have HST := Lib.hid (shift_take l mx my k hlt)
          clear hcc hbx hby
          generalize l[k] = d at x0 x1 HST dd1 dd2 dd3 dd4
          obtain ⟨dx, dy⟩ := d
          simp only at x0 x1 HST dd1 dd2 dd3 dd4
          have i1 : (k : Int) < (l.length : Int) := by omega
          go_wp2
          have t1 : IntKind.i64.wrap (dx - mx) = dx - mx := IntWalk.i64_in _ (by omega)
          have t2 : IntKind.i64.wrap (dy - my) = dy - my := IntWalk.i64_in _ (by omega)
          go_region_held3 (fun w' => w'.cell? ⟨g, off + k * 2, none⟩ = some (.int .i64 dx) ∧ w'.cell? ⟨g, off + k * 2 + 1, none⟩ = some (.int .i64 dy))
            (first | go_keep | exact ⟨(q2.cell (p := ⟨g, off + k * 2, none⟩) hg).trans x0, (q2.cell (p := ⟨g, off + k * 2 + 1, none⟩) hg).trans x1⟩ | trivial)
            ((refine step_app1 (by rfl) (.tmp 53) (.tmp 69) 40 (by rfl) w.heap.size 91 _ 2 16 Tryz.elemCl _ k _ _ _ _ (by rfl) (by rfl) rfl HW.out (by rfl) (by simp [Value.oneCell']) (by unfold maxLen; omega) (by omega) (by omega) ?_; intro g' cap w3 q1 q2 q3 q4 q5 q6))
          go_wp2
          go_roundw
          case rel =>
            refine ⟨k + 1, by omega, by go_num, ?_, HB.out.trans q2⟩
            rw [HST.out, cls_append]
            exact q1
          case measure => simp [intOf]; omega
        · obtain rfl : k = l.length := by omega
          go_wp2
          go_ret
          obtain ⟨ad', c', rfl, _⟩ := ownsRow_cells HW.out
          have h2 := HW.out
          rw [List.take_length] at h2
          rw [HF.out, shift_length]
          exact ⟨ad', c', rfl, h2, HB.out⟩
end Go.Proofs.YtajmdgcnnipdoaaGreatDoor

/- Put: the walk of the reference's l7Put: a number put into an ascending list, once. -/
namespace Go.Proofs.YtajmdgcnnipdoaaGreatDoor
open Go.RowKit

attribute [local go_sem ↓] Go.wp_at_zero Go.wp_at_succ

theorem cellsAt_dropIf {w : World} {g off c k n size : Nat} {cs : List Value} (h : CellsAt w (some ⟨g, off, none⟩) cs) (hn : n = k * size) (hc : cs.length ≤ c * size) :
    CellsAt w (if c = k then some ⟨g, off, none⟩ else some ⟨g, off + n, none⟩) (cs.drop (k * size)) := by
  split
  · rename_i e
    subst e
    left
    exact List.drop_eq_nil_of_le hc
  · exact cellsAt_drop h k hn
theorem putKG_succ {α : Type} [Inhabited α] (lt : α → α → Bool) (l : List α) (n : α) (k : Nat) : putKG lt l n (k + 1) = if lt n (l.getD k default) = true then putKG lt l n k else k + 1 := rfl

set_option maxRecDepth 100000 in
set_option maxHeartbeats 3200000 in
theorem l7Put_any (base : Nat) (ad : Option Addr) (c : Nat) (l : List Int) (n : Int) (w : World) (hl : l.length ≤ 1048576) (hbase : base ≤ w.heap.size) (hown : w.ownsRow base 3 1 (.slice ad l.length c) l.length (ints l)) :
    Calls Tryz.prog 108 #[.slice ad l.length c, .int .i64 n] w fun e w' => ∃ ad' c', e = .returned (.slice ad' (putG ltI l n).length c') ∧ w'.ownsRow base 3 1 (.slice ad' (putG ltI l n).length c') (putG ltI l n).length (ints (putG ltI l n)) ∧ Below w.heap.size w w' := by
  have hc := ownsRow_cellsAt hown
  obtain ⟨hlc, hnil⟩ := ownsRow_le_cap hown
  have HC := Lib.hid hc
  have HO := Lib.hid hown
  have HNIL := Lib.hid hnil
  have hil := ints_length l
  have hlcI : (l.length : Int) ≤ (c : Int) := by omega
  clear hc hown hnil
  go_enter Tryz.func108, Tryz.ntmps108
  go_wp2
  go_loopw [5] (fun i wr => ∃ k : Nat, k ≤ l.length ∧ i = .int .i64 k ∧ putKG ltI l n l.length = putKG ltI l n k ∧ w = wr) (fun i _ => (intOf i).toNat)
  case atStart => exact ⟨l.length, Nat.le_refl _, rfl, rfl, rfl⟩
  case round =>
    obtain ⟨k, hk, rfl, hput, rfl⟩ := hrel
    have HPUT := Lib.hid hput
    clear hput
    by_cases hk0 : 1 ≤ k
    · obtain ⟨g, off, rfl, hg, hcc⟩ := HC.out.open (by omega)
      have hx := hcc (k - 1) _ (ints_at l (k - 1) (by omega))
      have hs := putKG_succ ltI l n (k - 1)
      rw [show k - 1 + 1 = k by omega, getDG (show k - 1 < l.length by omega)] at hs
      obtain ⟨x, hxx⟩ : ∃ x, x = l[k - 1]'(by omega) := ⟨_, rfl⟩
      rw [← hxx] at hx hs
      have HXX := Lib.hid hxx
      clear hcc hxx
      by_cases hgt : n < x
      · rw [if_pos (by simp [ltI, hgt])] at hs
        have HS := Lib.hid hs
        clear hs
        go_wp2
        go_roundw
        case rel => exact ⟨k - 1, by omega, by congr 1; omega, by rw [HPUT.out, HS.out], trivial⟩
        case measure => simp [intOf]; omega
      · rw [if_neg (by simp [ltI, hgt])] at hs
        have HS := Lib.hid hs
        clear hs
        by_cases heq : x = n
        · have hb : (x == n) = true := by simp [heq]
          have hv : putG ltI l n = l := by
            unfold putG
            rw [if_pos]
            rw [HPUT.out, HS.out]
            exact ⟨by omega, by rw [getDG (by omega), ← HXX.out]; exact heq⟩
          have HV := Lib.hid hv
          clear heq hv
          go_wp2
          go_ret
          rw [HV.out]
          exact ⟨_, c, rfl, HO.out, Below.refl _ _⟩
        · have hb : (x == n) = false := by simp [heq]
          have hv : putG ltI l n = l.take k ++ [n] ++ l.drop k := by
            unfold putG
            rw [if_neg]
            · rw [HPUT.out, HS.out]; simp
            · rw [HPUT.out, HS.out, getDG (by omega), ← HXX.out]
              exact fun h => heq h.2
          have HV := Lib.hid hv
          clear heq hv
          go_wp2
          have i1 : (0 : Int) ≤ (k : Int) := by omega
          have i2 : (k : Int) ≤ (c : Int) := by omega
          have i3 : (k : Int) ≤ (l.length : Int) := by omega
          have HT := Lib.hid (show CellsAt w (some ⟨g, off, none⟩) (ints (l.take k)) by rw [ints_take]; exact HC.out.take k)
          have HD := Lib.hid (show CellsAt w (if c = k then some ⟨g, off, none⟩ else some ⟨g, off + k, none⟩) (ints (l.drop k)) by rw [ints_drop]; have := cellsAt_dropIf (c := c) (k := k) (n := k) (size := 1) HC.out (by omega) (by omega); simpa using this)
          have HLT := Lib.hid (show (ints (l.take k)).length = k by rw [ints_length, List.length_take]; omega)
          have HLD := Lib.hid (show (ints (l.drop k)).length = l.length - k by rw [ints_length, List.length_drop])
          have HLV := Lib.hid (show (l.take k ++ [n] ++ l.drop k).length = k + 1 + (l.length - k) by simp; omega)
          go_region_held3 (fun _ => True) (trivial)
            (first
              | (refine step_app0 rfl (.tmp 33) (.tmp 36) 24 rfl w.heap.size 3 _ 1 8 Tryz.elemInt _ (by rfl) (by first | exact empty_a (w := w) (by rfl) | exact empty_b (w := w) (by rfl) | exact empty_c (w := w) (by rfl)) _ k c (ints (l.take k)) (by rfl) (fun h => by cases h) (by rw [HLT.out, Nat.mul_one]) (CellsAt.below HT.out (by first | exact below_one (by rfl) rfl rfl rfl | exact below_two (by rfl) rfl rfl rfl)) (ints_one _) (by unfold maxLen; omega) (by omega) (by first | omega | (simp; done) | (simp; omega)) ?_; intro a1 c1 w1 p1 p2 p3; have B1 : Below w.heap.size w w1 := Below.trans (by first | exact below_one (by rfl) rfl rfl rfl | exact below_two (by rfl) rfl rfl rfl) p2; have hz1 := B1.size)
              | (refine step_appN rfl (.tmp 37) (.tmp 39) 24 rfl w.heap.size 3 _ 1 8 Tryz.elemInt (.slice a1 k c1) k (ints (l.take k)) (by rfl) (by first | exact p1.alloc _ | exact p1) _ 1 1 (ints [n]) (by rfl) (fun h => by cases h) (by rfl) (by first | exact elem_a (w := w1) (by rfl) | exact elem_b (w := w) (by rfl) p3 (by rfl) | exact elem_c (w := w) (by rfl) p3 (by rfl)) (ints_one _) (by unfold maxLen; omega) (by omega) (by first | omega | (simp; done) | (simp; omega)) ?_; intro a2 c2 w2 r1 r2 r3; have B2 : Below w.heap.size w w2 := (by first | exact B1.trans r2 | exact (B1.alloc hz1 _).trans r2); have hz2 := B2.size)
              | (refine step_appN rfl (.tmp 40) (.tmp 43) 24 rfl w.heap.size 3 _ 1 8 Tryz.elemInt (.slice a2 (k + 1) c2) (k + 1) (ints (l.take k) ++ ints [n]) (by rfl) r1 (if c = k then some ⟨g, off, none⟩ else some ⟨g, off + k, none⟩) (l.length - k) (c - k) (ints (l.drop k)) (by rfl) (fun h => by split at h <;> cases h) (by rw [HLD.out, Nat.mul_one]) (HD.out.below B2) (ints_one _) (by unfold maxLen; omega) (by omega) (by first | omega | (simp; done) | (simp; omega)) ?_; intro a3 c3 w3 s1 s2 s3))
          all_goals go_wp2
          all_goals go_ret
          all_goals rw [HV.out, HLV.out, ints_append, ints_append]
          all_goals exact ⟨a3, c3, rfl, ownsRow_rebase s1 hbase, B2.trans s2⟩
    · obtain rfl : k = 0 := by omega
      have hv : putG ltI l n = [n] ++ l := by
        unfold putG
        rw [HPUT.out]
        rw [if_neg (by exact fun h => hk0 h.1)]
        rfl
      have HV := Lib.hid hv
      have HLV := Lib.hid (show ([n] ++ l).length = 1 + l.length by simp; omega)
      clear hv
      cases ad with
      | some a =>
        have hform : a.spot = none ∧ True := by
          rcases HO.out.2 with ⟨h1, _⟩ | ⟨g, c', cur, h1, _⟩
          · cases h1
          · cases h1; exact ⟨rfl, trivial⟩
        obtain ⟨g, off, sp⟩ := a
        obtain ⟨rfl, _⟩ := hform
        go_wp2
        have i2 : (0 : Int) ≤ (c : Int) := by omega
        have i3 : (0 : Int) ≤ (l.length : Int) := by omega
        go_region_held3 (fun _ => True) (trivial)
          (first
            | (refine step_app0 rfl (.tmp 33) (.tmp 36) 24 rfl w.heap.size 3 _ 1 8 Tryz.elemInt _ (by rfl) (by first | exact empty_a (w := w) (by rfl) | exact empty_b (w := w) (by rfl) | exact empty_c (w := w) (by rfl)) _ 0 c [] (by rfl) (fun h => by cases h) (by rfl) (CellsAt.nil _ _) (by simp) (by unfold maxLen; omega) (by omega) (by first | omega | (simp; done) | (simp; omega)) ?_; intro a1 c1 w1 p1 p2 p3; have B1 : Below w.heap.size w w1 := Below.trans (by first | exact below_one (by rfl) rfl rfl rfl | exact below_two (by rfl) rfl rfl rfl) p2; have hz1 := B1.size)
            | (refine step_app0 rfl (.tmp 37) (.tmp 39) 24 rfl w.heap.size 3 _ 1 8 Tryz.elemInt (.slice a1 0 c1) (by rfl) (by first | exact p1.alloc _ | exact p1) _ 1 1 (ints [n]) (by rfl) (fun h => by cases h) (by rfl) (by first | exact elem_a (w := w1) (by rfl) | exact elem_b (w := w) (by rfl) p3 (by rfl) | exact elem_c (w := w) (by rfl) p3 (by rfl)) (ints_one _) (by unfold maxLen; omega) (by omega) (by first | omega | (simp; done) | (simp; omega)) ?_; intro a2 c2 w2 r1 r2 r3; have B2 : Below w.heap.size w w2 := (by first | exact B1.trans r2 | exact (B1.alloc hz1 _).trans r2); have hz2 := B2.size)
            | (refine step_appN rfl (.tmp 40) (.tmp 43) 24 rfl w.heap.size 3 _ 1 8 Tryz.elemInt (.slice a2 1 c2) 1 (ints [n]) (by rfl) r1 (some ⟨g, off, none⟩) l.length c (ints l) (by rfl) (fun h => by cases h) (by rw [hil, Nat.mul_one]) (HC.out.below B2) (ints_one _) (by unfold maxLen; omega) (by omega) (by first | omega | (simp; done) | (simp; omega)) ?_; intro a3 c3 w3 s1 s2 s3))
        all_goals go_wp2
        all_goals go_ret
        all_goals rw [HV.out, HLV.out, ints_append]
        all_goals exact ⟨a3, c3, rfl, ownsRow_rebase s1 hbase, B2.trans s2⟩
      | none =>
        obtain rfl : c = 0 := HNIL.out rfl
        obtain rfl : l = [] := List.eq_nil_of_length_eq_zero (by omega)
        go_wp2
        go_region_held3 (fun _ => True) (trivial)
          (first
            | (refine step_app0 rfl (.tmp 33) (.tmp 36) 24 rfl w.heap.size 3 _ 1 8 Tryz.elemInt _ (by rfl) (by first | exact empty_a (w := w) (by rfl) | exact empty_b (w := w) (by rfl) | exact empty_c (w := w) (by rfl)) _ 0 0 [] (by rfl) (fun _ => rfl) (by rfl) (CellsAt.nil _ _) (by simp) (by unfold maxLen; omega) (by omega) (by first | omega | (simp; done) | (simp; omega)) ?_; intro a1 c1 w1 p1 p2 p3; have B1 : Below w.heap.size w w1 := Below.trans (by first | exact below_one (by rfl) rfl rfl rfl | exact below_two (by rfl) rfl rfl rfl) p2; have hz1 := B1.size)
            | (refine step_app0 rfl (.tmp 37) (.tmp 39) 24 rfl w.heap.size 3 _ 1 8 Tryz.elemInt (.slice a1 0 c1) (by rfl) (by first | exact p1.alloc _ | exact p1) _ 1 1 (ints [n]) (by rfl) (fun h => by cases h) (by rfl) (by first | exact elem_a (w := w1) (by rfl) | exact elem_b (w := w) (by rfl) p3 (by rfl) | exact elem_c (w := w) (by rfl) p3 (by rfl)) (ints_one _) (by unfold maxLen; omega) (by omega) (by first | omega | (simp; done) | (simp; omega)) ?_; intro a2 c2 w2 r1 r2 r3; have B2 : Below w.heap.size w w2 := (by first | exact B1.trans r2 | exact (B1.alloc hz1 _).trans r2); have hz2 := B2.size)
            | (refine step_appN rfl (.tmp 40) (.tmp 43) 24 rfl w.heap.size 3 _ 1 8 Tryz.elemInt (.slice a2 1 c2) 1 (ints [n]) (by rfl) r1 none 0 0 (ints []) (by rfl) (fun _ => rfl) (by rfl) (CellsAt.nil _ _) (ints_one _) (by unfold maxLen; omega) (by omega) (by first | omega | (simp; done) | (simp; omega)) ?_; intro a3 c3 w3 s1 s2 s3))
        all_goals go_wp2
        all_goals go_ret
        all_goals rw [HV.out, HLV.out, ints_append]
        all_goals exact ⟨a3, c3, rfl, ownsRow_rebase s1 hbase, B2.trans s2⟩
end Go.Proofs.YtajmdgcnnipdoaaGreatDoor
