/- AllTie: parts laid together: Tied, QuietFrom. -/
import Derived.Test.YtajmdgcnnipdoaaGreatDoorAllLow
import Derived.Test.YtajmdgcnnipdoaaGreatDoorAllFrame
import Derived.LaidMore
import Derived.Lay
import Derived.Stop.Joined
import Derived.Test.YtajmdgcnnipdoaaGreatDoorProg
import Derived.Lib.QuietBelow
import Derived.BigQuiet

/- Tied: what the listed tables' condition gives a walk: the library's table lies in its variable. -/
namespace Go.Proofs.YtajmdgcnnipdoaaGreatDoor
open Go.ChangeShapes Go.WideShapes Go.ChangeAt Go.RowKit

abbrev tabs : List (String × DataW Unit) := [("math/bits.deBruijn32tab", Rows.laid_math_bits_deBruijn32tab), ("math/bits.deBruijn64tab", Rows.laid_math_bits_deBruijn64tab)]
theorem tab_lits : (Rows.laid_math_bits_deBruijn64tab : DataW Unit) = .agg (Lib.deBruijn64tab.map fun (n : Nat) => .lit (.int .u8 (n : Int))) := by kernel_rfl
theorem tab_cell {W : World} (h : laidMetH Tryz.prog tabs W) (r : Nat) (hr : r < 64) : W.cell? ⟨1, r, none⟩ = some (.int .u8 (Lib.deBruijn64tab.getD r 0)) := by
  rw [MakeChecks.laidMetH_plain _ _ _ (by kernel_rfl)] at h
  obtain ⟨ps, ⟨_, _, _, _, _, _, _, _, _, _, ⟨g, t, cs, fuel, p, q, hg, ht, hv, hd, _, _⟩, _⟩, _, _⟩ := h
  obtain rfl := Option.some.inj ((show Tryz.prog.globalNamed "math/bits.deBruijn64tab" = some 1 by kernel_rfl).symm.trans hg)
  obtain rfl := Option.some.inj ((show (Tryz.prog.globals[1]?).map (·.type) = some 152 by kernel_rfl).symm.trans ht)
  rw [tab_lits] at hd
  obtain ⟨xs, m, _, ex, _, hl, hel⟩ := DataW.trod_array Tryz.underlying152 hd
  have c5 : Tryz.prog.cellsOf 5 = 1 := by kernel_rfl
  have hE := hel r hr
  rw [c5, Nat.mul_one, List.getElem?_eq_getElem (by omega)] at hE
  obtain ⟨z, e1, e2, _⟩ := DataW.trod_int Tryz.underlying5 hE
  have hlen : Lib.deBruijn64tab.length = 64 := rfl
  have e3 : (xs.map (·.1)) = Lib.deBruijn64tab.map fun (n : Nat) => (.lit (.int .u8 (n : Int)) : DataW Unit) := (DataW.agg.inj (Prod.mk.inj ex).1).symm
  have e4 : (xs.map (·.1))[r]? = (Lib.deBruijn64tab.map fun (n : Nat) => (.lit (.int .u8 (n : Int)) : DataW Unit))[r]? := by rw [e3]
  rw [List.getElem?_map, List.getElem?_map, List.getElem?_eq_getElem (by omega : r < xs.length), List.getElem?_eq_getElem (by omega : r < Lib.deBruijn64tab.length), e2] at e4
  have hz : z = ((Lib.deBruijn64tab.getD r 0 : Nat) : Int) := by
    simp only [Option.map_some, Option.some.injEq, DataW.lit.injEq, Lit.int.injEq, true_and] at e4
    rw [e4, List.getD, List.getElem?_eq_getElem (by omega : r < Lib.deBruijn64tab.length)]; rfl
  rw [World.var?_cell hg hv r, ← hz]
  have : cs.toList[r]? = some (.int .u8 z) := by
    have h0 : ((cs.toList.drop r).take 1)[0]? = some (.int .u8 z) := by rw [e1]; rfl
    simpa using h0
  simpa using this
theorem tab_of_laid {W : World} (h : laidMetH Tryz.prog tabs W) : Tab W :=
  ⟨block_lt_of_cell (tab_cell h 0 (by decide)), fun j hj => tab_cell h j hj⟩
end Go.Proofs.YtajmdgcnnipdoaaGreatDoor

/- QuietFrom: a region that draws its order, whose first operations have been walked one by one, walked on in the order of the text. -/
namespace Go.Proofs.YtajmdgcnnipdoaaGreatDoor
open Go.RowKit Go.Sort

theorem wpAny_quiet4 {P : Program} {o0 o1 o2 o3 : Oper} {l : List Oper} {Q : Exit → Act → World → Prop} {fuel : Nat} {listed : Array Bool} {a : Act} {w : World} (hs : Region.noSelect (o0 :: o1 :: o2 :: o3 :: l).toArray = true) (hf : fuel = l.length)
    (hB : Region.lexFrom .any (o0 :: o1 :: o2 :: o3 :: l).toArray l.length 4 listed = true)
    (h : wpQuiet P (o0 :: o1 :: o2 :: o3 :: l).toArray (fun w' => ∃ p : Regrown, w' = grow (redrawn w p.d) p.os) (fun a' => ∀ w', (∃ p : Regrown, w' = grow (redrawn w p.d) p.os) → Q .normal a' w') l a) :
    wpAny P .any (o0 :: o1 :: o2 :: o3 :: l).toArray Q fuel listed a w := by
  subst hf
  refine wpAny_of_quiet (C := fun w' => ∃ p : Regrown, w' = grow (redrawn w p.d) p.os) (Q := fun a' => ∀ w', (∃ p : Regrown, w' = grow (redrawn w p.d) p.os) → Q .normal a' w') (fun _ w' hw' h => h w' hw') _ _ _ _ ⟨⟨w.drawn, #[]⟩, by rw [grow_empty]; rfl⟩ ?_
  exact wpAnyQ_lex hs l 4 listed a (fun j => by
    rw [Nat.add_comm 4 j]
    simp) hB h
end Go.Proofs.YtajmdgcnnipdoaaGreatDoor
