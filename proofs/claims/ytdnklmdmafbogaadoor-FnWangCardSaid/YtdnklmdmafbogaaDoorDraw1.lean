/- Draw1: what is kept while a cursor draws; l1PickInt. -/
import Derived.Test.YtdnklmdmafbogaaDoorDraw0
import Derived.Test.YtdnklmdmafbogaaDoorAllBase
namespace Go.Proofs.YtdnklmdmafbogaaDoor
open Go.RowKit

attribute [local go_sem ↓] Go.wp_at_zero Go.wp_at_succ

theorem own_grown {w w' : World} {base e size n g : Nat} {v : Value} {xs : List Value} (h : w.ownsRow base e size v n xs) (hg : w.grownBy w' (some g)) (hne : g < base) : w'.ownsRow base e size v n xs :=
  ownsRow_far h hg fun k hk => by cases hk; exact hne
theorem rowNilCap {w : World} {base e size n m cap : Nat} {ad : Option Addr} {xs : List Value} (h : w.ownsRow base e size (.slice ad m cap) n xs) : ad = none → cap = 0 := by
  intro hn
  rcases h.2 with ⟨h1, _⟩ | ⟨g, c, cur, h1, _⟩
  · cases h1; rfl
  · cases h1; cases hn
/-- A short list that a call wrote out. -/
theorem cells_lit {w w' : World} {vs : List Value} {e : TypeId} (h : w'.heap[w.heap.size]? = some (.cells vs.toArray e (0, 0))) : CellsAt w' (some ⟨w.heap.size, 0, none⟩) vs := by
  refine .inr ⟨_, 0, rfl, fun j u hu => ?_⟩
  rw [Nat.zero_add, cell_of_row _ _ j _ _ _ h]
  simpa using hu
theorem grown_then {w a b : World} {row : Option Nat} (h : w.grownBy a row) (k : Below w.heap.size a b) : w.grownBy b row :=
  ⟨k.os.trans h.os, k.tape.trans h.tape, k.output.trans h.output, Nat.le_trans h.size k.size, fun i hi hne => (k.block i hi).trans (h.block i hi hne)⟩

set_option maxRecDepth 100000 in
set_option maxHeartbeats 1600000 in
/-- One of a short list's numbers. -/
theorem pickInt_any (g : Nat) (bs : List Nat) (ad : Option Addr) (c : Nat) (xs : List Int) (w : World) (hc : Curs w g bs) (hn : 1 ≤ xs.length ∧ xs.length ≤ 256) (hx : CellsAt w ad (ints xs)) (hg : ∀ a, ad = some a → a.block ≠ g) :
    Calls Tryd.prog 86 #[.pointer (some ⟨g, 0, none⟩), .slice ad xs.length c] w fun e w' => ∃ z : Int, e = .returned (.int .i64 z) ∧ z ∈ xs ∧ Curs w' g bs ∧ w.grownBy w' (some g) := by
  have HB := Lib.hid (drawBelow g bs xs.length w hc hn)
  have hil := ints_length xs
  obtain ⟨b, off, rfl, hb, hcc⟩ := hx.open (by omega)
  have HCC := Lib.hid hcc
  have hbg : b ≠ g := hg _ rfl
  obtain ⟨hn1, hn2⟩ := hn
  clear hc hx hg hcc
  go_enter Tryd.func86, Tryd.ntmps86
  go_wp2_with fail
  refine HB.out.mono ?_
  rintro e w1 ⟨k, rfl, hk, hc1, hg1⟩
  have HC1 := Lib.hid hc1
  have HG1 := Lib.hid hg1
  have x0 : w1.cell? ⟨b, off + k, none⟩ = some (.int .i64 xs[k]) := by
    rw [World.cell?_of_block (w := w) (hg1.block b hb (fun q => hbg (by cases q; rfl)))]
    exact HCC.out k _ (ints_at xs k hk)
  have hmem : xs[k] ∈ xs := List.getElem_mem hk
  generalize xs[k] = z at x0 hmem
  have HM := Lib.hid hmem
  clear hc1 hg1 hmem
  go_wp2
  go_ret
  exact ⟨z, rfl, HM.out, HC1.out, HG1.out⟩

end Go.Proofs.YtdnklmdmafbogaaDoor
