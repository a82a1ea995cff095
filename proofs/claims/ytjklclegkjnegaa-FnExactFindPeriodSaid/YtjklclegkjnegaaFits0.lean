/- Fits0: lists of indices, tiles at them, whether a tile fits; plain. -/
import Derived.Test.YtjklclegkjnegaaAreWang
import Derived.Test.YtjklclegkjnegaaAllBase
namespace Go.Proofs.Ytjklclegkjnegaa
open Go.RowKit

def nats (f : List Nat) : List Int := f.map fun i : Nat => (i : Int)
theorem nats_length (f : List Nat) : (nats f).length = f.length := by simp [nats]
theorem nats_snoc (f : List Nat) (i : Nat) : nats (f ++ [i]) = nats f ++ [(i : Int)] := by simp [nats]
def Tl (ts : List Tile) (i : Nat) : Tile := ts.getD i ⟨0, 0, 0, 0⟩
def At (f : List Nat) (i : Nat) : Nat := f.getD i 0
theorem nats_at {f : List Nat} {k : Nat} (h : k < f.length) : (ints (nats f))[k]? = some (.int .i64 (At f k)) := by
  rw [ints_at _ _ (by rw [nats_length]; exact h)]; simp [nats, At, h]
/-- Whether tile t fits behind the tiles f of rows of w. -/
def fitsB (ts : List Tile) (w : Nat) (f : List Nat) (t : Nat) : Bool :=
  (decide (f.length % w = 0) || decide ((Tl ts (At f (f.length - 1))).r = (Tl ts t).l)) && (decide (f.length < w) || decide ((Tl ts (At f (f.length - w))).b = (Tl ts t).t))

/-- A list of tiles and a list of indices, opened: the cells of the tiles at its indices. -/
theorem tl_cells {w : World} {ad : Option Addr} {ts : List Tile} (h : CellsAt w ad (wangs ts)) (hn : 0 < ts.length) : ∃ g off, ad = some ⟨g, off, none⟩ ∧ g < w.heap.size ∧
    ∀ k, k < ts.length → w.cell? ⟨g, off + k * 4, none⟩ = some (.int .i64 (Tl ts k).t) ∧ w.cell? ⟨g, off + k * 4 + 1, none⟩ = some (.int .i64 (Tl ts k).r) ∧
      w.cell? ⟨g, off + k * 4 + 2, none⟩ = some (.int .i64 (Tl ts k).b) ∧ w.cell? ⟨g, off + k * 4 + 3, none⟩ = some (.int .i64 (Tl ts k).l) := by
  obtain ⟨g, off, rfl, hg, hc⟩ := wang_open h hn
  refine ⟨g, off, rfl, hg, fun k hk => ?_⟩
  have e : Tl ts k = ts[k] := by simp [Tl, hk]
  rw [e]
  exact hc k hk
end Go.Proofs.Ytjklclegkjnegaa
