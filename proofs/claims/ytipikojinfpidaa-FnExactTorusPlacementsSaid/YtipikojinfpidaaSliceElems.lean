/- SliceElems: a slice that reads as data: each element's cells. -/
import Derived.Test.YtipikojinfpidaaFrameInts
namespace Go.Proofs.Ytipikojinfpidaa
open Go.ChangeShapes Go.WideShapes Go.ChangeAt Go.RowKit

/-- A slice of whatever elements that reads as data: each element's cells. -/
theorem slice_elems {H : Type} {enc : TypeId × Value → H} {P : Program} {W : World} {held : Bool} {t e : TypeId} {sz fuel len cap : Nat} {a0 : Option Addr} {x : DataW H × List MemPlace}
    (ht : P.underlying t = some (.slice e)) (hc : P.cellsOf e = sz) (hsz : 0 < sz) (h : DataW.trod enc P W 0 (fun _ => true) held fuel t [.slice a0 len cap] = some x) :
    len ≤ maxLen ∧ (0 < len → ∃ b off, a0 = some ⟨b, off, none⟩ ∧ ∀ i, i < len → ∃ (ys : List Value) (n : Nat) (y : DataW H × List MemPlace), ys.length = sz ∧ DataW.trod enc P W 0 (fun _ => true) held n e ys = some y ∧
      ∀ j u, ys[j]? = some u → W.cell? ⟨b, off + (i * sz + j), none⟩ = some u) := by
  rcases DataW.trod_slice ht h with ⟨hcs, _⟩ | ⟨a, len', cap', elems, rest, n, _, hcs, _, _, hl, hm, hlen, hel, _⟩
  · simp at hcs
    obtain ⟨rfl, rfl, rfl⟩ := hcs
    exact ⟨by simp [maxLen], fun h => absurd h (by omega)⟩
  · simp at hcs
    obtain ⟨rfl, rfl, rfl⟩ := hcs
    refine ⟨by omega, fun hpos => ?_⟩
    have each : ∀ i, i < len → ∃ (ys : List Value) (y : DataW H × List MemPlace), ys.length = sz ∧ DataW.trod enc P W 0 (fun _ => true) held n e ys = some y ∧ ∀ j u, ys[j]? = some u → W.cell? ((a.add (i * sz)).add j) = some u := by
      intro i hi
      have h1 := hel i hi
      rw [hc, List.getElem?_eq_getElem (by omega)] at h1
      cases hys : W.cells? 0 (a.add (i * sz)) sz with
      | none => rw [hys] at h1; simp at h1
      | some ys =>
        rw [hys] at h1
        simp only [Option.bind_some] at h1
        unfold World.cells? at hys
        rw [if_pos (Nat.zero_le _)] at hys
        have hl1 := mapM_some_length hys
        rw [List.length_range] at hl1
        refine ⟨ys, _, hl1, h1, fun j u hu => ?_⟩
        have hj : j < sz := by
          rcases Nat.lt_or_ge j sz with q | q
          · exact q
          · rw [List.getElem?_eq_none (by omega)] at hu; cases hu
        rw [mapM_some_get hys j j (by simp [hj]), hu]
    obtain ⟨b, off, spot⟩ := a
    have hspot : spot = none := by
      obtain ⟨ys, y, hl1, _, hcell⟩ := each 0 hpos
      have h0 := hcell 0 (ys[0]'(by omega)) (by simp)
      have := World.cell?_spot h0
      simpa [Addr.add] using this
    subst hspot
    refine ⟨b, off, rfl, fun i hi => ?_⟩
    obtain ⟨ys, y, h1, h2, h3⟩ := each i hi
    refine ⟨ys, n, y, h1, h2, fun j u hu => ?_⟩
    have := h3 j u hu
    rw [add_plain, add_plain] at this
    rw [← Nat.add_assoc]
    exact this

end Go.Proofs.Ytipikojinfpidaa
