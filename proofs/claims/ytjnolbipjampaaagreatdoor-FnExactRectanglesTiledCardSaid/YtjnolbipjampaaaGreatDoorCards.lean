/-
  DERIVED. GIVEN WITH THE SEED: THE CARDS: each row of YtjnolbipjampaaaGreatDoorRows.lean that lists a variable, with what it lists TIED to the program's text (the seventh form; the later family's looks); each row that meets fmt, with fmt's text TOLD by the authors' own Lean function (tested against real Go, not proved from fmt's source: count such statements apart). THE CARD IS WHAT COUNTS. Prove the row's statement (the work); the ties are given (YtjnolbipjampaaaGreatDoorTie.lean); close each card by the builder's one call (the guide's Derived/Test/ToyasCard.lean, 'card_holds'). Laid BY PROGRAM, IN A SANDBOX (cutbox-door.mjs). By AI agents, Wed Nov 11 2026. No macro, syntax, notation, axiom, sorry.
-/
import Derived.Test.YtjnolbipjampaaaGreatDoorRows
import GoSem.ClaimSeven
namespace Go.Proofs.YtjnolbipjampaaaGreatDoor
namespace Rows

/-- THE TIED CARD OF 'laws.FnExactRectanglesTiled'. -/
def fnExactRectanglesTiledCard : Claim7 := { stood := { row := fnExactRectanglesTiledRow, standIns := [], harness := (true, "81c5c1f1b05d5c17d2efb4976364fd5153378ee89c7ada5bf1d38da8ba692b65"), looks := false }, kinds := [], alts := [], laidByText := true, laidKinds := [.data, .data], laidTests := true, laidLooks := .later }
def FnExactRectanglesTiledCardSaid : Prop := Claim7.holds Tryz.pinned (.plain (OpenSpec.ofChange fnExactRectanglesTiledSpec)) fnExactRectanglesTiledCard

/-- THE SECOND FORM's CARD OF 'laws.FnExactRectanglesTiled'. -/
def fnExactRectanglesTiledUptoCard : Claim7 := { stood := { row := fnExactRectanglesTiledUptoRow, standIns := [], harness := (true, "81c5c1f1b05d5c17d2efb4976364fd5153378ee89c7ada5bf1d38da8ba692b65"), looks := false }, kinds := [], alts := [], laidByText := true, laidKinds := [.data, .data], laidTests := true, laidLooks := .later }
def FnExactRectanglesTiledUptoCardSaid : Prop := Claim7.holds Tryz.pinned (.plain (OpenSpec.upto fnExactRectanglesTiledSpec)) fnExactRectanglesTiledUptoCard
end Rows
end Go.Proofs.YtjnolbipjampaaaGreatDoor
