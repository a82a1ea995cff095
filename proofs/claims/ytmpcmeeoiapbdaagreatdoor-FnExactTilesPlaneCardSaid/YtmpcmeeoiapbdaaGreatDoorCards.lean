/-
  DERIVED. GIVEN WITH THE SEED: THE CARDS: each row of YtmpcmeeoiapbdaaGreatDoorRows.lean that lists a variable, with what it lists TIED to the program's text (the seventh form; the later family's looks); each row that meets fmt, with fmt's text TOLD by the authors' own Lean function (tested against real Go, not proved from fmt's source: count such statements apart). THE CARD IS WHAT COUNTS. Prove the row's statement (the work); the ties are given (YtmpcmeeoiapbdaaGreatDoorTie.lean); close each card by the builder's one call (the guide's Derived/Test/ToyasCard.lean, 'card_holds'). Laid BY PROGRAM, IN A SANDBOX (cutbox-door.mjs). By AI agents, Wed Nov 11 2026. No macro, syntax, notation, axiom, sorry.
-/
import Derived.Test.YtmpcmeeoiapbdaaGreatDoorRows
import GoSem.ClaimSeven
namespace Go.Proofs.YtmpcmeeoiapbdaaGreatDoor
namespace Rows

/-- THE TIED CARD OF 'laws.FnExactCountTorusTilings'. -/
def fnExactCountTorusTilingsCard : Claim7 := { stood := { row := fnExactCountTorusTilingsRow, standIns := [], harness := (true, "d8e196497d65242edc6db36037073e4bb15a84c2436841dd753778a5d0b116b2"), looks := false }, kinds := [], alts := [], laidByText := true, laidKinds := [.data, .data], laidTests := true, laidLooks := .later }
def FnExactCountTorusTilingsCardSaid : Prop := Claim7.holds Tryz.pinned (.plain (OpenSpec.ofChange fnExactCountTorusTilingsSpec)) fnExactCountTorusTilingsCard

/-- THE TIED CARD OF 'laws.FnExactTilesPlane'. -/
def fnExactTilesPlaneCard : Claim7 := { stood := { row := fnExactTilesPlaneRow, standIns := [], harness := (true, "d8e196497d65242edc6db36037073e4bb15a84c2436841dd753778a5d0b116b2"), looks := false }, kinds := [], alts := [], laidByText := true, laidKinds := [.data, .data], laidTests := true, laidLooks := .later }
def FnExactTilesPlaneCardSaid : Prop := Claim7.holds Tryz.pinned (.plain (OpenSpec.ofChange fnExactTilesPlaneSpec)) fnExactTilesPlaneCard

/-- THE TIED CARD OF 'laws.FnExactFindTorusTiling'. -/
def fnExactFindTorusTilingCard : Claim7 := { stood := { row := fnExactFindTorusTilingRow, standIns := [], harness := (true, "d8e196497d65242edc6db36037073e4bb15a84c2436841dd753778a5d0b116b2"), looks := false }, kinds := [], alts := [], laidByText := true, laidKinds := [.data, .data], laidTests := true, laidLooks := .later }
def FnExactFindTorusTilingCardSaid : Prop := Claim7.holds Tryz.pinned (.plain (OpenSpec.ofChange fnExactFindTorusTilingSpec)) fnExactFindTorusTilingCard

/-- THE TIED CARD OF 'laws.FnExactTilesRectangle'. -/
def fnExactTilesRectangleCard : Claim7 := { stood := { row := fnExactTilesRectangleRow, standIns := [], harness := (true, "d8e196497d65242edc6db36037073e4bb15a84c2436841dd753778a5d0b116b2"), looks := false }, kinds := [], alts := [], laidByText := true, laidKinds := [.data, .data], laidTests := true, laidLooks := .later }
def FnExactTilesRectangleCardSaid : Prop := Claim7.holds Tryz.pinned (.plain (OpenSpec.ofChange fnExactTilesRectangleSpec)) fnExactTilesRectangleCard

/-- THE TIED CARD OF 'laws.FnExactIsRepTile'. -/
def fnExactIsRepTileCard : Claim7 := { stood := { row := fnExactIsRepTileRow, standIns := [], harness := (true, "d8e196497d65242edc6db36037073e4bb15a84c2436841dd753778a5d0b116b2"), looks := false }, kinds := [], alts := [], laidByText := true, laidKinds := [.data, .data], laidTests := true, laidLooks := .later }
def FnExactIsRepTileCardSaid : Prop := Claim7.holds Tryz.pinned (.plain (OpenSpec.ofChange fnExactIsRepTileSpec)) fnExactIsRepTileCard

/-- THE TIED CARD OF 'laws.FnExactLeastRep'. -/
def fnExactLeastRepCard : Claim7 := { stood := { row := fnExactLeastRepRow, standIns := [], harness := (true, "d8e196497d65242edc6db36037073e4bb15a84c2436841dd753778a5d0b116b2"), looks := false }, kinds := [], alts := [], laidByText := true, laidKinds := [.data, .data], laidTests := true, laidLooks := .later }
def FnExactLeastRepCardSaid : Prop := Claim7.holds Tryz.pinned (.plain (OpenSpec.ofChange fnExactLeastRepSpec)) fnExactLeastRepCard

/-- THE TIED CARD OF 'laws.FnExactRepTiling'. -/
def fnExactRepTilingCard : Claim7 := { stood := { row := fnExactRepTilingRow, standIns := [], harness := (true, "d8e196497d65242edc6db36037073e4bb15a84c2436841dd753778a5d0b116b2"), looks := false }, kinds := [], alts := [], laidByText := true, laidKinds := [.data, .data], laidTests := true, laidLooks := .later }
def FnExactRepTilingCardSaid : Prop := Claim7.holds Tryz.pinned (.plain (OpenSpec.ofChange fnExactRepTilingSpec)) fnExactRepTilingCard

/-- THE TIED CARD OF 'laws.FnExactSmallestRectangle'. -/
def fnExactSmallestRectangleCard : Claim7 := { stood := { row := fnExactSmallestRectangleRow, standIns := [], harness := (true, "d8e196497d65242edc6db36037073e4bb15a84c2436841dd753778a5d0b116b2"), looks := false }, kinds := [], alts := [], laidByText := true, laidKinds := [.data, .data], laidTests := true, laidLooks := .later }
def FnExactSmallestRectangleCardSaid : Prop := Claim7.holds Tryz.pinned (.plain (OpenSpec.ofChange fnExactSmallestRectangleSpec)) fnExactSmallestRectangleCard

/-- THE TIED CARD OF 'laws.FnExactRectangleOrder'. -/
def fnExactRectangleOrderCard : Claim7 := { stood := { row := fnExactRectangleOrderRow, standIns := [], harness := (true, "d8e196497d65242edc6db36037073e4bb15a84c2436841dd753778a5d0b116b2"), looks := false }, kinds := [], alts := [], laidByText := true, laidKinds := [.data, .data], laidTests := true, laidLooks := .later }
def FnExactRectangleOrderCardSaid : Prop := Claim7.holds Tryz.pinned (.plain (OpenSpec.ofChange fnExactRectangleOrderSpec)) fnExactRectangleOrderCard

/-- THE SECOND FORM's CARD OF 'laws.FnExactCountTorusTilings'. -/
def fnExactCountTorusTilingsUptoCard : Claim7 := { stood := { row := fnExactCountTorusTilingsUptoRow, standIns := [], harness := (true, "d8e196497d65242edc6db36037073e4bb15a84c2436841dd753778a5d0b116b2"), looks := false }, kinds := [], alts := [], laidByText := true, laidKinds := [.data, .data], laidTests := true, laidLooks := .later }
def FnExactCountTorusTilingsUptoCardSaid : Prop := Claim7.holds Tryz.pinned (.plain (OpenSpec.upto fnExactCountTorusTilingsSpec)) fnExactCountTorusTilingsUptoCard

/-- THE SECOND FORM's CARD OF 'laws.FnExactTilesPlane'. -/
def fnExactTilesPlaneUptoCard : Claim7 := { stood := { row := fnExactTilesPlaneUptoRow, standIns := [], harness := (true, "d8e196497d65242edc6db36037073e4bb15a84c2436841dd753778a5d0b116b2"), looks := false }, kinds := [], alts := [], laidByText := true, laidKinds := [.data, .data], laidTests := true, laidLooks := .later }
def FnExactTilesPlaneUptoCardSaid : Prop := Claim7.holds Tryz.pinned (.plain (OpenSpec.upto fnExactTilesPlaneSpec)) fnExactTilesPlaneUptoCard

/-- THE SECOND FORM's CARD OF 'laws.FnExactFindTorusTiling'. -/
def fnExactFindTorusTilingUptoCard : Claim7 := { stood := { row := fnExactFindTorusTilingUptoRow, standIns := [], harness := (true, "d8e196497d65242edc6db36037073e4bb15a84c2436841dd753778a5d0b116b2"), looks := false }, kinds := [], alts := [], laidByText := true, laidKinds := [.data, .data], laidTests := true, laidLooks := .later }
def FnExactFindTorusTilingUptoCardSaid : Prop := Claim7.holds Tryz.pinned (.plain (OpenSpec.upto fnExactFindTorusTilingSpec)) fnExactFindTorusTilingUptoCard

/-- THE SECOND FORM's CARD OF 'laws.FnExactTilesRectangle'. -/
def fnExactTilesRectangleUptoCard : Claim7 := { stood := { row := fnExactTilesRectangleUptoRow, standIns := [], harness := (true, "d8e196497d65242edc6db36037073e4bb15a84c2436841dd753778a5d0b116b2"), looks := false }, kinds := [], alts := [], laidByText := true, laidKinds := [.data, .data], laidTests := true, laidLooks := .later }
def FnExactTilesRectangleUptoCardSaid : Prop := Claim7.holds Tryz.pinned (.plain (OpenSpec.upto fnExactTilesRectangleSpec)) fnExactTilesRectangleUptoCard

/-- THE SECOND FORM's CARD OF 'laws.FnExactIsRepTile'. -/
def fnExactIsRepTileUptoCard : Claim7 := { stood := { row := fnExactIsRepTileUptoRow, standIns := [], harness := (true, "d8e196497d65242edc6db36037073e4bb15a84c2436841dd753778a5d0b116b2"), looks := false }, kinds := [], alts := [], laidByText := true, laidKinds := [.data, .data], laidTests := true, laidLooks := .later }
def FnExactIsRepTileUptoCardSaid : Prop := Claim7.holds Tryz.pinned (.plain (OpenSpec.upto fnExactIsRepTileSpec)) fnExactIsRepTileUptoCard

/-- THE SECOND FORM's CARD OF 'laws.FnExactLeastRep'. -/
def fnExactLeastRepUptoCard : Claim7 := { stood := { row := fnExactLeastRepUptoRow, standIns := [], harness := (true, "d8e196497d65242edc6db36037073e4bb15a84c2436841dd753778a5d0b116b2"), looks := false }, kinds := [], alts := [], laidByText := true, laidKinds := [.data, .data], laidTests := true, laidLooks := .later }
def FnExactLeastRepUptoCardSaid : Prop := Claim7.holds Tryz.pinned (.plain (OpenSpec.upto fnExactLeastRepSpec)) fnExactLeastRepUptoCard

/-- THE SECOND FORM's CARD OF 'laws.FnExactRepTiling'. -/
def fnExactRepTilingUptoCard : Claim7 := { stood := { row := fnExactRepTilingUptoRow, standIns := [], harness := (true, "d8e196497d65242edc6db36037073e4bb15a84c2436841dd753778a5d0b116b2"), looks := false }, kinds := [], alts := [], laidByText := true, laidKinds := [.data, .data], laidTests := true, laidLooks := .later }
def FnExactRepTilingUptoCardSaid : Prop := Claim7.holds Tryz.pinned (.plain (OpenSpec.upto fnExactRepTilingSpec)) fnExactRepTilingUptoCard

/-- THE SECOND FORM's CARD OF 'laws.FnExactSmallestRectangle'. -/
def fnExactSmallestRectangleUptoCard : Claim7 := { stood := { row := fnExactSmallestRectangleUptoRow, standIns := [], harness := (true, "d8e196497d65242edc6db36037073e4bb15a84c2436841dd753778a5d0b116b2"), looks := false }, kinds := [], alts := [], laidByText := true, laidKinds := [.data, .data], laidTests := true, laidLooks := .later }
def FnExactSmallestRectangleUptoCardSaid : Prop := Claim7.holds Tryz.pinned (.plain (OpenSpec.upto fnExactSmallestRectangleSpec)) fnExactSmallestRectangleUptoCard

/-- THE SECOND FORM's CARD OF 'laws.FnExactRectangleOrder'. -/
def fnExactRectangleOrderUptoCard : Claim7 := { stood := { row := fnExactRectangleOrderUptoRow, standIns := [], harness := (true, "d8e196497d65242edc6db36037073e4bb15a84c2436841dd753778a5d0b116b2"), looks := false }, kinds := [], alts := [], laidByText := true, laidKinds := [.data, .data], laidTests := true, laidLooks := .later }
def FnExactRectangleOrderUptoCardSaid : Prop := Claim7.holds Tryz.pinned (.plain (OpenSpec.upto fnExactRectangleOrderSpec)) fnExactRectangleOrderUptoCard
end Rows
end Go.Proofs.YtmpcmeeoiapbdaaGreatDoor
