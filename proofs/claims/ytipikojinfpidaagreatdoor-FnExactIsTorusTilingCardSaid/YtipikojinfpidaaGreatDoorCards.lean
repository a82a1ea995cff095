/-
  DERIVED. GIVEN WITH THE SEED: THE CARDS: each row of YtipikojinfpidaaGreatDoorRows.lean that lists a variable, with what it lists TIED to the program's text (the seventh form; the later family's looks); each row that meets fmt, with fmt's text TOLD by the authors' own Lean function (tested against real Go, not proved from fmt's source: count such statements apart). THE CARD IS WHAT COUNTS. Prove the row's statement (the work); the ties are given (YtipikojinfpidaaGreatDoorTie.lean); close each card by the builder's one call (the guide's Derived/Test/ToyasCard.lean, 'card_holds'). Laid BY PROGRAM, IN A SANDBOX (cutbox-door.mjs). By AI agents, Wed Nov 11 2026. No macro, syntax, notation, axiom, sorry.
-/
import Derived.Test.YtipikojinfpidaaGreatDoorRows
import GoSem.ClaimSeven
namespace Go.Proofs.YtipikojinfpidaaGreatDoor
namespace Rows

/-- THE TIED CARD OF 'laws.FnExactCountTorusTilings'. -/
def fnExactCountTorusTilingsCard : Claim7 := { stood := { row := fnExactCountTorusTilingsRow, standIns := [], harness := (true, "80a4e931d251524b05026fea52584d37b7517a7a435b94b08c8dca9cc6029bbd"), looks := false }, kinds := [], alts := [], laidByText := true, laidKinds := [.data, .data], laidTests := true, laidLooks := .later }
def FnExactCountTorusTilingsCardSaid : Prop := Claim7.holds Tryz.pinned (.plain (OpenSpec.ofChange fnExactCountTorusTilingsSpec)) fnExactCountTorusTilingsCard

/-- THE TIED CARD OF 'laws.FnExactIsTorusTiling'. -/
def fnExactIsTorusTilingCard : Claim7 := { stood := { row := fnExactIsTorusTilingRow, standIns := [], harness := (true, "80a4e931d251524b05026fea52584d37b7517a7a435b94b08c8dca9cc6029bbd"), looks := false }, kinds := [], alts := [], laidByText := true, laidKinds := [.data, .data], laidTests := true, laidLooks := .later }
def FnExactIsTorusTilingCardSaid : Prop := Claim7.holds Tryz.pinned (.plain (OpenSpec.ofChange fnExactIsTorusTilingSpec)) fnExactIsTorusTilingCard

/-- THE TIED CARD OF 'laws.FnExactTilesPlane'. -/
def fnExactTilesPlaneCard : Claim7 := { stood := { row := fnExactTilesPlaneRow, standIns := [], harness := (true, "80a4e931d251524b05026fea52584d37b7517a7a435b94b08c8dca9cc6029bbd"), looks := false }, kinds := [], alts := [], laidByText := true, laidKinds := [.data, .data], laidTests := true, laidLooks := .later }
def FnExactTilesPlaneCardSaid : Prop := Claim7.holds Tryz.pinned (.plain (OpenSpec.ofChange fnExactTilesPlaneSpec)) fnExactTilesPlaneCard

/-- THE TIED CARD OF 'laws.FnExactFindTorusTiling'. -/
def fnExactFindTorusTilingCard : Claim7 := { stood := { row := fnExactFindTorusTilingRow, standIns := [], harness := (true, "80a4e931d251524b05026fea52584d37b7517a7a435b94b08c8dca9cc6029bbd"), looks := false }, kinds := [], alts := [], laidByText := true, laidKinds := [.data, .data], laidTests := true, laidLooks := .later }
def FnExactFindTorusTilingCardSaid : Prop := Claim7.holds Tryz.pinned (.plain (OpenSpec.ofChange fnExactFindTorusTilingSpec)) fnExactFindTorusTilingCard

/-- THE TIED CARD OF 'laws.FnExactTilesRectangle'. -/
def fnExactTilesRectangleCard : Claim7 := { stood := { row := fnExactTilesRectangleRow, standIns := [], harness := (true, "80a4e931d251524b05026fea52584d37b7517a7a435b94b08c8dca9cc6029bbd"), looks := false }, kinds := [], alts := [], laidByText := true, laidKinds := [.data, .data], laidTests := true, laidLooks := .later }
def FnExactTilesRectangleCardSaid : Prop := Claim7.holds Tryz.pinned (.plain (OpenSpec.ofChange fnExactTilesRectangleSpec)) fnExactTilesRectangleCard

/-- THE TIED CARD OF 'laws.FnExactRepTiling'. -/
def fnExactRepTilingCard : Claim7 := { stood := { row := fnExactRepTilingRow, standIns := [], harness := (true, "80a4e931d251524b05026fea52584d37b7517a7a435b94b08c8dca9cc6029bbd"), looks := false }, kinds := [], alts := [], laidByText := true, laidKinds := [.data, .data], laidTests := true, laidLooks := .later }
def FnExactRepTilingCardSaid : Prop := Claim7.holds Tryz.pinned (.plain (OpenSpec.ofChange fnExactRepTilingSpec)) fnExactRepTilingCard

/-- THE TIED CARD OF 'laws.FnExactIsRepTile'. -/
def fnExactIsRepTileCard : Claim7 := { stood := { row := fnExactIsRepTileRow, standIns := [], harness := (true, "80a4e931d251524b05026fea52584d37b7517a7a435b94b08c8dca9cc6029bbd"), looks := false }, kinds := [], alts := [], laidByText := true, laidKinds := [.data, .data], laidTests := true, laidLooks := .later }
def FnExactIsRepTileCardSaid : Prop := Claim7.holds Tryz.pinned (.plain (OpenSpec.ofChange fnExactIsRepTileSpec)) fnExactIsRepTileCard

/-- THE TIED CARD OF 'laws.FnExactLeastRep'. -/
def fnExactLeastRepCard : Claim7 := { stood := { row := fnExactLeastRepRow, standIns := [], harness := (true, "80a4e931d251524b05026fea52584d37b7517a7a435b94b08c8dca9cc6029bbd"), looks := false }, kinds := [], alts := [], laidByText := true, laidKinds := [.data, .data], laidTests := true, laidLooks := .later }
def FnExactLeastRepCardSaid : Prop := Claim7.holds Tryz.pinned (.plain (OpenSpec.ofChange fnExactLeastRepSpec)) fnExactLeastRepCard

/-- THE SECOND FORM's CARD OF 'laws.FnExactCountTorusTilings'. -/
def fnExactCountTorusTilingsUptoCard : Claim7 := { stood := { row := fnExactCountTorusTilingsUptoRow, standIns := [], harness := (true, "80a4e931d251524b05026fea52584d37b7517a7a435b94b08c8dca9cc6029bbd"), looks := false }, kinds := [], alts := [], laidByText := true, laidKinds := [.data, .data], laidTests := true, laidLooks := .later }
def FnExactCountTorusTilingsUptoCardSaid : Prop := Claim7.holds Tryz.pinned (.plain (OpenSpec.upto fnExactCountTorusTilingsSpec)) fnExactCountTorusTilingsUptoCard

/-- THE SECOND FORM's CARD OF 'laws.FnExactIsTorusTiling'. -/
def fnExactIsTorusTilingUptoCard : Claim7 := { stood := { row := fnExactIsTorusTilingUptoRow, standIns := [], harness := (true, "80a4e931d251524b05026fea52584d37b7517a7a435b94b08c8dca9cc6029bbd"), looks := false }, kinds := [], alts := [], laidByText := true, laidKinds := [.data, .data], laidTests := true, laidLooks := .later }
def FnExactIsTorusTilingUptoCardSaid : Prop := Claim7.holds Tryz.pinned (.plain (OpenSpec.upto fnExactIsTorusTilingSpec)) fnExactIsTorusTilingUptoCard

/-- THE SECOND FORM's CARD OF 'laws.FnExactTilesPlane'. -/
def fnExactTilesPlaneUptoCard : Claim7 := { stood := { row := fnExactTilesPlaneUptoRow, standIns := [], harness := (true, "80a4e931d251524b05026fea52584d37b7517a7a435b94b08c8dca9cc6029bbd"), looks := false }, kinds := [], alts := [], laidByText := true, laidKinds := [.data, .data], laidTests := true, laidLooks := .later }
def FnExactTilesPlaneUptoCardSaid : Prop := Claim7.holds Tryz.pinned (.plain (OpenSpec.upto fnExactTilesPlaneSpec)) fnExactTilesPlaneUptoCard

/-- THE SECOND FORM's CARD OF 'laws.FnExactFindTorusTiling'. -/
def fnExactFindTorusTilingUptoCard : Claim7 := { stood := { row := fnExactFindTorusTilingUptoRow, standIns := [], harness := (true, "80a4e931d251524b05026fea52584d37b7517a7a435b94b08c8dca9cc6029bbd"), looks := false }, kinds := [], alts := [], laidByText := true, laidKinds := [.data, .data], laidTests := true, laidLooks := .later }
def FnExactFindTorusTilingUptoCardSaid : Prop := Claim7.holds Tryz.pinned (.plain (OpenSpec.upto fnExactFindTorusTilingSpec)) fnExactFindTorusTilingUptoCard

/-- THE SECOND FORM's CARD OF 'laws.FnExactTilesRectangle'. -/
def fnExactTilesRectangleUptoCard : Claim7 := { stood := { row := fnExactTilesRectangleUptoRow, standIns := [], harness := (true, "80a4e931d251524b05026fea52584d37b7517a7a435b94b08c8dca9cc6029bbd"), looks := false }, kinds := [], alts := [], laidByText := true, laidKinds := [.data, .data], laidTests := true, laidLooks := .later }
def FnExactTilesRectangleUptoCardSaid : Prop := Claim7.holds Tryz.pinned (.plain (OpenSpec.upto fnExactTilesRectangleSpec)) fnExactTilesRectangleUptoCard

/-- THE SECOND FORM's CARD OF 'laws.FnExactRepTiling'. -/
def fnExactRepTilingUptoCard : Claim7 := { stood := { row := fnExactRepTilingUptoRow, standIns := [], harness := (true, "80a4e931d251524b05026fea52584d37b7517a7a435b94b08c8dca9cc6029bbd"), looks := false }, kinds := [], alts := [], laidByText := true, laidKinds := [.data, .data], laidTests := true, laidLooks := .later }
def FnExactRepTilingUptoCardSaid : Prop := Claim7.holds Tryz.pinned (.plain (OpenSpec.upto fnExactRepTilingSpec)) fnExactRepTilingUptoCard

/-- THE SECOND FORM's CARD OF 'laws.FnExactIsRepTile'. -/
def fnExactIsRepTileUptoCard : Claim7 := { stood := { row := fnExactIsRepTileUptoRow, standIns := [], harness := (true, "80a4e931d251524b05026fea52584d37b7517a7a435b94b08c8dca9cc6029bbd"), looks := false }, kinds := [], alts := [], laidByText := true, laidKinds := [.data, .data], laidTests := true, laidLooks := .later }
def FnExactIsRepTileUptoCardSaid : Prop := Claim7.holds Tryz.pinned (.plain (OpenSpec.upto fnExactIsRepTileSpec)) fnExactIsRepTileUptoCard

/-- THE SECOND FORM's CARD OF 'laws.FnExactLeastRep'. -/
def fnExactLeastRepUptoCard : Claim7 := { stood := { row := fnExactLeastRepUptoRow, standIns := [], harness := (true, "80a4e931d251524b05026fea52584d37b7517a7a435b94b08c8dca9cc6029bbd"), looks := false }, kinds := [], alts := [], laidByText := true, laidKinds := [.data, .data], laidTests := true, laidLooks := .later }
def FnExactLeastRepUptoCardSaid : Prop := Claim7.holds Tryz.pinned (.plain (OpenSpec.upto fnExactLeastRepSpec)) fnExactLeastRepUptoCard
end Rows
end Go.Proofs.YtipikojinfpidaaGreatDoor
