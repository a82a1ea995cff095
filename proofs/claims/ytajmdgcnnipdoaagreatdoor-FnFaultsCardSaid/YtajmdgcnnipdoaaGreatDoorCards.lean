/-
  DERIVED. GIVEN WITH THE SEED: THE CARDS: each row of YtajmdgcnnipdoaaGreatDoorRows.lean that lists a variable, with what it lists TIED to the program's text (the seventh form; the later family's looks); each row that meets fmt, with fmt's text TOLD by the authors' own Lean function (tested against real Go, not proved from fmt's source: count such statements apart). THE CARD IS WHAT COUNTS. Prove the row's statement (the work); the ties are given (YtajmdgcnnipdoaaGreatDoorTie.lean); close each card by the builder's one call (the guide's Derived/Test/ToyasCard.lean, 'card_holds'). Laid BY PROGRAM, IN A SANDBOX (cutbox-door.mjs). By AI agents, Wed Nov 11 2026. No macro, syntax, notation, axiom, sorry.
-/
import Derived.Test.YtajmdgcnnipdoaaGreatDoorRows
import GoSem.ClaimSeven
namespace Go.Proofs.YtajmdgcnnipdoaaGreatDoor
namespace Rows

/-- THE TIED CARD OF 'laws.FnFaults'. -/
def fnFaultsCard : Claim7 := { stood := { row := fnFaultsRow, standIns := [], harness := (true, "1f54207e01dd30c8355ef7b84748b97812893aadfc7b01de948ac43e2da837ab"), looks := false }, kinds := [], alts := [], laidByText := true, laidKinds := [.data, .data], laidTests := true, laidLooks := .later }
def FnFaultsCardSaid : Prop := Claim7.holds Tryz.pinned (.plain (OpenSpec.ofChange fnFaultsSpec)) fnFaultsCard

/-- THE TIED CARD OF 'laws.FnRectangles'. -/
def fnRectanglesCard : Claim7 := { stood := { row := fnRectanglesRow, standIns := [], harness := (true, "1f54207e01dd30c8355ef7b84748b97812893aadfc7b01de948ac43e2da837ab"), looks := false }, kinds := [], alts := [], laidByText := true, laidKinds := [.data, .data], laidTests := true, laidLooks := .later }
def FnRectanglesCardSaid : Prop := Claim7.holds Tryz.pinned (.plain (OpenSpec.ofChange fnRectanglesSpec)) fnRectanglesCard

/-- THE TIED CARD OF 'laws.FnToruses'. -/
def fnTorusesCard : Claim7 := { stood := { row := fnTorusesRow, standIns := [], harness := (true, "1f54207e01dd30c8355ef7b84748b97812893aadfc7b01de948ac43e2da837ab"), looks := false }, kinds := [], alts := [], laidByText := true, laidKinds := [.data, .data], laidTests := true, laidLooks := .later }
def FnTorusesCardSaid : Prop := Claim7.holds Tryz.pinned (.plain (OpenSpec.ofChange fnTorusesSpec)) fnTorusesCard

/-- THE SECOND FORM's CARD OF 'laws.FnFaults'. -/
def fnFaultsUptoCard : Claim7 := { stood := { row := fnFaultsUptoRow, standIns := [], harness := (true, "1f54207e01dd30c8355ef7b84748b97812893aadfc7b01de948ac43e2da837ab"), looks := false }, kinds := [], alts := [], laidByText := true, laidKinds := [.data, .data], laidTests := true, laidLooks := .later }
def FnFaultsUptoCardSaid : Prop := Claim7.holds Tryz.pinned (.plain (OpenSpec.upto fnFaultsSpec)) fnFaultsUptoCard

/-- THE SECOND FORM's CARD OF 'laws.FnRectangles'. -/
def fnRectanglesUptoCard : Claim7 := { stood := { row := fnRectanglesUptoRow, standIns := [], harness := (true, "1f54207e01dd30c8355ef7b84748b97812893aadfc7b01de948ac43e2da837ab"), looks := false }, kinds := [], alts := [], laidByText := true, laidKinds := [.data, .data], laidTests := true, laidLooks := .later }
def FnRectanglesUptoCardSaid : Prop := Claim7.holds Tryz.pinned (.plain (OpenSpec.upto fnRectanglesSpec)) fnRectanglesUptoCard

/-- THE SECOND FORM's CARD OF 'laws.FnToruses'. -/
def fnTorusesUptoCard : Claim7 := { stood := { row := fnTorusesUptoRow, standIns := [], harness := (true, "1f54207e01dd30c8355ef7b84748b97812893aadfc7b01de948ac43e2da837ab"), looks := false }, kinds := [], alts := [], laidByText := true, laidKinds := [.data, .data], laidTests := true, laidLooks := .later }
def FnTorusesUptoCardSaid : Prop := Claim7.holds Tryz.pinned (.plain (OpenSpec.upto fnTorusesSpec)) fnTorusesUptoCard
end Rows
end Go.Proofs.YtajmdgcnnipdoaaGreatDoor
