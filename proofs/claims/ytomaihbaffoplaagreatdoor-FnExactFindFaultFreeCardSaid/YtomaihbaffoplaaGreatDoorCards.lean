/-
  DERIVED. GIVEN WITH THE SEED: THE CARDS: each row of YtomaihbaffoplaaGreatDoorRows.lean that lists a variable, with what it lists TIED to the program's text (the seventh form; the later family's looks); each row that meets fmt, with fmt's text TOLD by the authors' own Lean function (tested against real Go, not proved from fmt's source: count such statements apart). THE CARD IS WHAT COUNTS. Prove the row's statement (the work); the ties are given (YtomaihbaffoplaaGreatDoorTie.lean); close each card by the builder's one call (the guide's Derived/Test/ToyasCard.lean, 'card_holds'). Laid BY PROGRAM, IN A SANDBOX (cutbox-door.mjs). By AI agents, Wed Nov 11 2026. No macro, syntax, notation, axiom, sorry.
-/
import Derived.Test.YtomaihbaffoplaaGreatDoorRows
import GoSem.ClaimSeven
namespace Go.Proofs.YtomaihbaffoplaaGreatDoor
namespace Rows

/-- THE TIED CARD OF 'laws.FnExactIsFaultFree'. -/
def fnExactIsFaultFreeCard : Claim7 := { stood := { row := fnExactIsFaultFreeRow, standIns := [], harness := (true, "bf69c2ccbc204cd3ba110354508ee266a14c7a4d7d76ffc9b768566fcdb362cd"), looks := false }, kinds := [], alts := [], laidByText := true, laidKinds := [.data, .data], laidTests := true, laidLooks := .later }
def FnExactIsFaultFreeCardSaid : Prop := Claim7.holds Tryz.pinned (.plain (OpenSpec.ofChange fnExactIsFaultFreeSpec)) fnExactIsFaultFreeCard

/-- THE TIED CARD OF 'laws.FnExactCountFaultFree'. -/
def fnExactCountFaultFreeCard : Claim7 := { stood := { row := fnExactCountFaultFreeRow, standIns := [], harness := (true, "bf69c2ccbc204cd3ba110354508ee266a14c7a4d7d76ffc9b768566fcdb362cd"), looks := false }, kinds := [], alts := [], laidByText := true, laidKinds := [.data, .data], laidTests := true, laidLooks := .later }
def FnExactCountFaultFreeCardSaid : Prop := Claim7.holds Tryz.pinned (.plain (OpenSpec.ofChange fnExactCountFaultFreeSpec)) fnExactCountFaultFreeCard

/-- THE TIED CARD OF 'laws.FnExactFindFaultFree'. -/
def fnExactFindFaultFreeCard : Claim7 := { stood := { row := fnExactFindFaultFreeRow, standIns := [], harness := (true, "bf69c2ccbc204cd3ba110354508ee266a14c7a4d7d76ffc9b768566fcdb362cd"), looks := false }, kinds := [], alts := [], laidByText := true, laidKinds := [.data, .data], laidTests := true, laidLooks := .later }
def FnExactFindFaultFreeCardSaid : Prop := Claim7.holds Tryz.pinned (.plain (OpenSpec.ofChange fnExactFindFaultFreeSpec)) fnExactFindFaultFreeCard

/-- THE SECOND FORM's CARD OF 'laws.FnExactIsFaultFree'. -/
def fnExactIsFaultFreeUptoCard : Claim7 := { stood := { row := fnExactIsFaultFreeUptoRow, standIns := [], harness := (true, "bf69c2ccbc204cd3ba110354508ee266a14c7a4d7d76ffc9b768566fcdb362cd"), looks := false }, kinds := [], alts := [], laidByText := true, laidKinds := [.data, .data], laidTests := true, laidLooks := .later }
def FnExactIsFaultFreeUptoCardSaid : Prop := Claim7.holds Tryz.pinned (.plain (OpenSpec.upto fnExactIsFaultFreeSpec)) fnExactIsFaultFreeUptoCard

/-- THE SECOND FORM's CARD OF 'laws.FnExactCountFaultFree'. -/
def fnExactCountFaultFreeUptoCard : Claim7 := { stood := { row := fnExactCountFaultFreeUptoRow, standIns := [], harness := (true, "bf69c2ccbc204cd3ba110354508ee266a14c7a4d7d76ffc9b768566fcdb362cd"), looks := false }, kinds := [], alts := [], laidByText := true, laidKinds := [.data, .data], laidTests := true, laidLooks := .later }
def FnExactCountFaultFreeUptoCardSaid : Prop := Claim7.holds Tryz.pinned (.plain (OpenSpec.upto fnExactCountFaultFreeSpec)) fnExactCountFaultFreeUptoCard

/-- THE SECOND FORM's CARD OF 'laws.FnExactFindFaultFree'. -/
def fnExactFindFaultFreeUptoCard : Claim7 := { stood := { row := fnExactFindFaultFreeUptoRow, standIns := [], harness := (true, "bf69c2ccbc204cd3ba110354508ee266a14c7a4d7d76ffc9b768566fcdb362cd"), looks := false }, kinds := [], alts := [], laidByText := true, laidKinds := [.data, .data], laidTests := true, laidLooks := .later }
def FnExactFindFaultFreeUptoCardSaid : Prop := Claim7.holds Tryz.pinned (.plain (OpenSpec.upto fnExactFindFaultFreeSpec)) fnExactFindFaultFreeUptoCard
end Rows
end Go.Proofs.YtomaihbaffoplaaGreatDoor
