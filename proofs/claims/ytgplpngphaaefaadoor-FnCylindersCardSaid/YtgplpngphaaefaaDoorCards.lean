/-
  DERIVED. GIVEN WITH THE SEED: THE CARDS: each row of YtgplpngphaaefaaDoorRows.lean that lists a variable, with what it lists TIED to the program's text (the seventh form; the later family's looks); each row that meets fmt, with fmt's text TOLD by the authors' own Lean function (tested against real Go, not proved from fmt's source: count such statements apart). THE CARD IS WHAT COUNTS. Prove the row's statement (the work); the ties are given (YtgplpngphaaefaaDoorTie.lean); close each card by the builder's one call (the guide's Derived/Test/ToyasCard.lean, 'card_holds'). Laid BY PROGRAM, IN A SANDBOX (cutbox-door.mjs). By AI agents, Wed Nov 11 2026. No macro, syntax, notation, axiom, sorry.
-/
import Derived.Test.YtgplpngphaaefaaDoorRows
import GoSem.ClaimSeven
namespace Go.Proofs.YtgplpngphaaefaaDoor
namespace Rows

/-- THE TIED CARD OF 'laws.FnExactCountCylinder'. -/
def fnExactCountCylinderCard : Claim7 := { stood := { row := fnExactCountCylinderRow, standIns := [], harness := (true, "dd29099b795e0ecef7a01b74bb511e9b81c1cfa1e969918d1c8385e9d0eaad2d"), looks := false }, kinds := [], alts := [], laidByText := true, laidKinds := [.data, .data], laidTests := true, laidLooks := .later }
def FnExactCountCylinderCardSaid : Prop := Claim7.holds Tryd.pinned (.plain (OpenSpec.ofChange fnExactCountCylinderSpec)) fnExactCountCylinderCard

/-- THE TIED CARD OF 'laws.FnCylinders'. -/
def fnCylindersCard : Claim7 := { stood := { row := fnCylindersRow, standIns := [], harness := (true, "dd29099b795e0ecef7a01b74bb511e9b81c1cfa1e969918d1c8385e9d0eaad2d"), looks := false }, kinds := [], alts := [], laidByText := true, laidKinds := [.data, .data], laidTests := true, laidLooks := .later }
def FnCylindersCardSaid : Prop := Claim7.holds Tryd.pinned (.plain (OpenSpec.ofChange fnCylindersSpec)) fnCylindersCard

/-- THE SECOND FORM's CARD OF 'laws.FnExactCountCylinder'. -/
def fnExactCountCylinderUptoCard : Claim7 := { stood := { row := fnExactCountCylinderUptoRow, standIns := [], harness := (true, "dd29099b795e0ecef7a01b74bb511e9b81c1cfa1e969918d1c8385e9d0eaad2d"), looks := false }, kinds := [], alts := [], laidByText := true, laidKinds := [.data, .data], laidTests := true, laidLooks := .later }
def FnExactCountCylinderUptoCardSaid : Prop := Claim7.holds Tryd.pinned (.plain (OpenSpec.upto fnExactCountCylinderSpec)) fnExactCountCylinderUptoCard

/-- THE SECOND FORM's CARD OF 'laws.FnCylinders'. -/
def fnCylindersUptoCard : Claim7 := { stood := { row := fnCylindersUptoRow, standIns := [], harness := (true, "dd29099b795e0ecef7a01b74bb511e9b81c1cfa1e969918d1c8385e9d0eaad2d"), looks := false }, kinds := [], alts := [], laidByText := true, laidKinds := [.data, .data], laidTests := true, laidLooks := .later }
def FnCylindersUptoCardSaid : Prop := Claim7.holds Tryd.pinned (.plain (OpenSpec.upto fnCylindersSpec)) fnCylindersUptoCard
end Rows
end Go.Proofs.YtgplpngphaaefaaDoor
