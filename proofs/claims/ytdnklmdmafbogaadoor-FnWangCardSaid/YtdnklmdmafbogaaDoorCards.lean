/-
  DERIVED. GIVEN WITH THE SEED: THE CARDS: each row of YtdnklmdmafbogaaDoorRows.lean that lists a variable, with what it lists TIED to the program's text (the seventh form; the later family's looks); each row that meets fmt, with fmt's text TOLD by the authors' own Lean function (tested against real Go, not proved from fmt's source: count such statements apart). THE CARD IS WHAT COUNTS. Prove the row's statement (the work); the ties are given (YtdnklmdmafbogaaDoorTie.lean); close each card by the builder's one call (the guide's Derived/Test/ToyasCard.lean, 'card_holds'). Laid BY PROGRAM, IN A SANDBOX (cutbox-door.mjs). By AI agents, Wed Nov 11 2026. No macro, syntax, notation, axiom, sorry.
-/
import Derived.Test.YtdnklmdmafbogaaDoorRows
import GoSem.ClaimSeven
namespace Go.Proofs.YtdnklmdmafbogaaDoor
namespace Rows

/-- THE TIED CARD OF 'laws.FnExactFormatWang'. -/
def fnExactFormatWangCard : Claim7 := { stood := { row := fnExactFormatWangRow, standIns := [], harness := (true, "4819d24e09a884b5f2ccb9661a81f42dec9b3b02da50283e748b7986a53aa823"), looks := false }, kinds := [], alts := [], laidByText := true, laidKinds := [.data, .data, .data], laidTests := true, laidLooks := .later }
def FnExactFormatWangCardSaid : Prop := Claim7.holds Tryd.pinned (.plain (OpenSpec.ofChange fnExactFormatWangSpec)) fnExactFormatWangCard

/-- THE TIED CARD OF 'laws.FnExactParseWang'. -/
def fnExactParseWangCard : Claim7 := { stood := { row := fnExactParseWangRow, standIns := [], harness := (true, "4819d24e09a884b5f2ccb9661a81f42dec9b3b02da50283e748b7986a53aa823"), looks := false }, kinds := [], alts := [], laidByText := true, laidKinds := [.data, .pinned], laidTests := true, laidLooks := .later }
def FnExactParseWangCardSaid : Prop := Claim7.holds Tryd.pinned (.plain (OpenSpec.ofChange fnExactParseWangSpec)) fnExactParseWangCard

/-- THE TIED CARD OF 'laws.FnExactWangVerdict'. -/
def fnExactWangVerdictCard : Claim7 := { stood := { row := fnExactWangVerdictRow, standIns := [], harness := (true, "4819d24e09a884b5f2ccb9661a81f42dec9b3b02da50283e748b7986a53aa823"), looks := false }, kinds := [], alts := [], laidByText := true, laidKinds := [.data, .data, .data], laidTests := true, laidLooks := .later }
def FnExactWangVerdictCardSaid : Prop := Claim7.holds Tryd.pinned (.plain (OpenSpec.ofChange fnExactWangVerdictSpec)) fnExactWangVerdictCard

/-- THE TIED CARD OF 'laws.FnWang'. -/
def fnWangCard : Claim7 := { stood := { row := fnWangRow, standIns := [], harness := (true, "4819d24e09a884b5f2ccb9661a81f42dec9b3b02da50283e748b7986a53aa823"), looks := false }, kinds := [], alts := [], laidByText := true, laidKinds := [.data, .data, .data, .data, .pinned], laidTests := true, laidLooks := .later }
def FnWangCardSaid : Prop := Claim7.holds Tryd.pinned (.plain (OpenSpec.ofChange fnWangSpec)) fnWangCard

/-- THE TIED CARD OF 'laws.FnPeriods'. -/
def fnPeriodsCard : Claim7 := { stood := { row := fnPeriodsRow, standIns := [], harness := (true, "4819d24e09a884b5f2ccb9661a81f42dec9b3b02da50283e748b7986a53aa823"), looks := false }, kinds := [], alts := [], laidByText := true, laidKinds := [.data, .data, .data], laidTests := true, laidLooks := .later }
def FnPeriodsCardSaid : Prop := Claim7.holds Tryd.pinned (.plain (OpenSpec.ofChange fnPeriodsSpec)) fnPeriodsCard

/-- THE SECOND FORM's CARD OF 'laws.FnExactFormatWang'. -/
def fnExactFormatWangUptoCard : Claim7 := { stood := { row := fnExactFormatWangUptoRow, standIns := [], harness := (true, "4819d24e09a884b5f2ccb9661a81f42dec9b3b02da50283e748b7986a53aa823"), looks := false }, kinds := [], alts := [], laidByText := true, laidKinds := [.data, .data, .data], laidTests := true, laidLooks := .later }
def FnExactFormatWangUptoCardSaid : Prop := Claim7.holds Tryd.pinned (.plain (OpenSpec.upto fnExactFormatWangSpec)) fnExactFormatWangUptoCard

/-- THE SECOND FORM's CARD OF 'laws.FnExactParseWang'. -/
def fnExactParseWangUptoCard : Claim7 := { stood := { row := fnExactParseWangUptoRow, standIns := [], harness := (true, "4819d24e09a884b5f2ccb9661a81f42dec9b3b02da50283e748b7986a53aa823"), looks := false }, kinds := [], alts := [], laidByText := true, laidKinds := [.data, .pinned], laidTests := true, laidLooks := .later }
def FnExactParseWangUptoCardSaid : Prop := Claim7.holds Tryd.pinned (.plain (OpenSpec.upto fnExactParseWangSpec)) fnExactParseWangUptoCard

/-- THE SECOND FORM's CARD OF 'laws.FnExactWangVerdict'. -/
def fnExactWangVerdictUptoCard : Claim7 := { stood := { row := fnExactWangVerdictUptoRow, standIns := [], harness := (true, "4819d24e09a884b5f2ccb9661a81f42dec9b3b02da50283e748b7986a53aa823"), looks := false }, kinds := [], alts := [], laidByText := true, laidKinds := [.data, .data, .data], laidTests := true, laidLooks := .later }
def FnExactWangVerdictUptoCardSaid : Prop := Claim7.holds Tryd.pinned (.plain (OpenSpec.upto fnExactWangVerdictSpec)) fnExactWangVerdictUptoCard

/-- THE SECOND FORM's CARD OF 'laws.FnWang'. -/
def fnWangUptoCard : Claim7 := { stood := { row := fnWangUptoRow, standIns := [], harness := (true, "4819d24e09a884b5f2ccb9661a81f42dec9b3b02da50283e748b7986a53aa823"), looks := false }, kinds := [], alts := [], laidByText := true, laidKinds := [.data, .data, .data, .data, .pinned], laidTests := true, laidLooks := .later }
def FnWangUptoCardSaid : Prop := Claim7.holds Tryd.pinned (.plain (OpenSpec.upto fnWangSpec)) fnWangUptoCard

/-- THE SECOND FORM's CARD OF 'laws.FnPeriods'. -/
def fnPeriodsUptoCard : Claim7 := { stood := { row := fnPeriodsUptoRow, standIns := [], harness := (true, "4819d24e09a884b5f2ccb9661a81f42dec9b3b02da50283e748b7986a53aa823"), looks := false }, kinds := [], alts := [], laidByText := true, laidKinds := [.data, .data, .data], laidTests := true, laidLooks := .later }
def FnPeriodsUptoCardSaid : Prop := Claim7.holds Tryd.pinned (.plain (OpenSpec.upto fnPeriodsSpec)) fnPeriodsUptoCard
end Rows
end Go.Proofs.YtdnklmdmafbogaaDoor
