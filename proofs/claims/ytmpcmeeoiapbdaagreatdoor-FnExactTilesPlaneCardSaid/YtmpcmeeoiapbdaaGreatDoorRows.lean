/-
  NARROWER THAN 'FOR EVERY INPUT', by the rows' own cells (each row's printed sentence says how): FnExactCountTorusTilings: laid · FnExactTilesPlane: laid · FnExactFindTorusTiling: laid · FnExactTilesRectangle: laid · FnExactIsRepTile: laid · FnExactLeastRep: laid · FnExactRepTiling: laid · FnExactSmallestRectangle: laid · FnExactRectangleOrder: laid.
  DERIVED. THE GIVEN ROWS OF THIS SEAT. 9 by the template 'for every input the law returns true; each argument reads behind the call as it read before'; 0 by the template 'total and deterministic' (their statements: YtmpcmeeoiapbdaaGreatDoorTotals.lean).
  GIVEN WITH THE SEED: the statements are not yours to turn. If you find one false, say at which input.
  Laid BY PROGRAM, IN A SANDBOX (cutbox-rows.mjs): the forced cells as the released guide's own fill.sh prints them over the translation 4d1a2c80687c51e5… (all of the seat's roots in one cut). By AI agents, Wed Nov 11 2026. No macro, syntax, notation, axiom, sorry.
-/
import Derived.Test.YtmpcmeeoiapbdaaGreatDoorChecked
import GoSem.Claim
import GoSem.ClaimJoined
import GoSem.ClaimMapViews
import Derived.JoinedTies
import Derived.KernelRfl
namespace Go.Proofs.YtmpcmeeoiapbdaaGreatDoor
/- THE CELL 'sum', in the pinned program and in every row, IS THE sha256 OF THE DUMP (.gsa) THAT YtmpcmeeoiapbdaaGreatDoorProg.lean LOADS. Nothing in Lean hashes anything: it is a label: what it is worth is what the hold of that sum in a sandbox is worth. -/
noncomputable def Tryz.pinned : Pinned := { name := "ytmpcmeeoiapbdaagreatdoor", sum := "4d1a2c80687c51e5f7ee6753aaf2d66079fafb40e219764496330757a1d722a4", checked := Tryz.checked }
namespace Rows
def none {H : Type} : Left H := { results := [], args := [] }

/- WHAT THE LISTED PACKAGE-LEVEL VARIABLES READ AS WHEN THE CALL BEGINS. Each datum BY PROGRAM (the guide's laid-datum.mjs) off the statement by which the dump's own 'gosem.cut.vars' lays the variable. In a bare row this is a premise. The card (YtmpcmeeoiapbdaaGreatDoorCards.lean) ties it to the program's text. -/
def laid_math_bits_deBruijn32tab {H : Type} : DataW H := .agg [.lit (.int .u8 0), .lit (.int .u8 1), .lit (.int .u8 28), .lit (.int .u8 2), .lit (.int .u8 29), .lit (.int .u8 14), .lit (.int .u8 24), .lit (.int .u8 3), .lit (.int .u8 30), .lit (.int .u8 22), .lit (.int .u8 20), .lit (.int .u8 15), .lit (.int .u8 25), .lit (.int .u8 17), .lit (.int .u8 4), .lit (.int .u8 8), .lit (.int .u8 31), .lit (.int .u8 27), .lit (.int .u8 13), .lit (.int .u8 23), .lit (.int .u8 21), .lit (.int .u8 19), .lit (.int .u8 16), .lit (.int .u8 7), .lit (.int .u8 26), .lit (.int .u8 12), .lit (.int .u8 18), .lit (.int .u8 6), .lit (.int .u8 11), .lit (.int .u8 5), .lit (.int .u8 10), .lit (.int .u8 9)]
def laid_math_bits_deBruijn64tab {H : Type} : DataW H := .agg [.lit (.int .u8 0), .lit (.int .u8 1), .lit (.int .u8 56), .lit (.int .u8 2), .lit (.int .u8 57), .lit (.int .u8 49), .lit (.int .u8 28), .lit (.int .u8 3), .lit (.int .u8 61), .lit (.int .u8 58), .lit (.int .u8 42), .lit (.int .u8 50), .lit (.int .u8 38), .lit (.int .u8 29), .lit (.int .u8 17), .lit (.int .u8 4), .lit (.int .u8 62), .lit (.int .u8 47), .lit (.int .u8 59), .lit (.int .u8 36), .lit (.int .u8 45), .lit (.int .u8 43), .lit (.int .u8 51), .lit (.int .u8 22), .lit (.int .u8 53), .lit (.int .u8 39), .lit (.int .u8 33), .lit (.int .u8 30), .lit (.int .u8 24), .lit (.int .u8 18), .lit (.int .u8 12), .lit (.int .u8 5), .lit (.int .u8 63), .lit (.int .u8 55), .lit (.int .u8 48), .lit (.int .u8 27), .lit (.int .u8 60), .lit (.int .u8 41), .lit (.int .u8 37), .lit (.int .u8 16), .lit (.int .u8 46), .lit (.int .u8 35), .lit (.int .u8 44), .lit (.int .u8 21), .lit (.int .u8 52), .lit (.int .u8 32), .lit (.int .u8 23), .lit (.int .u8 11), .lit (.int .u8 54), .lit (.int .u8 26), .lit (.int .u8 40), .lit (.int .u8 15), .lit (.int .u8 34), .lit (.int .u8 20), .lit (.int .u8 31), .lit (.int .u8 10), .lit (.int .u8 25), .lit (.int .u8 14), .lit (.int .u8 19), .lit (.int .u8 9), .lit (.int .u8 13), .lit (.int .u8 8), .lit (.int .u8 7), .lit (.int .u8 6)]

/-- 'laws.FnExactCountTorusTilings': WHATEVER THE INPUT: true; the input reads as it did. -/
def fnExactCountTorusTilingsSpec : ChangeSpec := { name := "fnExactCountTorusTilings", fn := fun _ => fun
  | [d1, d2, d3] => { results := [.lit (.bool true)], args := [d1, d2, d3] }
  | _ => none }
def fnExactCountTorusTilingsRow : OpenClaim := { program := "ytmpcmeeoiapbdaagreatdoor", sum := "4d1a2c80687c51e5f7ee6753aaf2d66079fafb40e219764496330757a1d722a4", func := "loop.example/g03400/laws.FnExactCountTorusTilings", spec := "fnExactCountTorusTilings", inPlace := ["internal/reflectlite.ValueOf", "internal/reflectlite.Swapper", "(internal/reflectlite.Value).Len"], unfollowed := true, recurses := true, named := ["math/bits.deBruijn32tab", "math/bits.deBruijn64tab"], apart := false, laid := [("math/bits.deBruijn32tab", laid_math_bits_deBruijn32tab), ("math/bits.deBruijn64tab", laid_math_bits_deBruijn64tab)] }
def FnExactCountTorusTilingsSaid : Prop := fnExactCountTorusTilingsRow.holds Tryz.pinned (OpenSpec.ofChange fnExactCountTorusTilingsSpec)

/-- ITS FALSE NEIGHBOUR: 'it returns false'. Refute it at one input. -/
def fnExactCountTorusTilingsWrong : ChangeSpec := { name := "fnExactCountTorusTilings", fn := fun _ => fun
  | [d1, d2, d3] => { results := [.lit (.bool false)], args := [d1, d2, d3] }
  | _ => none }
def FnExactCountTorusTilingsWrongFalsely : Prop := fnExactCountTorusTilingsRow.holds Tryz.pinned (OpenSpec.ofChange fnExactCountTorusTilingsWrong)

/-- 'laws.FnExactTilesPlane': WHATEVER THE INPUT: true; the input reads as it did. -/
def fnExactTilesPlaneSpec : ChangeSpec := { name := "fnExactTilesPlane", fn := fun _ => fun
  | [d] => { results := [.lit (.bool true)], args := [d] }
  | _ => none }
def fnExactTilesPlaneRow : OpenClaim := { program := "ytmpcmeeoiapbdaagreatdoor", sum := "4d1a2c80687c51e5f7ee6753aaf2d66079fafb40e219764496330757a1d722a4", func := "loop.example/g03400/laws.FnExactTilesPlane", spec := "fnExactTilesPlane", inPlace := ["internal/reflectlite.ValueOf", "internal/reflectlite.Swapper", "(internal/reflectlite.Value).Len"], unfollowed := true, recurses := true, named := ["math/bits.deBruijn32tab", "math/bits.deBruijn64tab"], apart := false, laid := [("math/bits.deBruijn32tab", laid_math_bits_deBruijn32tab), ("math/bits.deBruijn64tab", laid_math_bits_deBruijn64tab)] }
def FnExactTilesPlaneSaid : Prop := fnExactTilesPlaneRow.holds Tryz.pinned (OpenSpec.ofChange fnExactTilesPlaneSpec)

/-- ITS FALSE NEIGHBOUR: 'it returns false'. Refute it at one input. -/
def fnExactTilesPlaneWrong : ChangeSpec := { name := "fnExactTilesPlane", fn := fun _ => fun
  | [d] => { results := [.lit (.bool false)], args := [d] }
  | _ => none }
def FnExactTilesPlaneWrongFalsely : Prop := fnExactTilesPlaneRow.holds Tryz.pinned (OpenSpec.ofChange fnExactTilesPlaneWrong)

/-- 'laws.FnExactFindTorusTiling': WHATEVER THE INPUT: true; the input reads as it did. -/
def fnExactFindTorusTilingSpec : ChangeSpec := { name := "fnExactFindTorusTiling", fn := fun _ => fun
  | [d1, d2, d3] => { results := [.lit (.bool true)], args := [d1, d2, d3] }
  | _ => none }
def fnExactFindTorusTilingRow : OpenClaim := { program := "ytmpcmeeoiapbdaagreatdoor", sum := "4d1a2c80687c51e5f7ee6753aaf2d66079fafb40e219764496330757a1d722a4", func := "loop.example/g03400/laws.FnExactFindTorusTiling", spec := "fnExactFindTorusTiling", inPlace := ["internal/reflectlite.ValueOf", "internal/reflectlite.Swapper", "(internal/reflectlite.Value).Len"], unfollowed := true, recurses := true, named := ["math/bits.deBruijn32tab", "math/bits.deBruijn64tab"], apart := false, laid := [("math/bits.deBruijn32tab", laid_math_bits_deBruijn32tab), ("math/bits.deBruijn64tab", laid_math_bits_deBruijn64tab)] }
def FnExactFindTorusTilingSaid : Prop := fnExactFindTorusTilingRow.holds Tryz.pinned (OpenSpec.ofChange fnExactFindTorusTilingSpec)

/-- ITS FALSE NEIGHBOUR: 'it returns false'. Refute it at one input. -/
def fnExactFindTorusTilingWrong : ChangeSpec := { name := "fnExactFindTorusTiling", fn := fun _ => fun
  | [d1, d2, d3] => { results := [.lit (.bool false)], args := [d1, d2, d3] }
  | _ => none }
def FnExactFindTorusTilingWrongFalsely : Prop := fnExactFindTorusTilingRow.holds Tryz.pinned (OpenSpec.ofChange fnExactFindTorusTilingWrong)

/-- 'laws.FnExactTilesRectangle': WHATEVER THE INPUT: true; the input reads as it did. -/
def fnExactTilesRectangleSpec : ChangeSpec := { name := "fnExactTilesRectangle", fn := fun _ => fun
  | [d1, d2, d3] => { results := [.lit (.bool true)], args := [d1, d2, d3] }
  | _ => none }
def fnExactTilesRectangleRow : OpenClaim := { program := "ytmpcmeeoiapbdaagreatdoor", sum := "4d1a2c80687c51e5f7ee6753aaf2d66079fafb40e219764496330757a1d722a4", func := "loop.example/g03400/laws.FnExactTilesRectangle", spec := "fnExactTilesRectangle", inPlace := ["internal/reflectlite.ValueOf", "internal/reflectlite.Swapper", "(internal/reflectlite.Value).Len"], unfollowed := true, recurses := true, named := ["math/bits.deBruijn32tab", "math/bits.deBruijn64tab"], apart := false, laid := [("math/bits.deBruijn32tab", laid_math_bits_deBruijn32tab), ("math/bits.deBruijn64tab", laid_math_bits_deBruijn64tab)] }
def FnExactTilesRectangleSaid : Prop := fnExactTilesRectangleRow.holds Tryz.pinned (OpenSpec.ofChange fnExactTilesRectangleSpec)

/-- ITS FALSE NEIGHBOUR: 'it returns false'. Refute it at one input. -/
def fnExactTilesRectangleWrong : ChangeSpec := { name := "fnExactTilesRectangle", fn := fun _ => fun
  | [d1, d2, d3] => { results := [.lit (.bool false)], args := [d1, d2, d3] }
  | _ => none }
def FnExactTilesRectangleWrongFalsely : Prop := fnExactTilesRectangleRow.holds Tryz.pinned (OpenSpec.ofChange fnExactTilesRectangleWrong)

/-- 'laws.FnExactIsRepTile': WHATEVER THE INPUT: true; the input reads as it did. -/
def fnExactIsRepTileSpec : ChangeSpec := { name := "fnExactIsRepTile", fn := fun _ => fun
  | [d1, d2] => { results := [.lit (.bool true)], args := [d1, d2] }
  | _ => none }
def fnExactIsRepTileRow : OpenClaim := { program := "ytmpcmeeoiapbdaagreatdoor", sum := "4d1a2c80687c51e5f7ee6753aaf2d66079fafb40e219764496330757a1d722a4", func := "loop.example/g03400/laws.FnExactIsRepTile", spec := "fnExactIsRepTile", inPlace := ["internal/reflectlite.ValueOf", "internal/reflectlite.Swapper", "(internal/reflectlite.Value).Len"], unfollowed := true, recurses := true, named := ["math/bits.deBruijn32tab", "math/bits.deBruijn64tab"], apart := false, laid := [("math/bits.deBruijn32tab", laid_math_bits_deBruijn32tab), ("math/bits.deBruijn64tab", laid_math_bits_deBruijn64tab)] }
def FnExactIsRepTileSaid : Prop := fnExactIsRepTileRow.holds Tryz.pinned (OpenSpec.ofChange fnExactIsRepTileSpec)

/-- ITS FALSE NEIGHBOUR: 'it returns false'. Refute it at one input. -/
def fnExactIsRepTileWrong : ChangeSpec := { name := "fnExactIsRepTile", fn := fun _ => fun
  | [d1, d2] => { results := [.lit (.bool false)], args := [d1, d2] }
  | _ => none }
def FnExactIsRepTileWrongFalsely : Prop := fnExactIsRepTileRow.holds Tryz.pinned (OpenSpec.ofChange fnExactIsRepTileWrong)

/-- 'laws.FnExactLeastRep': WHATEVER THE INPUT: true; the input reads as it did. -/
def fnExactLeastRepSpec : ChangeSpec := { name := "fnExactLeastRep", fn := fun _ => fun
  | [d] => { results := [.lit (.bool true)], args := [d] }
  | _ => none }
def fnExactLeastRepRow : OpenClaim := { program := "ytmpcmeeoiapbdaagreatdoor", sum := "4d1a2c80687c51e5f7ee6753aaf2d66079fafb40e219764496330757a1d722a4", func := "loop.example/g03400/laws.FnExactLeastRep", spec := "fnExactLeastRep", inPlace := ["internal/reflectlite.ValueOf", "internal/reflectlite.Swapper", "(internal/reflectlite.Value).Len"], unfollowed := true, recurses := true, named := ["math/bits.deBruijn32tab", "math/bits.deBruijn64tab"], apart := false, laid := [("math/bits.deBruijn32tab", laid_math_bits_deBruijn32tab), ("math/bits.deBruijn64tab", laid_math_bits_deBruijn64tab)] }
def FnExactLeastRepSaid : Prop := fnExactLeastRepRow.holds Tryz.pinned (OpenSpec.ofChange fnExactLeastRepSpec)

/-- ITS FALSE NEIGHBOUR: 'it returns false'. Refute it at one input. -/
def fnExactLeastRepWrong : ChangeSpec := { name := "fnExactLeastRep", fn := fun _ => fun
  | [d] => { results := [.lit (.bool false)], args := [d] }
  | _ => none }
def FnExactLeastRepWrongFalsely : Prop := fnExactLeastRepRow.holds Tryz.pinned (OpenSpec.ofChange fnExactLeastRepWrong)

/-- 'laws.FnExactRepTiling': WHATEVER THE INPUT: true; the input reads as it did. -/
def fnExactRepTilingSpec : ChangeSpec := { name := "fnExactRepTiling", fn := fun _ => fun
  | [d1, d2] => { results := [.lit (.bool true)], args := [d1, d2] }
  | _ => none }
def fnExactRepTilingRow : OpenClaim := { program := "ytmpcmeeoiapbdaagreatdoor", sum := "4d1a2c80687c51e5f7ee6753aaf2d66079fafb40e219764496330757a1d722a4", func := "loop.example/g03400/laws.FnExactRepTiling", spec := "fnExactRepTiling", inPlace := ["internal/reflectlite.ValueOf", "internal/reflectlite.Swapper", "(internal/reflectlite.Value).Len"], unfollowed := true, recurses := true, named := ["math/bits.deBruijn32tab", "math/bits.deBruijn64tab"], apart := false, laid := [("math/bits.deBruijn32tab", laid_math_bits_deBruijn32tab), ("math/bits.deBruijn64tab", laid_math_bits_deBruijn64tab)] }
def FnExactRepTilingSaid : Prop := fnExactRepTilingRow.holds Tryz.pinned (OpenSpec.ofChange fnExactRepTilingSpec)

/-- ITS FALSE NEIGHBOUR: 'it returns false'. Refute it at one input. -/
def fnExactRepTilingWrong : ChangeSpec := { name := "fnExactRepTiling", fn := fun _ => fun
  | [d1, d2] => { results := [.lit (.bool false)], args := [d1, d2] }
  | _ => none }
def FnExactRepTilingWrongFalsely : Prop := fnExactRepTilingRow.holds Tryz.pinned (OpenSpec.ofChange fnExactRepTilingWrong)

/-- 'laws.FnExactSmallestRectangle': WHATEVER THE INPUT: true; the input reads as it did. -/
def fnExactSmallestRectangleSpec : ChangeSpec := { name := "fnExactSmallestRectangle", fn := fun _ => fun
  | [d] => { results := [.lit (.bool true)], args := [d] }
  | _ => none }
def fnExactSmallestRectangleRow : OpenClaim := { program := "ytmpcmeeoiapbdaagreatdoor", sum := "4d1a2c80687c51e5f7ee6753aaf2d66079fafb40e219764496330757a1d722a4", func := "loop.example/g03400/laws.FnExactSmallestRectangle", spec := "fnExactSmallestRectangle", inPlace := ["internal/reflectlite.ValueOf", "internal/reflectlite.Swapper", "(internal/reflectlite.Value).Len"], unfollowed := true, recurses := true, named := ["math/bits.deBruijn32tab", "math/bits.deBruijn64tab"], apart := false, laid := [("math/bits.deBruijn32tab", laid_math_bits_deBruijn32tab), ("math/bits.deBruijn64tab", laid_math_bits_deBruijn64tab)] }
def FnExactSmallestRectangleSaid : Prop := fnExactSmallestRectangleRow.holds Tryz.pinned (OpenSpec.ofChange fnExactSmallestRectangleSpec)

/-- ITS FALSE NEIGHBOUR: 'it returns false'. Refute it at one input. -/
def fnExactSmallestRectangleWrong : ChangeSpec := { name := "fnExactSmallestRectangle", fn := fun _ => fun
  | [d] => { results := [.lit (.bool false)], args := [d] }
  | _ => none }
def FnExactSmallestRectangleWrongFalsely : Prop := fnExactSmallestRectangleRow.holds Tryz.pinned (OpenSpec.ofChange fnExactSmallestRectangleWrong)

/-- 'laws.FnExactRectangleOrder': WHATEVER THE INPUT: true; the input reads as it did. -/
def fnExactRectangleOrderSpec : ChangeSpec := { name := "fnExactRectangleOrder", fn := fun _ => fun
  | [d] => { results := [.lit (.bool true)], args := [d] }
  | _ => none }
def fnExactRectangleOrderRow : OpenClaim := { program := "ytmpcmeeoiapbdaagreatdoor", sum := "4d1a2c80687c51e5f7ee6753aaf2d66079fafb40e219764496330757a1d722a4", func := "loop.example/g03400/laws.FnExactRectangleOrder", spec := "fnExactRectangleOrder", inPlace := ["internal/reflectlite.ValueOf", "internal/reflectlite.Swapper", "(internal/reflectlite.Value).Len"], unfollowed := true, recurses := true, named := ["math/bits.deBruijn32tab", "math/bits.deBruijn64tab"], apart := false, laid := [("math/bits.deBruijn32tab", laid_math_bits_deBruijn32tab), ("math/bits.deBruijn64tab", laid_math_bits_deBruijn64tab)] }
def FnExactRectangleOrderSaid : Prop := fnExactRectangleOrderRow.holds Tryz.pinned (OpenSpec.ofChange fnExactRectangleOrderSpec)

/-- ITS FALSE NEIGHBOUR: 'it returns false'. Refute it at one input. -/
def fnExactRectangleOrderWrong : ChangeSpec := { name := "fnExactRectangleOrder", fn := fun _ => fun
  | [d] => { results := [.lit (.bool false)], args := [d] }
  | _ => none }
def FnExactRectangleOrderWrongFalsely : Prop := fnExactRectangleOrderRow.holds Tryz.pinned (OpenSpec.ofChange fnExactRectangleOrderWrong)

/- THE SECOND FORM. 'bulk': how many values and letters a reading holds, each counted each time it is reached (what is shared counts as often as it is met; a slice's spare places count too). A statement '..UptoSaid' is the law's where the arguments, and the package variables that the reading takes, are together of bulk at most 1048576: NARROWER than '..Said'. Prove '..Said' where nothing that the law and all that it calls make is longer than what came in: it says more and counts as full. Else prove '..UptoSaid'. A law counts once. -/
mutual
def uptoBulk {H : Type} : DataW H → Nat
  | .lit (.string bytes) => bytes.length + 1
  | .lit _ => 1
  | .nil => 1
  | .ptr d => uptoBulk d + 1
  | .slice elems spare => uptoBulkAll elems + uptoBulkAll spare + 1
  | .agg parts => uptoBulkAll parts + 1
  | .iface _ d => uptoBulk d + 1
  | .map entries => uptoBulkEntries entries + 1
  | .held _ => 1
def uptoBulkAll {H : Type} : List (DataW H) → Nat
  | [] => 0
  | d :: r => uptoBulk d + uptoBulkAll r
def uptoBulkEntries {H : Type} : List (Lit × DataW H) → Nat
  | [] => 0
  | x :: r => uptoBulkEntry x + uptoBulkEntries r
def uptoBulkEntry {H : Type} : Lit × DataW H → Nat
  | (.string bytes, d) => bytes.length + uptoBulk d + 1
  | (_, d) => uptoBulk d + 1
 end
def uptoSmall : (H : Type) → List (DataW H) → Bool := fun _ ds => decide (uptoBulkAll ds ≤ 1048576)
def OpenSpec.upto (s : _root_.Go.ChangeSpec) : _root_.Go.OpenSpec := { _root_.Go.OpenSpec.ofChange s with cond := some uptoSmall }

/-- 'laws.FnExactCountTorusTilings', WHERE WHAT IT READS IS OF BULK AT MOST 1048576: true; the input reads as it did. -/
def fnExactCountTorusTilingsUptoRow : OpenClaim := { program := "ytmpcmeeoiapbdaagreatdoor", sum := "4d1a2c80687c51e5f7ee6753aaf2d66079fafb40e219764496330757a1d722a4", func := "loop.example/g03400/laws.FnExactCountTorusTilings", spec := "fnExactCountTorusTilings", inPlace := ["internal/reflectlite.ValueOf", "internal/reflectlite.Swapper", "(internal/reflectlite.Value).Len"], unfollowed := true, recurses := true, named := ["math/bits.deBruijn32tab", "math/bits.deBruijn64tab"], apart := false, laid := [("math/bits.deBruijn32tab", laid_math_bits_deBruijn32tab), ("math/bits.deBruijn64tab", laid_math_bits_deBruijn64tab)], narrowed := true }
def FnExactCountTorusTilingsUptoSaid : Prop := fnExactCountTorusTilingsUptoRow.holds Tryz.pinned (OpenSpec.upto fnExactCountTorusTilingsSpec)

/-- 'laws.FnExactTilesPlane', WHERE WHAT IT READS IS OF BULK AT MOST 1048576: true; the input reads as it did. -/
def fnExactTilesPlaneUptoRow : OpenClaim := { program := "ytmpcmeeoiapbdaagreatdoor", sum := "4d1a2c80687c51e5f7ee6753aaf2d66079fafb40e219764496330757a1d722a4", func := "loop.example/g03400/laws.FnExactTilesPlane", spec := "fnExactTilesPlane", inPlace := ["internal/reflectlite.ValueOf", "internal/reflectlite.Swapper", "(internal/reflectlite.Value).Len"], unfollowed := true, recurses := true, named := ["math/bits.deBruijn32tab", "math/bits.deBruijn64tab"], apart := false, laid := [("math/bits.deBruijn32tab", laid_math_bits_deBruijn32tab), ("math/bits.deBruijn64tab", laid_math_bits_deBruijn64tab)], narrowed := true }
def FnExactTilesPlaneUptoSaid : Prop := fnExactTilesPlaneUptoRow.holds Tryz.pinned (OpenSpec.upto fnExactTilesPlaneSpec)

/-- 'laws.FnExactFindTorusTiling', WHERE WHAT IT READS IS OF BULK AT MOST 1048576: true; the input reads as it did. -/
def fnExactFindTorusTilingUptoRow : OpenClaim := { program := "ytmpcmeeoiapbdaagreatdoor", sum := "4d1a2c80687c51e5f7ee6753aaf2d66079fafb40e219764496330757a1d722a4", func := "loop.example/g03400/laws.FnExactFindTorusTiling", spec := "fnExactFindTorusTiling", inPlace := ["internal/reflectlite.ValueOf", "internal/reflectlite.Swapper", "(internal/reflectlite.Value).Len"], unfollowed := true, recurses := true, named := ["math/bits.deBruijn32tab", "math/bits.deBruijn64tab"], apart := false, laid := [("math/bits.deBruijn32tab", laid_math_bits_deBruijn32tab), ("math/bits.deBruijn64tab", laid_math_bits_deBruijn64tab)], narrowed := true }
def FnExactFindTorusTilingUptoSaid : Prop := fnExactFindTorusTilingUptoRow.holds Tryz.pinned (OpenSpec.upto fnExactFindTorusTilingSpec)

/-- 'laws.FnExactTilesRectangle', WHERE WHAT IT READS IS OF BULK AT MOST 1048576: true; the input reads as it did. -/
def fnExactTilesRectangleUptoRow : OpenClaim := { program := "ytmpcmeeoiapbdaagreatdoor", sum := "4d1a2c80687c51e5f7ee6753aaf2d66079fafb40e219764496330757a1d722a4", func := "loop.example/g03400/laws.FnExactTilesRectangle", spec := "fnExactTilesRectangle", inPlace := ["internal/reflectlite.ValueOf", "internal/reflectlite.Swapper", "(internal/reflectlite.Value).Len"], unfollowed := true, recurses := true, named := ["math/bits.deBruijn32tab", "math/bits.deBruijn64tab"], apart := false, laid := [("math/bits.deBruijn32tab", laid_math_bits_deBruijn32tab), ("math/bits.deBruijn64tab", laid_math_bits_deBruijn64tab)], narrowed := true }
def FnExactTilesRectangleUptoSaid : Prop := fnExactTilesRectangleUptoRow.holds Tryz.pinned (OpenSpec.upto fnExactTilesRectangleSpec)

/-- 'laws.FnExactIsRepTile', WHERE WHAT IT READS IS OF BULK AT MOST 1048576: true; the input reads as it did. -/
def fnExactIsRepTileUptoRow : OpenClaim := { program := "ytmpcmeeoiapbdaagreatdoor", sum := "4d1a2c80687c51e5f7ee6753aaf2d66079fafb40e219764496330757a1d722a4", func := "loop.example/g03400/laws.FnExactIsRepTile", spec := "fnExactIsRepTile", inPlace := ["internal/reflectlite.ValueOf", "internal/reflectlite.Swapper", "(internal/reflectlite.Value).Len"], unfollowed := true, recurses := true, named := ["math/bits.deBruijn32tab", "math/bits.deBruijn64tab"], apart := false, laid := [("math/bits.deBruijn32tab", laid_math_bits_deBruijn32tab), ("math/bits.deBruijn64tab", laid_math_bits_deBruijn64tab)], narrowed := true }
def FnExactIsRepTileUptoSaid : Prop := fnExactIsRepTileUptoRow.holds Tryz.pinned (OpenSpec.upto fnExactIsRepTileSpec)

/-- 'laws.FnExactLeastRep', WHERE WHAT IT READS IS OF BULK AT MOST 1048576: true; the input reads as it did. -/
def fnExactLeastRepUptoRow : OpenClaim := { program := "ytmpcmeeoiapbdaagreatdoor", sum := "4d1a2c80687c51e5f7ee6753aaf2d66079fafb40e219764496330757a1d722a4", func := "loop.example/g03400/laws.FnExactLeastRep", spec := "fnExactLeastRep", inPlace := ["internal/reflectlite.ValueOf", "internal/reflectlite.Swapper", "(internal/reflectlite.Value).Len"], unfollowed := true, recurses := true, named := ["math/bits.deBruijn32tab", "math/bits.deBruijn64tab"], apart := false, laid := [("math/bits.deBruijn32tab", laid_math_bits_deBruijn32tab), ("math/bits.deBruijn64tab", laid_math_bits_deBruijn64tab)], narrowed := true }
def FnExactLeastRepUptoSaid : Prop := fnExactLeastRepUptoRow.holds Tryz.pinned (OpenSpec.upto fnExactLeastRepSpec)

/-- 'laws.FnExactRepTiling', WHERE WHAT IT READS IS OF BULK AT MOST 1048576: true; the input reads as it did. -/
def fnExactRepTilingUptoRow : OpenClaim := { program := "ytmpcmeeoiapbdaagreatdoor", sum := "4d1a2c80687c51e5f7ee6753aaf2d66079fafb40e219764496330757a1d722a4", func := "loop.example/g03400/laws.FnExactRepTiling", spec := "fnExactRepTiling", inPlace := ["internal/reflectlite.ValueOf", "internal/reflectlite.Swapper", "(internal/reflectlite.Value).Len"], unfollowed := true, recurses := true, named := ["math/bits.deBruijn32tab", "math/bits.deBruijn64tab"], apart := false, laid := [("math/bits.deBruijn32tab", laid_math_bits_deBruijn32tab), ("math/bits.deBruijn64tab", laid_math_bits_deBruijn64tab)], narrowed := true }
def FnExactRepTilingUptoSaid : Prop := fnExactRepTilingUptoRow.holds Tryz.pinned (OpenSpec.upto fnExactRepTilingSpec)

/-- 'laws.FnExactSmallestRectangle', WHERE WHAT IT READS IS OF BULK AT MOST 1048576: true; the input reads as it did. -/
def fnExactSmallestRectangleUptoRow : OpenClaim := { program := "ytmpcmeeoiapbdaagreatdoor", sum := "4d1a2c80687c51e5f7ee6753aaf2d66079fafb40e219764496330757a1d722a4", func := "loop.example/g03400/laws.FnExactSmallestRectangle", spec := "fnExactSmallestRectangle", inPlace := ["internal/reflectlite.ValueOf", "internal/reflectlite.Swapper", "(internal/reflectlite.Value).Len"], unfollowed := true, recurses := true, named := ["math/bits.deBruijn32tab", "math/bits.deBruijn64tab"], apart := false, laid := [("math/bits.deBruijn32tab", laid_math_bits_deBruijn32tab), ("math/bits.deBruijn64tab", laid_math_bits_deBruijn64tab)], narrowed := true }
def FnExactSmallestRectangleUptoSaid : Prop := fnExactSmallestRectangleUptoRow.holds Tryz.pinned (OpenSpec.upto fnExactSmallestRectangleSpec)

/-- 'laws.FnExactRectangleOrder', WHERE WHAT IT READS IS OF BULK AT MOST 1048576: true; the input reads as it did. -/
def fnExactRectangleOrderUptoRow : OpenClaim := { program := "ytmpcmeeoiapbdaagreatdoor", sum := "4d1a2c80687c51e5f7ee6753aaf2d66079fafb40e219764496330757a1d722a4", func := "loop.example/g03400/laws.FnExactRectangleOrder", spec := "fnExactRectangleOrder", inPlace := ["internal/reflectlite.ValueOf", "internal/reflectlite.Swapper", "(internal/reflectlite.Value).Len"], unfollowed := true, recurses := true, named := ["math/bits.deBruijn32tab", "math/bits.deBruijn64tab"], apart := false, laid := [("math/bits.deBruijn32tab", laid_math_bits_deBruijn32tab), ("math/bits.deBruijn64tab", laid_math_bits_deBruijn64tab)], narrowed := true }
def FnExactRectangleOrderUptoSaid : Prop := fnExactRectangleOrderUptoRow.holds Tryz.pinned (OpenSpec.upto fnExactRectangleOrderSpec)

end Rows
end Go.Proofs.YtmpcmeeoiapbdaaGreatDoor
