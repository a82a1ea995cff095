/-
  No cell of these rows narrows 'for every input' (looked for: loops, veiled, ifaces, maps, wideKeys, modest, calm, conditions, laid).
  DERIVED. THE GIVEN ROWS OF THIS SEAT. 6 by the template 'for every input the law returns true; each argument reads behind the call as it read before'; 0 by the template 'total and deterministic' (their statements: YtnldmigofmedkaaTotals.lean).
  GIVEN WITH THE SEED: the statements are not yours to turn. If you find one false, say at which input.
  Laid BY PROGRAM, IN A SANDBOX (cutbox-rows.mjs): the forced cells as the released guide's own fill.sh prints them over the translation 50dc0ccd62b94644… (all of the seat's roots in one cut). By AI agents, Wed Nov 11 2026. No macro, syntax, notation, axiom, sorry.
-/
import Derived.Test.YtnldmigofmedkaaChecked
import GoSem.Claim
import GoSem.ClaimJoined
import GoSem.ClaimMapViews
import Derived.JoinedTies
import Derived.KernelRfl
namespace Go.Proofs.Ytnldmigofmedkaa
/- THE CELL 'sum', in the pinned program and in every row, IS THE sha256 OF THE DUMP (.gsa) THAT YtnldmigofmedkaaProg.lean LOADS. Nothing in Lean hashes anything: it is a label: what it is worth is what the hold of that sum in a sandbox is worth. -/
noncomputable def Try.pinned : Pinned := { name := "ytnldmigofmedkaa", sum := "50dc0ccd62b94644d6ece21402cadf50144da1d56453b367ee787a3158e183cc", checked := Try.checked }
namespace Rows
def none {H : Type} : Left H := { results := [], args := [] }

/-- 'laws.FnExactRowGraph': WHATEVER THE INPUT: true; the input reads as it did. -/
def fnExactRowGraphSpec : ChangeSpec := { name := "fnExactRowGraph", fn := fun _ => fun
  | [d1, d2] => { results := [.lit (.bool true)], args := [d1, d2] }
  | _ => none }
def fnExactRowGraphRow : OpenClaim := { program := "ytnldmigofmedkaa", sum := "50dc0ccd62b94644d6ece21402cadf50144da1d56453b367ee787a3158e183cc", func := "loop.example/g03400/laws.FnExactRowGraph", spec := "fnExactRowGraph", unfollowed := true, recurses := true, apart := false }
def FnExactRowGraphSaid : Prop := fnExactRowGraphRow.holds Try.pinned (OpenSpec.ofChange fnExactRowGraphSpec)

/-- ITS FALSE NEIGHBOUR: 'it returns false'. Refute it at one input. -/
def fnExactRowGraphWrong : ChangeSpec := { name := "fnExactRowGraph", fn := fun _ => fun
  | [d1, d2] => { results := [.lit (.bool false)], args := [d1, d2] }
  | _ => none }
def FnExactRowGraphWrongFalsely : Prop := fnExactRowGraphRow.holds Try.pinned (OpenSpec.ofChange fnExactRowGraphWrong)

/-- 'laws.FnExactCylinderPlacements': WHATEVER THE INPUT: true; the input reads as it did. -/
def fnExactCylinderPlacementsSpec : ChangeSpec := { name := "fnExactCylinderPlacements", fn := fun _ => fun
  | [d1, d2] => { results := [.lit (.bool true)], args := [d1, d2] }
  | _ => none }
def fnExactCylinderPlacementsRow : OpenClaim := { program := "ytnldmigofmedkaa", sum := "50dc0ccd62b94644d6ece21402cadf50144da1d56453b367ee787a3158e183cc", func := "loop.example/g03400/laws.FnExactCylinderPlacements", spec := "fnExactCylinderPlacements", recurses := true, apart := false }
def FnExactCylinderPlacementsSaid : Prop := fnExactCylinderPlacementsRow.holds Try.pinned (OpenSpec.ofChange fnExactCylinderPlacementsSpec)

/-- ITS FALSE NEIGHBOUR: 'it returns false'. Refute it at one input. -/
def fnExactCylinderPlacementsWrong : ChangeSpec := { name := "fnExactCylinderPlacements", fn := fun _ => fun
  | [d1, d2] => { results := [.lit (.bool false)], args := [d1, d2] }
  | _ => none }
def FnExactCylinderPlacementsWrongFalsely : Prop := fnExactCylinderPlacementsRow.holds Try.pinned (OpenSpec.ofChange fnExactCylinderPlacementsWrong)

/-- 'laws.FnExactCrossingsOf': WHATEVER THE INPUT: true; the input reads as it did. -/
def fnExactCrossingsOfSpec : ChangeSpec := { name := "fnExactCrossingsOf", fn := fun _ => fun
  | [d1, d2] => { results := [.lit (.bool true)], args := [d1, d2] }
  | _ => none }
def fnExactCrossingsOfRow : OpenClaim := { program := "ytnldmigofmedkaa", sum := "50dc0ccd62b94644d6ece21402cadf50144da1d56453b367ee787a3158e183cc", func := "loop.example/g03400/laws.FnExactCrossingsOf", spec := "fnExactCrossingsOf", apart := false }
def FnExactCrossingsOfSaid : Prop := fnExactCrossingsOfRow.holds Try.pinned (OpenSpec.ofChange fnExactCrossingsOfSpec)

/-- ITS FALSE NEIGHBOUR: 'it returns false'. Refute it at one input. -/
def fnExactCrossingsOfWrong : ChangeSpec := { name := "fnExactCrossingsOf", fn := fun _ => fun
  | [d1, d2] => { results := [.lit (.bool false)], args := [d1, d2] }
  | _ => none }
def FnExactCrossingsOfWrongFalsely : Prop := fnExactCrossingsOfRow.holds Try.pinned (OpenSpec.ofChange fnExactCrossingsOfWrong)

/-- 'laws.FnExactFaultLines': WHATEVER THE INPUT: true; the input reads as it did. -/
def fnExactFaultLinesSpec : ChangeSpec := { name := "fnExactFaultLines", fn := fun _ => fun
  | [d1, d2] => { results := [.lit (.bool true)], args := [d1, d2] }
  | _ => none }
def fnExactFaultLinesRow : OpenClaim := { program := "ytnldmigofmedkaa", sum := "50dc0ccd62b94644d6ece21402cadf50144da1d56453b367ee787a3158e183cc", func := "loop.example/g03400/laws.FnExactFaultLines", spec := "fnExactFaultLines", apart := false }
def FnExactFaultLinesSaid : Prop := fnExactFaultLinesRow.holds Try.pinned (OpenSpec.ofChange fnExactFaultLinesSpec)

/-- ITS FALSE NEIGHBOUR: 'it returns false'. Refute it at one input. -/
def fnExactFaultLinesWrong : ChangeSpec := { name := "fnExactFaultLines", fn := fun _ => fun
  | [d1, d2] => { results := [.lit (.bool false)], args := [d1, d2] }
  | _ => none }
def FnExactFaultLinesWrongFalsely : Prop := fnExactFaultLinesRow.holds Try.pinned (OpenSpec.ofChange fnExactFaultLinesWrong)

/-- 'laws.FnExactIsRectangle': WHATEVER THE INPUT: true; the input reads as it did. -/
def fnExactIsRectangleSpec : ChangeSpec := { name := "fnExactIsRectangle", fn := fun _ => fun
  | [d] => { results := [.lit (.bool true)], args := [d] }
  | _ => none }
def fnExactIsRectangleRow : OpenClaim := { program := "ytnldmigofmedkaa", sum := "50dc0ccd62b94644d6ece21402cadf50144da1d56453b367ee787a3158e183cc", func := "loop.example/g03400/laws.FnExactIsRectangle", spec := "fnExactIsRectangle", inPlace := ["internal/reflectlite.ValueOf", "internal/reflectlite.Swapper", "(internal/reflectlite.Value).Len"], unfollowed := true, recurses := true, apart := false }
def FnExactIsRectangleSaid : Prop := fnExactIsRectangleRow.holds Try.pinned (OpenSpec.ofChange fnExactIsRectangleSpec)

/-- ITS FALSE NEIGHBOUR: 'it returns false'. Refute it at one input. -/
def fnExactIsRectangleWrong : ChangeSpec := { name := "fnExactIsRectangle", fn := fun _ => fun
  | [d] => { results := [.lit (.bool false)], args := [d] }
  | _ => none }
def FnExactIsRectangleWrongFalsely : Prop := fnExactIsRectangleRow.holds Try.pinned (OpenSpec.ofChange fnExactIsRectangleWrong)

/-- 'laws.FnExactScaledRegion': WHATEVER THE INPUT: true; the input reads as it did. -/
def fnExactScaledRegionSpec : ChangeSpec := { name := "fnExactScaledRegion", fn := fun _ => fun
  | [d1, d2] => { results := [.lit (.bool true)], args := [d1, d2] }
  | _ => none }
def fnExactScaledRegionRow : OpenClaim := { program := "ytnldmigofmedkaa", sum := "50dc0ccd62b94644d6ece21402cadf50144da1d56453b367ee787a3158e183cc", func := "loop.example/g03400/laws.FnExactScaledRegion", spec := "fnExactScaledRegion", inPlace := ["internal/reflectlite.ValueOf", "internal/reflectlite.Swapper", "(internal/reflectlite.Value).Len"], unfollowed := true, recurses := true, apart := false }
def FnExactScaledRegionSaid : Prop := fnExactScaledRegionRow.holds Try.pinned (OpenSpec.ofChange fnExactScaledRegionSpec)

/-- ITS FALSE NEIGHBOUR: 'it returns false'. Refute it at one input. -/
def fnExactScaledRegionWrong : ChangeSpec := { name := "fnExactScaledRegion", fn := fun _ => fun
  | [d1, d2] => { results := [.lit (.bool false)], args := [d1, d2] }
  | _ => none }
def FnExactScaledRegionWrongFalsely : Prop := fnExactScaledRegionRow.holds Try.pinned (OpenSpec.ofChange fnExactScaledRegionWrong)

/- THE SECOND FORM. 'bulk': how many values and letters a reading holds, each counted each time it is reached (what is shared counts as often as it is met; a slice's spare places count too). A statement '..UptoSaid' is the law's where the arguments, and the package variables that the reading takes, are together of bulk at most 1048576: NARROWER than '..Said'. Prove '..Said' where nothing that the law and all that it calls make is longer than what came in: it says more and counts as full. Else prove '..UptoSaid'. A law counts once. -/
mutual
def uptoBulk {H : Type} : DataW H → Nat
  | .lit (.string bytes) => bytes.length + 1
  | .lit _ => 1
  | .nil => 1
  | .ptr d => uptoBulk d + 1
  | .slice elems spare => uptoBulkAll elems + uptoBulkAll spare + 1
  | .agg parts => uptoBulkAll parts + 1
  | .iface _ d => uptoBulk d + 1
  | .map entries => uptoBulkEntries entries + 1
  | .held _ => 1
def uptoBulkAll {H : Type} : List (DataW H) → Nat
  | [] => 0
  | d :: r => uptoBulk d + uptoBulkAll r
def uptoBulkEntries {H : Type} : List (Lit × DataW H) → Nat
  | [] => 0
  | x :: r => uptoBulkEntry x + uptoBulkEntries r
def uptoBulkEntry {H : Type} : Lit × DataW H → Nat
  | (.string bytes, d) => bytes.length + uptoBulk d + 1
  | (_, d) => uptoBulk d + 1
 end
def uptoSmall : (H : Type) → List (DataW H) → Bool := fun _ ds => decide (uptoBulkAll ds ≤ 1048576)
def OpenSpec.upto (s : _root_.Go.ChangeSpec) : _root_.Go.OpenSpec := { _root_.Go.OpenSpec.ofChange s with cond := some uptoSmall }

/-- 'laws.FnExactRowGraph', WHERE WHAT IT READS IS OF BULK AT MOST 1048576: true; the input reads as it did. -/
def fnExactRowGraphUptoRow : OpenClaim := { program := "ytnldmigofmedkaa", sum := "50dc0ccd62b94644d6ece21402cadf50144da1d56453b367ee787a3158e183cc", func := "loop.example/g03400/laws.FnExactRowGraph", spec := "fnExactRowGraph", unfollowed := true, recurses := true, apart := false, narrowed := true }
def FnExactRowGraphUptoSaid : Prop := fnExactRowGraphUptoRow.holds Try.pinned (OpenSpec.upto fnExactRowGraphSpec)

/-- 'laws.FnExactCylinderPlacements', WHERE WHAT IT READS IS OF BULK AT MOST 1048576: true; the input reads as it did. -/
def fnExactCylinderPlacementsUptoRow : OpenClaim := { program := "ytnldmigofmedkaa", sum := "50dc0ccd62b94644d6ece21402cadf50144da1d56453b367ee787a3158e183cc", func := "loop.example/g03400/laws.FnExactCylinderPlacements", spec := "fnExactCylinderPlacements", recurses := true, apart := false, narrowed := true }
def FnExactCylinderPlacementsUptoSaid : Prop := fnExactCylinderPlacementsUptoRow.holds Try.pinned (OpenSpec.upto fnExactCylinderPlacementsSpec)

/-- 'laws.FnExactCrossingsOf', WHERE WHAT IT READS IS OF BULK AT MOST 1048576: true; the input reads as it did. -/
def fnExactCrossingsOfUptoRow : OpenClaim := { program := "ytnldmigofmedkaa", sum := "50dc0ccd62b94644d6ece21402cadf50144da1d56453b367ee787a3158e183cc", func := "loop.example/g03400/laws.FnExactCrossingsOf", spec := "fnExactCrossingsOf", apart := false, narrowed := true }
def FnExactCrossingsOfUptoSaid : Prop := fnExactCrossingsOfUptoRow.holds Try.pinned (OpenSpec.upto fnExactCrossingsOfSpec)

/-- 'laws.FnExactFaultLines', WHERE WHAT IT READS IS OF BULK AT MOST 1048576: true; the input reads as it did. -/
def fnExactFaultLinesUptoRow : OpenClaim := { program := "ytnldmigofmedkaa", sum := "50dc0ccd62b94644d6ece21402cadf50144da1d56453b367ee787a3158e183cc", func := "loop.example/g03400/laws.FnExactFaultLines", spec := "fnExactFaultLines", apart := false, narrowed := true }
def FnExactFaultLinesUptoSaid : Prop := fnExactFaultLinesUptoRow.holds Try.pinned (OpenSpec.upto fnExactFaultLinesSpec)

/-- 'laws.FnExactIsRectangle', WHERE WHAT IT READS IS OF BULK AT MOST 1048576: true; the input reads as it did. -/
def fnExactIsRectangleUptoRow : OpenClaim := { program := "ytnldmigofmedkaa", sum := "50dc0ccd62b94644d6ece21402cadf50144da1d56453b367ee787a3158e183cc", func := "loop.example/g03400/laws.FnExactIsRectangle", spec := "fnExactIsRectangle", inPlace := ["internal/reflectlite.ValueOf", "internal/reflectlite.Swapper", "(internal/reflectlite.Value).Len"], unfollowed := true, recurses := true, apart := false, narrowed := true }
def FnExactIsRectangleUptoSaid : Prop := fnExactIsRectangleUptoRow.holds Try.pinned (OpenSpec.upto fnExactIsRectangleSpec)

/-- 'laws.FnExactScaledRegion', WHERE WHAT IT READS IS OF BULK AT MOST 1048576: true; the input reads as it did. -/
def fnExactScaledRegionUptoRow : OpenClaim := { program := "ytnldmigofmedkaa", sum := "50dc0ccd62b94644d6ece21402cadf50144da1d56453b367ee787a3158e183cc", func := "loop.example/g03400/laws.FnExactScaledRegion", spec := "fnExactScaledRegion", inPlace := ["internal/reflectlite.ValueOf", "internal/reflectlite.Swapper", "(internal/reflectlite.Value).Len"], unfollowed := true, recurses := true, apart := false, narrowed := true }
def FnExactScaledRegionUptoSaid : Prop := fnExactScaledRegionUptoRow.holds Try.pinned (OpenSpec.upto fnExactScaledRegionSpec)

end Rows
end Go.Proofs.Ytnldmigofmedkaa
