/-
  No cell of these rows narrows 'for every input' (looked for: loops, veiled, ifaces, maps, wideKeys, modest, calm, conditions, laid).
  DERIVED. THE GIVEN ROWS OF THIS SEAT. 11 by the template 'for every input the law returns true; each argument reads behind the call as it read before'; 0 by the template 'total and deterministic' (their statements: YtbmapeeejfdpbaaTotals.lean).
  GIVEN WITH THE SEED: the statements are not yours to turn. If you find one false, say at which input.
  Laid BY PROGRAM, IN A SANDBOX (cutbox-rows.mjs): the forced cells as the released guide's own fill.sh prints them over the translation 3c2677d199abfe58… (all of the seat's roots in one cut). By AI agents, Wed Nov 11 2026. No macro, syntax, notation, axiom, sorry.
-/
import Derived.Test.YtbmapeeejfdpbaaChecked
import GoSem.Claim
import GoSem.ClaimJoined
import GoSem.ClaimMapViews
import Derived.JoinedTies
import Derived.KernelRfl
namespace Go.Proofs.Ytbmapeeejfdpbaa
/- THE CELL 'sum', in the pinned program and in every row, IS THE sha256 OF THE DUMP (.gsa) THAT YtbmapeeejfdpbaaProg.lean LOADS. Nothing in Lean hashes anything: it is a label: what it is worth is what the hold of that sum in a sandbox is worth. -/
noncomputable def Try.pinned : Pinned := { name := "ytbmapeeejfdpbaa", sum := "3c2677d199abfe580c076f18705906661c74afc9f6af727c5b3dc9d2fbd65959", checked := Try.checked }
namespace Rows
def none {H : Type} : Left H := { results := [], args := [] }

/-- 'laws.FnExactAreWang': WHATEVER THE INPUT: true; the input reads as it did. -/
def fnExactAreWangSpec : ChangeSpec := { name := "fnExactAreWang", fn := fun _ => fun
  | [d] => { results := [.lit (.bool true)], args := [d] }
  | _ => none }
def fnExactAreWangRow : OpenClaim := { program := "ytbmapeeejfdpbaa", sum := "3c2677d199abfe580c076f18705906661c74afc9f6af727c5b3dc9d2fbd65959", func := "loop.example/g03400/laws.FnExactAreWang", spec := "fnExactAreWang", apart := false }
def FnExactAreWangSaid : Prop := fnExactAreWangRow.holds Try.pinned (OpenSpec.ofChange fnExactAreWangSpec)

/-- ITS FALSE NEIGHBOUR: 'it returns false'. Refute it at one input. -/
def fnExactAreWangWrong : ChangeSpec := { name := "fnExactAreWang", fn := fun _ => fun
  | [d] => { results := [.lit (.bool false)], args := [d] }
  | _ => none }
def FnExactAreWangWrongFalsely : Prop := fnExactAreWangRow.holds Try.pinned (OpenSpec.ofChange fnExactAreWangWrong)

/-- 'laws.FnExactTurnWang': WHATEVER THE INPUT: true; the input reads as it did. -/
def fnExactTurnWangSpec : ChangeSpec := { name := "fnExactTurnWang", fn := fun _ => fun
  | [d] => { results := [.lit (.bool true)], args := [d] }
  | _ => none }
def fnExactTurnWangRow : OpenClaim := { program := "ytbmapeeejfdpbaa", sum := "3c2677d199abfe580c076f18705906661c74afc9f6af727c5b3dc9d2fbd65959", func := "loop.example/g03400/laws.FnExactTurnWang", spec := "fnExactTurnWang", apart := false }
def FnExactTurnWangSaid : Prop := fnExactTurnWangRow.holds Try.pinned (OpenSpec.ofChange fnExactTurnWangSpec)

/-- ITS FALSE NEIGHBOUR: 'it returns false'. Refute it at one input. -/
def fnExactTurnWangWrong : ChangeSpec := { name := "fnExactTurnWang", fn := fun _ => fun
  | [d] => { results := [.lit (.bool false)], args := [d] }
  | _ => none }
def FnExactTurnWangWrongFalsely : Prop := fnExactTurnWangRow.holds Try.pinned (OpenSpec.ofChange fnExactTurnWangWrong)

/-- 'laws.FnExactIsWangFill': WHATEVER THE INPUT: true; the input reads as it did. -/
def fnExactIsWangFillSpec : ChangeSpec := { name := "fnExactIsWangFill", fn := fun _ => fun
  | [d1, d2, d3, d4] => { results := [.lit (.bool true)], args := [d1, d2, d3, d4] }
  | _ => none }
def fnExactIsWangFillRow : OpenClaim := { program := "ytbmapeeejfdpbaa", sum := "3c2677d199abfe580c076f18705906661c74afc9f6af727c5b3dc9d2fbd65959", func := "loop.example/g03400/laws.FnExactIsWangFill", spec := "fnExactIsWangFill", apart := false }
def FnExactIsWangFillSaid : Prop := fnExactIsWangFillRow.holds Try.pinned (OpenSpec.ofChange fnExactIsWangFillSpec)

/-- ITS FALSE NEIGHBOUR: 'it returns false'. Refute it at one input. -/
def fnExactIsWangFillWrong : ChangeSpec := { name := "fnExactIsWangFill", fn := fun _ => fun
  | [d1, d2, d3, d4] => { results := [.lit (.bool false)], args := [d1, d2, d3, d4] }
  | _ => none }
def FnExactIsWangFillWrongFalsely : Prop := fnExactIsWangFillRow.holds Try.pinned (OpenSpec.ofChange fnExactIsWangFillWrong)

/-- 'laws.FnExactCountWangFills': WHATEVER THE INPUT: true; the input reads as it did. -/
def fnExactCountWangFillsSpec : ChangeSpec := { name := "fnExactCountWangFills", fn := fun _ => fun
  | [d1, d2, d3] => { results := [.lit (.bool true)], args := [d1, d2, d3] }
  | _ => none }
def fnExactCountWangFillsRow : OpenClaim := { program := "ytbmapeeejfdpbaa", sum := "3c2677d199abfe580c076f18705906661c74afc9f6af727c5b3dc9d2fbd65959", func := "loop.example/g03400/laws.FnExactCountWangFills", spec := "fnExactCountWangFills", unfollowed := true, recurses := true, apart := false }
def FnExactCountWangFillsSaid : Prop := fnExactCountWangFillsRow.holds Try.pinned (OpenSpec.ofChange fnExactCountWangFillsSpec)

/-- ITS FALSE NEIGHBOUR: 'it returns false'. Refute it at one input. -/
def fnExactCountWangFillsWrong : ChangeSpec := { name := "fnExactCountWangFills", fn := fun _ => fun
  | [d1, d2, d3] => { results := [.lit (.bool false)], args := [d1, d2, d3] }
  | _ => none }
def FnExactCountWangFillsWrongFalsely : Prop := fnExactCountWangFillsRow.holds Try.pinned (OpenSpec.ofChange fnExactCountWangFillsWrong)

/-- 'laws.FnExactLargestSquare': WHATEVER THE INPUT: true; the input reads as it did. -/
def fnExactLargestSquareSpec : ChangeSpec := { name := "fnExactLargestSquare", fn := fun _ => fun
  | [d] => { results := [.lit (.bool true)], args := [d] }
  | _ => none }
def fnExactLargestSquareRow : OpenClaim := { program := "ytbmapeeejfdpbaa", sum := "3c2677d199abfe580c076f18705906661c74afc9f6af727c5b3dc9d2fbd65959", func := "loop.example/g03400/laws.FnExactLargestSquare", spec := "fnExactLargestSquare", unfollowed := true, recurses := true, apart := false }
def FnExactLargestSquareSaid : Prop := fnExactLargestSquareRow.holds Try.pinned (OpenSpec.ofChange fnExactLargestSquareSpec)

/-- ITS FALSE NEIGHBOUR: 'it returns false'. Refute it at one input. -/
def fnExactLargestSquareWrong : ChangeSpec := { name := "fnExactLargestSquare", fn := fun _ => fun
  | [d] => { results := [.lit (.bool false)], args := [d] }
  | _ => none }
def FnExactLargestSquareWrongFalsely : Prop := fnExactLargestSquareRow.holds Try.pinned (OpenSpec.ofChange fnExactLargestSquareWrong)

/-- 'laws.FnExactIsPeriodicFill': WHATEVER THE INPUT: true; the input reads as it did. -/
def fnExactIsPeriodicFillSpec : ChangeSpec := { name := "fnExactIsPeriodicFill", fn := fun _ => fun
  | [d1, d2, d3, d4] => { results := [.lit (.bool true)], args := [d1, d2, d3, d4] }
  | _ => none }
def fnExactIsPeriodicFillRow : OpenClaim := { program := "ytbmapeeejfdpbaa", sum := "3c2677d199abfe580c076f18705906661c74afc9f6af727c5b3dc9d2fbd65959", func := "loop.example/g03400/laws.FnExactIsPeriodicFill", spec := "fnExactIsPeriodicFill", apart := false }
def FnExactIsPeriodicFillSaid : Prop := fnExactIsPeriodicFillRow.holds Try.pinned (OpenSpec.ofChange fnExactIsPeriodicFillSpec)

/-- ITS FALSE NEIGHBOUR: 'it returns false'. Refute it at one input. -/
def fnExactIsPeriodicFillWrong : ChangeSpec := { name := "fnExactIsPeriodicFill", fn := fun _ => fun
  | [d1, d2, d3, d4] => { results := [.lit (.bool false)], args := [d1, d2, d3, d4] }
  | _ => none }
def FnExactIsPeriodicFillWrongFalsely : Prop := fnExactIsPeriodicFillRow.holds Try.pinned (OpenSpec.ofChange fnExactIsPeriodicFillWrong)

/-- 'laws.FnExactUsefulWang': WHATEVER THE INPUT: true; the input reads as it did. -/
def fnExactUsefulWangSpec : ChangeSpec := { name := "fnExactUsefulWang", fn := fun _ => fun
  | [d] => { results := [.lit (.bool true)], args := [d] }
  | _ => none }
def fnExactUsefulWangRow : OpenClaim := { program := "ytbmapeeejfdpbaa", sum := "3c2677d199abfe580c076f18705906661c74afc9f6af727c5b3dc9d2fbd65959", func := "loop.example/g03400/laws.FnExactUsefulWang", spec := "fnExactUsefulWang", apart := false }
def FnExactUsefulWangSaid : Prop := fnExactUsefulWangRow.holds Try.pinned (OpenSpec.ofChange fnExactUsefulWangSpec)

/-- ITS FALSE NEIGHBOUR: 'it returns false'. Refute it at one input. -/
def fnExactUsefulWangWrong : ChangeSpec := { name := "fnExactUsefulWang", fn := fun _ => fun
  | [d] => { results := [.lit (.bool false)], args := [d] }
  | _ => none }
def FnExactUsefulWangWrongFalsely : Prop := fnExactUsefulWangRow.holds Try.pinned (OpenSpec.ofChange fnExactUsefulWangWrong)

/-- 'laws.FnExactFindWangFill': WHATEVER THE INPUT: true; the input reads as it did. -/
def fnExactFindWangFillSpec : ChangeSpec := { name := "fnExactFindWangFill", fn := fun _ => fun
  | [d1, d2, d3] => { results := [.lit (.bool true)], args := [d1, d2, d3] }
  | _ => none }
def fnExactFindWangFillRow : OpenClaim := { program := "ytbmapeeejfdpbaa", sum := "3c2677d199abfe580c076f18705906661c74afc9f6af727c5b3dc9d2fbd65959", func := "loop.example/g03400/laws.FnExactFindWangFill", spec := "fnExactFindWangFill", unfollowed := true, recurses := true, apart := false }
def FnExactFindWangFillSaid : Prop := fnExactFindWangFillRow.holds Try.pinned (OpenSpec.ofChange fnExactFindWangFillSpec)

/-- ITS FALSE NEIGHBOUR: 'it returns false'. Refute it at one input. -/
def fnExactFindWangFillWrong : ChangeSpec := { name := "fnExactFindWangFill", fn := fun _ => fun
  | [d1, d2, d3] => { results := [.lit (.bool false)], args := [d1, d2, d3] }
  | _ => none }
def FnExactFindWangFillWrongFalsely : Prop := fnExactFindWangFillRow.holds Try.pinned (OpenSpec.ofChange fnExactFindWangFillWrong)

/-- 'laws.FnExactExpandFill': WHATEVER THE INPUT: true; the input reads as it did. -/
def fnExactExpandFillSpec : ChangeSpec := { name := "fnExactExpandFill", fn := fun _ => fun
  | [d1, d2, d3, d4, d5] => { results := [.lit (.bool true)], args := [d1, d2, d3, d4, d5] }
  | _ => none }
def fnExactExpandFillRow : OpenClaim := { program := "ytbmapeeejfdpbaa", sum := "3c2677d199abfe580c076f18705906661c74afc9f6af727c5b3dc9d2fbd65959", func := "loop.example/g03400/laws.FnExactExpandFill", spec := "fnExactExpandFill", apart := false }
def FnExactExpandFillSaid : Prop := fnExactExpandFillRow.holds Try.pinned (OpenSpec.ofChange fnExactExpandFillSpec)

/-- ITS FALSE NEIGHBOUR: 'it returns false'. Refute it at one input. -/
def fnExactExpandFillWrong : ChangeSpec := { name := "fnExactExpandFill", fn := fun _ => fun
  | [d1, d2, d3, d4, d5] => { results := [.lit (.bool false)], args := [d1, d2, d3, d4, d5] }
  | _ => none }
def FnExactExpandFillWrongFalsely : Prop := fnExactExpandFillRow.holds Try.pinned (OpenSpec.ofChange fnExactExpandFillWrong)

/-- 'laws.FnExactFindPeriod': WHATEVER THE INPUT: true; the input reads as it did. -/
def fnExactFindPeriodSpec : ChangeSpec := { name := "fnExactFindPeriod", fn := fun _ => fun
  | [d] => { results := [.lit (.bool true)], args := [d] }
  | _ => none }
def fnExactFindPeriodRow : OpenClaim := { program := "ytbmapeeejfdpbaa", sum := "3c2677d199abfe580c076f18705906661c74afc9f6af727c5b3dc9d2fbd65959", func := "loop.example/g03400/laws.FnExactFindPeriod", spec := "fnExactFindPeriod", unfollowed := true, recurses := true, apart := false }
def FnExactFindPeriodSaid : Prop := fnExactFindPeriodRow.holds Try.pinned (OpenSpec.ofChange fnExactFindPeriodSpec)

/-- ITS FALSE NEIGHBOUR: 'it returns false'. Refute it at one input. -/
def fnExactFindPeriodWrong : ChangeSpec := { name := "fnExactFindPeriod", fn := fun _ => fun
  | [d] => { results := [.lit (.bool false)], args := [d] }
  | _ => none }
def FnExactFindPeriodWrongFalsely : Prop := fnExactFindPeriodRow.holds Try.pinned (OpenSpec.ofChange fnExactFindPeriodWrong)

/-- 'laws.FnExactRowGraph': WHATEVER THE INPUT: true; the input reads as it did. -/
def fnExactRowGraphSpec : ChangeSpec := { name := "fnExactRowGraph", fn := fun _ => fun
  | [d1, d2] => { results := [.lit (.bool true)], args := [d1, d2] }
  | _ => none }
def fnExactRowGraphRow : OpenClaim := { program := "ytbmapeeejfdpbaa", sum := "3c2677d199abfe580c076f18705906661c74afc9f6af727c5b3dc9d2fbd65959", func := "loop.example/g03400/laws.FnExactRowGraph", spec := "fnExactRowGraph", unfollowed := true, recurses := true, apart := false }
def FnExactRowGraphSaid : Prop := fnExactRowGraphRow.holds Try.pinned (OpenSpec.ofChange fnExactRowGraphSpec)

/-- ITS FALSE NEIGHBOUR: 'it returns false'. Refute it at one input. -/
def fnExactRowGraphWrong : ChangeSpec := { name := "fnExactRowGraph", fn := fun _ => fun
  | [d1, d2] => { results := [.lit (.bool false)], args := [d1, d2] }
  | _ => none }
def FnExactRowGraphWrongFalsely : Prop := fnExactRowGraphRow.holds Try.pinned (OpenSpec.ofChange fnExactRowGraphWrong)

/- THE SECOND FORM. 'bulk': how many values and letters a reading holds, each counted each time it is reached (what is shared counts as often as it is met; a slice's spare places count too). A statement '..UptoSaid' is the law's where the arguments, and the package variables that the reading takes, are together of bulk at most 1048576: NARROWER than '..Said'. Prove '..Said' where nothing that the law and all that it calls make is longer than what came in: it says more and counts as full. Else prove '..UptoSaid'. A law counts once. -/
mutual
def uptoBulk {H : Type} : DataW H → Nat
  | .lit (.string bytes) => bytes.length + 1
  | .lit _ => 1
  | .nil => 1
  | .ptr d => uptoBulk d + 1
  | .slice elems spare => uptoBulkAll elems + uptoBulkAll spare + 1
  | .agg parts => uptoBulkAll parts + 1
  | .iface _ d => uptoBulk d + 1
  | .map entries => uptoBulkEntries entries + 1
  | .held _ => 1
def uptoBulkAll {H : Type} : List (DataW H) → Nat
  | [] => 0
  | d :: r => uptoBulk d + uptoBulkAll r
def uptoBulkEntries {H : Type} : List (Lit × DataW H) → Nat
  | [] => 0
  | x :: r => uptoBulkEntry x + uptoBulkEntries r
def uptoBulkEntry {H : Type} : Lit × DataW H → Nat
  | (.string bytes, d) => bytes.length + uptoBulk d + 1
  | (_, d) => uptoBulk d + 1
 end
def uptoSmall : (H : Type) → List (DataW H) → Bool := fun _ ds => decide (uptoBulkAll ds ≤ 1048576)
def OpenSpec.upto (s : _root_.Go.ChangeSpec) : _root_.Go.OpenSpec := { _root_.Go.OpenSpec.ofChange s with cond := some uptoSmall }

/-- 'laws.FnExactAreWang', WHERE WHAT IT READS IS OF BULK AT MOST 1048576: true; the input reads as it did. -/
def fnExactAreWangUptoRow : OpenClaim := { program := "ytbmapeeejfdpbaa", sum := "3c2677d199abfe580c076f18705906661c74afc9f6af727c5b3dc9d2fbd65959", func := "loop.example/g03400/laws.FnExactAreWang", spec := "fnExactAreWang", apart := false, narrowed := true }
def FnExactAreWangUptoSaid : Prop := fnExactAreWangUptoRow.holds Try.pinned (OpenSpec.upto fnExactAreWangSpec)

/-- 'laws.FnExactTurnWang', WHERE WHAT IT READS IS OF BULK AT MOST 1048576: true; the input reads as it did. -/
def fnExactTurnWangUptoRow : OpenClaim := { program := "ytbmapeeejfdpbaa", sum := "3c2677d199abfe580c076f18705906661c74afc9f6af727c5b3dc9d2fbd65959", func := "loop.example/g03400/laws.FnExactTurnWang", spec := "fnExactTurnWang", apart := false, narrowed := true }
def FnExactTurnWangUptoSaid : Prop := fnExactTurnWangUptoRow.holds Try.pinned (OpenSpec.upto fnExactTurnWangSpec)

/-- 'laws.FnExactIsWangFill', WHERE WHAT IT READS IS OF BULK AT MOST 1048576: true; the input reads as it did. -/
def fnExactIsWangFillUptoRow : OpenClaim := { program := "ytbmapeeejfdpbaa", sum := "3c2677d199abfe580c076f18705906661c74afc9f6af727c5b3dc9d2fbd65959", func := "loop.example/g03400/laws.FnExactIsWangFill", spec := "fnExactIsWangFill", apart := false, narrowed := true }
def FnExactIsWangFillUptoSaid : Prop := fnExactIsWangFillUptoRow.holds Try.pinned (OpenSpec.upto fnExactIsWangFillSpec)

/-- 'laws.FnExactCountWangFills', WHERE WHAT IT READS IS OF BULK AT MOST 1048576: true; the input reads as it did. -/
def fnExactCountWangFillsUptoRow : OpenClaim := { program := "ytbmapeeejfdpbaa", sum := "3c2677d199abfe580c076f18705906661c74afc9f6af727c5b3dc9d2fbd65959", func := "loop.example/g03400/laws.FnExactCountWangFills", spec := "fnExactCountWangFills", unfollowed := true, recurses := true, apart := false, narrowed := true }
def FnExactCountWangFillsUptoSaid : Prop := fnExactCountWangFillsUptoRow.holds Try.pinned (OpenSpec.upto fnExactCountWangFillsSpec)

/-- 'laws.FnExactLargestSquare', WHERE WHAT IT READS IS OF BULK AT MOST 1048576: true; the input reads as it did. -/
def fnExactLargestSquareUptoRow : OpenClaim := { program := "ytbmapeeejfdpbaa", sum := "3c2677d199abfe580c076f18705906661c74afc9f6af727c5b3dc9d2fbd65959", func := "loop.example/g03400/laws.FnExactLargestSquare", spec := "fnExactLargestSquare", unfollowed := true, recurses := true, apart := false, narrowed := true }
def FnExactLargestSquareUptoSaid : Prop := fnExactLargestSquareUptoRow.holds Try.pinned (OpenSpec.upto fnExactLargestSquareSpec)

/-- 'laws.FnExactIsPeriodicFill', WHERE WHAT IT READS IS OF BULK AT MOST 1048576: true; the input reads as it did. -/
def fnExactIsPeriodicFillUptoRow : OpenClaim := { program := "ytbmapeeejfdpbaa", sum := "3c2677d199abfe580c076f18705906661c74afc9f6af727c5b3dc9d2fbd65959", func := "loop.example/g03400/laws.FnExactIsPeriodicFill", spec := "fnExactIsPeriodicFill", apart := false, narrowed := true }
def FnExactIsPeriodicFillUptoSaid : Prop := fnExactIsPeriodicFillUptoRow.holds Try.pinned (OpenSpec.upto fnExactIsPeriodicFillSpec)

/-- 'laws.FnExactUsefulWang', WHERE WHAT IT READS IS OF BULK AT MOST 1048576: true; the input reads as it did. -/
def fnExactUsefulWangUptoRow : OpenClaim := { program := "ytbmapeeejfdpbaa", sum := "3c2677d199abfe580c076f18705906661c74afc9f6af727c5b3dc9d2fbd65959", func := "loop.example/g03400/laws.FnExactUsefulWang", spec := "fnExactUsefulWang", apart := false, narrowed := true }
def FnExactUsefulWangUptoSaid : Prop := fnExactUsefulWangUptoRow.holds Try.pinned (OpenSpec.upto fnExactUsefulWangSpec)

/-- 'laws.FnExactFindWangFill', WHERE WHAT IT READS IS OF BULK AT MOST 1048576: true; the input reads as it did. -/
def fnExactFindWangFillUptoRow : OpenClaim := { program := "ytbmapeeejfdpbaa", sum := "3c2677d199abfe580c076f18705906661c74afc9f6af727c5b3dc9d2fbd65959", func := "loop.example/g03400/laws.FnExactFindWangFill", spec := "fnExactFindWangFill", unfollowed := true, recurses := true, apart := false, narrowed := true }
def FnExactFindWangFillUptoSaid : Prop := fnExactFindWangFillUptoRow.holds Try.pinned (OpenSpec.upto fnExactFindWangFillSpec)

/-- 'laws.FnExactExpandFill', WHERE WHAT IT READS IS OF BULK AT MOST 1048576: true; the input reads as it did. -/
def fnExactExpandFillUptoRow : OpenClaim := { program := "ytbmapeeejfdpbaa", sum := "3c2677d199abfe580c076f18705906661c74afc9f6af727c5b3dc9d2fbd65959", func := "loop.example/g03400/laws.FnExactExpandFill", spec := "fnExactExpandFill", apart := false, narrowed := true }
def FnExactExpandFillUptoSaid : Prop := fnExactExpandFillUptoRow.holds Try.pinned (OpenSpec.upto fnExactExpandFillSpec)

/-- 'laws.FnExactFindPeriod', WHERE WHAT IT READS IS OF BULK AT MOST 1048576: true; the input reads as it did. -/
def fnExactFindPeriodUptoRow : OpenClaim := { program := "ytbmapeeejfdpbaa", sum := "3c2677d199abfe580c076f18705906661c74afc9f6af727c5b3dc9d2fbd65959", func := "loop.example/g03400/laws.FnExactFindPeriod", spec := "fnExactFindPeriod", unfollowed := true, recurses := true, apart := false, narrowed := true }
def FnExactFindPeriodUptoSaid : Prop := fnExactFindPeriodUptoRow.holds Try.pinned (OpenSpec.upto fnExactFindPeriodSpec)

/-- 'laws.FnExactRowGraph', WHERE WHAT IT READS IS OF BULK AT MOST 1048576: true; the input reads as it did. -/
def fnExactRowGraphUptoRow : OpenClaim := { program := "ytbmapeeejfdpbaa", sum := "3c2677d199abfe580c076f18705906661c74afc9f6af727c5b3dc9d2fbd65959", func := "loop.example/g03400/laws.FnExactRowGraph", spec := "fnExactRowGraph", unfollowed := true, recurses := true, apart := false, narrowed := true }
def FnExactRowGraphUptoSaid : Prop := fnExactRowGraphUptoRow.holds Try.pinned (OpenSpec.upto fnExactRowGraphSpec)

end Rows
end Go.Proofs.Ytbmapeeejfdpbaa
