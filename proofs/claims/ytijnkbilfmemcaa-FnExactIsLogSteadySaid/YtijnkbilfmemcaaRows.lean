/-
  No cell of these rows narrows 'for every input' (looked for: loops, veiled, ifaces, maps, wideKeys, modest, calm, conditions, laid).
  DERIVED. THE GIVEN ROWS OF THIS SEAT. 6 by the template 'for every input the law returns true; each argument reads behind the call as it read before'; 0 by the template 'total and deterministic' (their statements: YtijnkbilfmemcaaTotals.lean).
  GIVEN WITH THE SEED: the statements are not yours to turn. If you find one false, say at which input.
  Laid BY PROGRAM, IN A SANDBOX (cutbox-rows.mjs): the forced cells as the released guide's own fill.sh prints them over the translation f3f924e1833835b2… (all of the seat's roots in one cut). By AI agents, Wed Nov 11 2026. No macro, syntax, notation, axiom, sorry.
-/
import Derived.Test.YtijnkbilfmemcaaChecked
import GoSem.Claim
import GoSem.ClaimJoined
import GoSem.ClaimMapViews
import Derived.JoinedTies
import Derived.KernelRfl
namespace Go.Proofs.Ytijnkbilfmemcaa
/- THE CELL 'sum', in the pinned program and in every row, IS THE sha256 OF THE DUMP (.gsa) THAT YtijnkbilfmemcaaProg.lean LOADS. Nothing in Lean hashes anything: it is a label: what it is worth is what the hold of that sum in a sandbox is worth. -/
noncomputable def Try.pinned : Pinned := { name := "ytijnkbilfmemcaa", sum := "f3f924e1833835b2ba7546327e5d51c95ccbb149947095587e76f409a4c26f9e", checked := Try.checked }
namespace Rows
def none {H : Type} : Left H := { results := [], args := [] }

/-- 'laws.FnExactShiftMask': WHATEVER THE INPUT: true; the input reads as it did. -/
def fnExactShiftMaskSpec : ChangeSpec := { name := "fnExactShiftMask", fn := fun _ => fun
  | [d1, d2, d3, d4, d5] => { results := [.lit (.bool true)], args := [d1, d2, d3, d4, d5] }
  | _ => none }
def fnExactShiftMaskRow : OpenClaim := { program := "ytijnkbilfmemcaa", sum := "f3f924e1833835b2ba7546327e5d51c95ccbb149947095587e76f409a4c26f9e", func := "loop.example/g03400/laws.FnExactShiftMask", spec := "fnExactShiftMask", apart := false }
def FnExactShiftMaskSaid : Prop := fnExactShiftMaskRow.holds Try.pinned (OpenSpec.ofChange fnExactShiftMaskSpec)

/-- ITS FALSE NEIGHBOUR: 'it returns false'. Refute it at one input. -/
def fnExactShiftMaskWrong : ChangeSpec := { name := "fnExactShiftMask", fn := fun _ => fun
  | [d1, d2, d3, d4, d5] => { results := [.lit (.bool false)], args := [d1, d2, d3, d4, d5] }
  | _ => none }
def FnExactShiftMaskWrongFalsely : Prop := fnExactShiftMaskRow.holds Try.pinned (OpenSpec.ofChange fnExactShiftMaskWrong)

/-- 'laws.FnExactIsLogSteady': WHATEVER THE INPUT: true; the input reads as it did. -/
def fnExactIsLogSteadySpec : ChangeSpec := { name := "fnExactIsLogSteady", fn := fun _ => fun
  | [d] => { results := [.lit (.bool true)], args := [d] }
  | _ => none }
def fnExactIsLogSteadyRow : OpenClaim := { program := "ytijnkbilfmemcaa", sum := "f3f924e1833835b2ba7546327e5d51c95ccbb149947095587e76f409a4c26f9e", func := "loop.example/g03400/laws.FnExactIsLogSteady", spec := "fnExactIsLogSteady", apart := false }
def FnExactIsLogSteadySaid : Prop := fnExactIsLogSteadyRow.holds Try.pinned (OpenSpec.ofChange fnExactIsLogSteadySpec)

/-- ITS FALSE NEIGHBOUR: 'it returns false'. Refute it at one input. -/
def fnExactIsLogSteadyWrong : ChangeSpec := { name := "fnExactIsLogSteady", fn := fun _ => fun
  | [d] => { results := [.lit (.bool false)], args := [d] }
  | _ => none }
def FnExactIsLogSteadyWrongFalsely : Prop := fnExactIsLogSteadyRow.holds Try.pinned (OpenSpec.ofChange fnExactIsLogSteadyWrong)

/-- 'laws.FnExactAreWang': WHATEVER THE INPUT: true; the input reads as it did. -/
def fnExactAreWangSpec : ChangeSpec := { name := "fnExactAreWang", fn := fun _ => fun
  | [d] => { results := [.lit (.bool true)], args := [d] }
  | _ => none }
def fnExactAreWangRow : OpenClaim := { program := "ytijnkbilfmemcaa", sum := "f3f924e1833835b2ba7546327e5d51c95ccbb149947095587e76f409a4c26f9e", func := "loop.example/g03400/laws.FnExactAreWang", spec := "fnExactAreWang", apart := false }
def FnExactAreWangSaid : Prop := fnExactAreWangRow.holds Try.pinned (OpenSpec.ofChange fnExactAreWangSpec)

/-- ITS FALSE NEIGHBOUR: 'it returns false'. Refute it at one input. -/
def fnExactAreWangWrong : ChangeSpec := { name := "fnExactAreWang", fn := fun _ => fun
  | [d] => { results := [.lit (.bool false)], args := [d] }
  | _ => none }
def FnExactAreWangWrongFalsely : Prop := fnExactAreWangRow.holds Try.pinned (OpenSpec.ofChange fnExactAreWangWrong)

/-- 'laws.FnExactHolesLeft': WHATEVER THE INPUT: true; the input reads as it did. -/
def fnExactHolesLeftSpec : ChangeSpec := { name := "fnExactHolesLeft", fn := fun _ => fun
  | [d1, d2] => { results := [.lit (.bool true)], args := [d1, d2] }
  | _ => none }
def fnExactHolesLeftRow : OpenClaim := { program := "ytijnkbilfmemcaa", sum := "f3f924e1833835b2ba7546327e5d51c95ccbb149947095587e76f409a4c26f9e", func := "loop.example/g03400/laws.FnExactHolesLeft", spec := "fnExactHolesLeft", apart := false }
def FnExactHolesLeftSaid : Prop := fnExactHolesLeftRow.holds Try.pinned (OpenSpec.ofChange fnExactHolesLeftSpec)

/-- ITS FALSE NEIGHBOUR: 'it returns false'. Refute it at one input. -/
def fnExactHolesLeftWrong : ChangeSpec := { name := "fnExactHolesLeft", fn := fun _ => fun
  | [d1, d2] => { results := [.lit (.bool false)], args := [d1, d2] }
  | _ => none }
def FnExactHolesLeftWrongFalsely : Prop := fnExactHolesLeftRow.holds Try.pinned (OpenSpec.ofChange fnExactHolesLeftWrong)

/-- 'laws.FnExactTurnWang': WHATEVER THE INPUT: true; the input reads as it did. -/
def fnExactTurnWangSpec : ChangeSpec := { name := "fnExactTurnWang", fn := fun _ => fun
  | [d] => { results := [.lit (.bool true)], args := [d] }
  | _ => none }
def fnExactTurnWangRow : OpenClaim := { program := "ytijnkbilfmemcaa", sum := "f3f924e1833835b2ba7546327e5d51c95ccbb149947095587e76f409a4c26f9e", func := "loop.example/g03400/laws.FnExactTurnWang", spec := "fnExactTurnWang", apart := false }
def FnExactTurnWangSaid : Prop := fnExactTurnWangRow.holds Try.pinned (OpenSpec.ofChange fnExactTurnWangSpec)

/-- ITS FALSE NEIGHBOUR: 'it returns false'. Refute it at one input. -/
def fnExactTurnWangWrong : ChangeSpec := { name := "fnExactTurnWang", fn := fun _ => fun
  | [d] => { results := [.lit (.bool false)], args := [d] }
  | _ => none }
def FnExactTurnWangWrongFalsely : Prop := fnExactTurnWangRow.holds Try.pinned (OpenSpec.ofChange fnExactTurnWangWrong)

/-- 'laws.FnExactIsWangFill': WHATEVER THE INPUT: true; the input reads as it did. -/
def fnExactIsWangFillSpec : ChangeSpec := { name := "fnExactIsWangFill", fn := fun _ => fun
  | [d1, d2, d3, d4] => { results := [.lit (.bool true)], args := [d1, d2, d3, d4] }
  | _ => none }
def fnExactIsWangFillRow : OpenClaim := { program := "ytijnkbilfmemcaa", sum := "f3f924e1833835b2ba7546327e5d51c95ccbb149947095587e76f409a4c26f9e", func := "loop.example/g03400/laws.FnExactIsWangFill", spec := "fnExactIsWangFill", apart := false }
def FnExactIsWangFillSaid : Prop := fnExactIsWangFillRow.holds Try.pinned (OpenSpec.ofChange fnExactIsWangFillSpec)

/-- ITS FALSE NEIGHBOUR: 'it returns false'. Refute it at one input. -/
def fnExactIsWangFillWrong : ChangeSpec := { name := "fnExactIsWangFill", fn := fun _ => fun
  | [d1, d2, d3, d4] => { results := [.lit (.bool false)], args := [d1, d2, d3, d4] }
  | _ => none }
def FnExactIsWangFillWrongFalsely : Prop := fnExactIsWangFillRow.holds Try.pinned (OpenSpec.ofChange fnExactIsWangFillWrong)

/- THE SECOND FORM. 'bulk': how many values and letters a reading holds, each counted each time it is reached (what is shared counts as often as it is met; a slice's spare places count too). A statement '..UptoSaid' is the law's where the arguments, and the package variables that the reading takes, are together of bulk at most 1048576: NARROWER than '..Said'. Prove '..Said' where nothing that the law and all that it calls make is longer than what came in: it says more and counts as full. Else prove '..UptoSaid'. A law counts once. -/
mutual
def uptoBulk {H : Type} : DataW H → Nat
  | .lit (.string bytes) => bytes.length + 1
  | .lit _ => 1
  | .nil => 1
  | .ptr d => uptoBulk d + 1
  | .slice elems spare => uptoBulkAll elems + uptoBulkAll spare + 1
  | .agg parts => uptoBulkAll parts + 1
  | .iface _ d => uptoBulk d + 1
  | .map entries => uptoBulkEntries entries + 1
  | .held _ => 1
def uptoBulkAll {H : Type} : List (DataW H) → Nat
  | [] => 0
  | d :: r => uptoBulk d + uptoBulkAll r
def uptoBulkEntries {H : Type} : List (Lit × DataW H) → Nat
  | [] => 0
  | x :: r => uptoBulkEntry x + uptoBulkEntries r
def uptoBulkEntry {H : Type} : Lit × DataW H → Nat
  | (.string bytes, d) => bytes.length + uptoBulk d + 1
  | (_, d) => uptoBulk d + 1
 end
def uptoSmall : (H : Type) → List (DataW H) → Bool := fun _ ds => decide (uptoBulkAll ds ≤ 1048576)
def OpenSpec.upto (s : _root_.Go.ChangeSpec) : _root_.Go.OpenSpec := { _root_.Go.OpenSpec.ofChange s with cond := some uptoSmall }

/-- 'laws.FnExactShiftMask', WHERE WHAT IT READS IS OF BULK AT MOST 1048576: true; the input reads as it did. -/
def fnExactShiftMaskUptoRow : OpenClaim := { program := "ytijnkbilfmemcaa", sum := "f3f924e1833835b2ba7546327e5d51c95ccbb149947095587e76f409a4c26f9e", func := "loop.example/g03400/laws.FnExactShiftMask", spec := "fnExactShiftMask", apart := false, narrowed := true }
def FnExactShiftMaskUptoSaid : Prop := fnExactShiftMaskUptoRow.holds Try.pinned (OpenSpec.upto fnExactShiftMaskSpec)

/-- 'laws.FnExactIsLogSteady', WHERE WHAT IT READS IS OF BULK AT MOST 1048576: true; the input reads as it did. -/
def fnExactIsLogSteadyUptoRow : OpenClaim := { program := "ytijnkbilfmemcaa", sum := "f3f924e1833835b2ba7546327e5d51c95ccbb149947095587e76f409a4c26f9e", func := "loop.example/g03400/laws.FnExactIsLogSteady", spec := "fnExactIsLogSteady", apart := false, narrowed := true }
def FnExactIsLogSteadyUptoSaid : Prop := fnExactIsLogSteadyUptoRow.holds Try.pinned (OpenSpec.upto fnExactIsLogSteadySpec)

/-- 'laws.FnExactAreWang', WHERE WHAT IT READS IS OF BULK AT MOST 1048576: true; the input reads as it did. -/
def fnExactAreWangUptoRow : OpenClaim := { program := "ytijnkbilfmemcaa", sum := "f3f924e1833835b2ba7546327e5d51c95ccbb149947095587e76f409a4c26f9e", func := "loop.example/g03400/laws.FnExactAreWang", spec := "fnExactAreWang", apart := false, narrowed := true }
def FnExactAreWangUptoSaid : Prop := fnExactAreWangUptoRow.holds Try.pinned (OpenSpec.upto fnExactAreWangSpec)

/-- 'laws.FnExactHolesLeft', WHERE WHAT IT READS IS OF BULK AT MOST 1048576: true; the input reads as it did. -/
def fnExactHolesLeftUptoRow : OpenClaim := { program := "ytijnkbilfmemcaa", sum := "f3f924e1833835b2ba7546327e5d51c95ccbb149947095587e76f409a4c26f9e", func := "loop.example/g03400/laws.FnExactHolesLeft", spec := "fnExactHolesLeft", apart := false, narrowed := true }
def FnExactHolesLeftUptoSaid : Prop := fnExactHolesLeftUptoRow.holds Try.pinned (OpenSpec.upto fnExactHolesLeftSpec)

/-- 'laws.FnExactTurnWang', WHERE WHAT IT READS IS OF BULK AT MOST 1048576: true; the input reads as it did. -/
def fnExactTurnWangUptoRow : OpenClaim := { program := "ytijnkbilfmemcaa", sum := "f3f924e1833835b2ba7546327e5d51c95ccbb149947095587e76f409a4c26f9e", func := "loop.example/g03400/laws.FnExactTurnWang", spec := "fnExactTurnWang", apart := false, narrowed := true }
def FnExactTurnWangUptoSaid : Prop := fnExactTurnWangUptoRow.holds Try.pinned (OpenSpec.upto fnExactTurnWangSpec)

/-- 'laws.FnExactIsWangFill', WHERE WHAT IT READS IS OF BULK AT MOST 1048576: true; the input reads as it did. -/
def fnExactIsWangFillUptoRow : OpenClaim := { program := "ytijnkbilfmemcaa", sum := "f3f924e1833835b2ba7546327e5d51c95ccbb149947095587e76f409a4c26f9e", func := "loop.example/g03400/laws.FnExactIsWangFill", spec := "fnExactIsWangFill", apart := false, narrowed := true }
def FnExactIsWangFillUptoSaid : Prop := fnExactIsWangFillUptoRow.holds Try.pinned (OpenSpec.upto fnExactIsWangFillSpec)

end Rows
end Go.Proofs.Ytijnkbilfmemcaa
