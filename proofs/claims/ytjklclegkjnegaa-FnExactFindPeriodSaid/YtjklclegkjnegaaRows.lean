/-
  No cell of these rows narrows 'for every input' (looked for: loops, veiled, ifaces, maps, wideKeys, modest, calm, conditions, laid).
  DERIVED. THE GIVEN ROWS OF THIS SEAT. 3 by the template 'for every input the law returns true; each argument reads behind the call as it read before'; 0 by the template 'total and deterministic' (their statements: YtjklclegkjnegaaTotals.lean).
  GIVEN WITH THE SEED: the statements are not yours to turn. If you find one false, say at which input.
  Laid BY PROGRAM, IN A SANDBOX (cutbox-rows.mjs): the forced cells as the released guide's own fill.sh prints them over the translation 58252efed9e4725d… (all of the seat's roots in one cut). By AI agents, Wed Nov 11 2026. No macro, syntax, notation, axiom, sorry.
-/
import Derived.Test.YtjklclegkjnegaaChecked
import GoSem.Claim
import GoSem.ClaimJoined
import GoSem.ClaimMapViews
import Derived.JoinedTies
import Derived.KernelRfl
namespace Go.Proofs.Ytjklclegkjnegaa
/- THE CELL 'sum', in the pinned program and in every row, IS THE sha256 OF THE DUMP (.gsa) THAT YtjklclegkjnegaaProg.lean LOADS. Nothing in Lean hashes anything: it is a label: what it is worth is what the hold of that sum in a sandbox is worth. -/
noncomputable def Try.pinned : Pinned := { name := "ytjklclegkjnegaa", sum := "58252efed9e4725da84dc16d1c410221237c4a56438ba82ca7a708470fa8e96e", checked := Try.checked }
namespace Rows
def none {H : Type} : Left H := { results := [], args := [] }

/-- 'laws.FnExactFindPeriod': WHATEVER THE INPUT: true; the input reads as it did. -/
def fnExactFindPeriodSpec : ChangeSpec := { name := "fnExactFindPeriod", fn := fun _ => fun
  | [d] => { results := [.lit (.bool true)], args := [d] }
  | _ => none }
def fnExactFindPeriodRow : OpenClaim := { program := "ytjklclegkjnegaa", sum := "58252efed9e4725da84dc16d1c410221237c4a56438ba82ca7a708470fa8e96e", func := "loop.example/g03400/laws.FnExactFindPeriod", spec := "fnExactFindPeriod", unfollowed := true, recurses := true, apart := false }
def FnExactFindPeriodSaid : Prop := fnExactFindPeriodRow.holds Try.pinned (OpenSpec.ofChange fnExactFindPeriodSpec)

/-- ITS FALSE NEIGHBOUR: 'it returns false'. Refute it at one input. -/
def fnExactFindPeriodWrong : ChangeSpec := { name := "fnExactFindPeriod", fn := fun _ => fun
  | [d] => { results := [.lit (.bool false)], args := [d] }
  | _ => none }
def FnExactFindPeriodWrongFalsely : Prop := fnExactFindPeriodRow.holds Try.pinned (OpenSpec.ofChange fnExactFindPeriodWrong)

/-- 'laws.FnExactFindWangFill': WHATEVER THE INPUT: true; the input reads as it did. -/
def fnExactFindWangFillSpec : ChangeSpec := { name := "fnExactFindWangFill", fn := fun _ => fun
  | [d1, d2, d3] => { results := [.lit (.bool true)], args := [d1, d2, d3] }
  | _ => none }
def fnExactFindWangFillRow : OpenClaim := { program := "ytjklclegkjnegaa", sum := "58252efed9e4725da84dc16d1c410221237c4a56438ba82ca7a708470fa8e96e", func := "loop.example/g03400/laws.FnExactFindWangFill", spec := "fnExactFindWangFill", unfollowed := true, recurses := true, apart := false }
def FnExactFindWangFillSaid : Prop := fnExactFindWangFillRow.holds Try.pinned (OpenSpec.ofChange fnExactFindWangFillSpec)

/-- ITS FALSE NEIGHBOUR: 'it returns false'. Refute it at one input. -/
def fnExactFindWangFillWrong : ChangeSpec := { name := "fnExactFindWangFill", fn := fun _ => fun
  | [d1, d2, d3] => { results := [.lit (.bool false)], args := [d1, d2, d3] }
  | _ => none }
def FnExactFindWangFillWrongFalsely : Prop := fnExactFindWangFillRow.holds Try.pinned (OpenSpec.ofChange fnExactFindWangFillWrong)

/-- 'laws.FnExactIsPeriodicFill': WHATEVER THE INPUT: true; the input reads as it did. -/
def fnExactIsPeriodicFillSpec : ChangeSpec := { name := "fnExactIsPeriodicFill", fn := fun _ => fun
  | [d1, d2, d3, d4] => { results := [.lit (.bool true)], args := [d1, d2, d3, d4] }
  | _ => none }
def fnExactIsPeriodicFillRow : OpenClaim := { program := "ytjklclegkjnegaa", sum := "58252efed9e4725da84dc16d1c410221237c4a56438ba82ca7a708470fa8e96e", func := "loop.example/g03400/laws.FnExactIsPeriodicFill", spec := "fnExactIsPeriodicFill", apart := false }
def FnExactIsPeriodicFillSaid : Prop := fnExactIsPeriodicFillRow.holds Try.pinned (OpenSpec.ofChange fnExactIsPeriodicFillSpec)

/-- ITS FALSE NEIGHBOUR: 'it returns false'. Refute it at one input. -/
def fnExactIsPeriodicFillWrong : ChangeSpec := { name := "fnExactIsPeriodicFill", fn := fun _ => fun
  | [d1, d2, d3, d4] => { results := [.lit (.bool false)], args := [d1, d2, d3, d4] }
  | _ => none }
def FnExactIsPeriodicFillWrongFalsely : Prop := fnExactIsPeriodicFillRow.holds Try.pinned (OpenSpec.ofChange fnExactIsPeriodicFillWrong)

/- THE SECOND FORM. 'bulk': how many values and letters a reading holds, each counted each time it is reached (what is shared counts as often as it is met; a slice's spare places count too). A statement '..UptoSaid' is the law's where the arguments, and the package variables that the reading takes, are together of bulk at most 1048576: NARROWER than '..Said'. Prove '..Said' where nothing that the law and all that it calls make is longer than what came in: it says more and counts as full. Else prove '..UptoSaid'. A law counts once. -/
mutual
def uptoBulk {H : Type} : DataW H → Nat
  | .lit (.string bytes) => bytes.length + 1
  | .lit _ => 1
  | .nil => 1
  | .ptr d => uptoBulk d + 1
  | .slice elems spare => uptoBulkAll elems + uptoBulkAll spare + 1
  | .agg parts => uptoBulkAll parts + 1
  | .iface _ d => uptoBulk d + 1
  | .map entries => uptoBulkEntries entries + 1
  | .held _ => 1
def uptoBulkAll {H : Type} : List (DataW H) → Nat
  | [] => 0
  | d :: r => uptoBulk d + uptoBulkAll r
def uptoBulkEntries {H : Type} : List (Lit × DataW H) → Nat
  | [] => 0
  | x :: r => uptoBulkEntry x + uptoBulkEntries r
def uptoBulkEntry {H : Type} : Lit × DataW H → Nat
  | (.string bytes, d) => bytes.length + uptoBulk d + 1
  | (_, d) => uptoBulk d + 1
 end
def uptoSmall : (H : Type) → List (DataW H) → Bool := fun _ ds => decide (uptoBulkAll ds ≤ 1048576)
def OpenSpec.upto (s : _root_.Go.ChangeSpec) : _root_.Go.OpenSpec := { _root_.Go.OpenSpec.ofChange s with cond := some uptoSmall }

/-- 'laws.FnExactFindPeriod', WHERE WHAT IT READS IS OF BULK AT MOST 1048576: true; the input reads as it did. -/
def fnExactFindPeriodUptoRow : OpenClaim := { program := "ytjklclegkjnegaa", sum := "58252efed9e4725da84dc16d1c410221237c4a56438ba82ca7a708470fa8e96e", func := "loop.example/g03400/laws.FnExactFindPeriod", spec := "fnExactFindPeriod", unfollowed := true, recurses := true, apart := false, narrowed := true }
def FnExactFindPeriodUptoSaid : Prop := fnExactFindPeriodUptoRow.holds Try.pinned (OpenSpec.upto fnExactFindPeriodSpec)

/-- 'laws.FnExactFindWangFill', WHERE WHAT IT READS IS OF BULK AT MOST 1048576: true; the input reads as it did. -/
def fnExactFindWangFillUptoRow : OpenClaim := { program := "ytjklclegkjnegaa", sum := "58252efed9e4725da84dc16d1c410221237c4a56438ba82ca7a708470fa8e96e", func := "loop.example/g03400/laws.FnExactFindWangFill", spec := "fnExactFindWangFill", unfollowed := true, recurses := true, apart := false, narrowed := true }
def FnExactFindWangFillUptoSaid : Prop := fnExactFindWangFillUptoRow.holds Try.pinned (OpenSpec.upto fnExactFindWangFillSpec)

/-- 'laws.FnExactIsPeriodicFill', WHERE WHAT IT READS IS OF BULK AT MOST 1048576: true; the input reads as it did. -/
def fnExactIsPeriodicFillUptoRow : OpenClaim := { program := "ytjklclegkjnegaa", sum := "58252efed9e4725da84dc16d1c410221237c4a56438ba82ca7a708470fa8e96e", func := "loop.example/g03400/laws.FnExactIsPeriodicFill", spec := "fnExactIsPeriodicFill", apart := false, narrowed := true }
def FnExactIsPeriodicFillUptoSaid : Prop := fnExactIsPeriodicFillUptoRow.holds Try.pinned (OpenSpec.upto fnExactIsPeriodicFillSpec)

end Rows
end Go.Proofs.Ytjklclegkjnegaa
