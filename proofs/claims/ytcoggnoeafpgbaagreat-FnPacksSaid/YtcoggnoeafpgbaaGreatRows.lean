/-
  No cell of these rows narrows 'for every input' (looked for: loops, veiled, ifaces, maps, wideKeys, modest, calm, conditions, laid).
  DERIVED. THE GIVEN ROWS OF THIS SEAT. 3 by the template 'for every input the law returns true; each argument reads behind the call as it read before'; 0 by the template 'total and deterministic' (their statements: YtcoggnoeafpgbaaGreatTotals.lean).
  GIVEN WITH THE SEED: the statements are not yours to turn. If you find one false, say at which input.
  Laid BY PROGRAM, IN A SANDBOX (cutbox-rows.mjs): the forced cells as the released guide's own fill.sh prints them over the translation 4456c74e6efb339d… (all of the seat's roots in one cut). By AI agents, Wed Nov 11 2026. No macro, syntax, notation, axiom, sorry.
-/
import Derived.Test.YtcoggnoeafpgbaaGreatChecked
import GoSem.Claim
import GoSem.ClaimJoined
import GoSem.ClaimMapViews
import Derived.JoinedTies
import Derived.KernelRfl
namespace Go.Proofs.YtcoggnoeafpgbaaGreat
/- THE CELL 'sum', in the pinned program and in every row, IS THE sha256 OF THE DUMP (.gsa) THAT YtcoggnoeafpgbaaGreatProg.lean LOADS. Nothing in Lean hashes anything: it is a label: what it is worth is what the hold of that sum in a sandbox is worth. -/
noncomputable def Tryz.pinned : Pinned := { name := "ytcoggnoeafpgbaagreat", sum := "4456c74e6efb339dc00db6cf3e9aa94efa087e1a40be3df15cac9b5dfdd29250", checked := Tryz.checked }
namespace Rows
def none {H : Type} : Left H := { results := [], args := [] }

/-- 'laws.FnExactCountPacked': WHATEVER THE INPUT: true; the input reads as it did. -/
def fnExactCountPackedSpec : ChangeSpec := { name := "fnExactCountPacked", fn := fun _ => fun
  | [d1, d2] => { results := [.lit (.bool true)], args := [d1, d2] }
  | _ => none }
def fnExactCountPackedRow : OpenClaim := { program := "ytcoggnoeafpgbaagreat", sum := "4456c74e6efb339dc00db6cf3e9aa94efa087e1a40be3df15cac9b5dfdd29250", func := "loop.example/g03400/laws.FnExactCountPacked", spec := "fnExactCountPacked", inPlace := ["internal/reflectlite.ValueOf", "internal/reflectlite.Swapper", "(internal/reflectlite.Value).Len"], unfollowed := true, recurses := true, plainKeys := false, apart := false }
def FnExactCountPackedSaid : Prop := fnExactCountPackedRow.holds Tryz.pinned (OpenSpec.ofChange fnExactCountPackedSpec)

/-- ITS FALSE NEIGHBOUR: 'it returns false'. Refute it at one input. -/
def fnExactCountPackedWrong : ChangeSpec := { name := "fnExactCountPacked", fn := fun _ => fun
  | [d1, d2] => { results := [.lit (.bool false)], args := [d1, d2] }
  | _ => none }
def FnExactCountPackedWrongFalsely : Prop := fnExactCountPackedRow.holds Tryz.pinned (OpenSpec.ofChange fnExactCountPackedWrong)

/-- 'laws.FnExactLargestPacking': WHATEVER THE INPUT: true; the input reads as it did. -/
def fnExactLargestPackingSpec : ChangeSpec := { name := "fnExactLargestPacking", fn := fun _ => fun
  | [d1, d2] => { results := [.lit (.bool true)], args := [d1, d2] }
  | _ => none }
def fnExactLargestPackingRow : OpenClaim := { program := "ytcoggnoeafpgbaagreat", sum := "4456c74e6efb339dc00db6cf3e9aa94efa087e1a40be3df15cac9b5dfdd29250", func := "loop.example/g03400/laws.FnExactLargestPacking", spec := "fnExactLargestPacking", inPlace := ["internal/reflectlite.ValueOf", "internal/reflectlite.Swapper", "(internal/reflectlite.Value).Len"], unfollowed := true, recurses := true, plainKeys := false, apart := false }
def FnExactLargestPackingSaid : Prop := fnExactLargestPackingRow.holds Tryz.pinned (OpenSpec.ofChange fnExactLargestPackingSpec)

/-- ITS FALSE NEIGHBOUR: 'it returns false'. Refute it at one input. -/
def fnExactLargestPackingWrong : ChangeSpec := { name := "fnExactLargestPacking", fn := fun _ => fun
  | [d1, d2] => { results := [.lit (.bool false)], args := [d1, d2] }
  | _ => none }
def FnExactLargestPackingWrongFalsely : Prop := fnExactLargestPackingRow.holds Tryz.pinned (OpenSpec.ofChange fnExactLargestPackingWrong)

/-- 'laws.FnPacks': WHATEVER THE INPUT: true; the input reads as it did. -/
def fnPacksSpec : ChangeSpec := { name := "fnPacks", fn := fun _ => fun
  | [d] => { results := [.lit (.bool true)], args := [d] }
  | _ => none }
def fnPacksRow : OpenClaim := { program := "ytcoggnoeafpgbaagreat", sum := "4456c74e6efb339dc00db6cf3e9aa94efa087e1a40be3df15cac9b5dfdd29250", func := "loop.example/g03400/laws.FnPacks", spec := "fnPacks", inPlace := ["internal/reflectlite.ValueOf", "internal/reflectlite.Swapper", "(internal/reflectlite.Value).Len"], unfollowed := true, recurses := true, plainKeys := false, apart := false }
def FnPacksSaid : Prop := fnPacksRow.holds Tryz.pinned (OpenSpec.ofChange fnPacksSpec)

/-- ITS FALSE NEIGHBOUR: 'it returns false'. Refute it at one input. -/
def fnPacksWrong : ChangeSpec := { name := "fnPacks", fn := fun _ => fun
  | [d] => { results := [.lit (.bool false)], args := [d] }
  | _ => none }
def FnPacksWrongFalsely : Prop := fnPacksRow.holds Tryz.pinned (OpenSpec.ofChange fnPacksWrong)

/- THE SECOND FORM. 'bulk': how many values and letters a reading holds, each counted each time it is reached (what is shared counts as often as it is met; a slice's spare places count too). A statement '..UptoSaid' is the law's where the arguments, and the package variables that the reading takes, are together of bulk at most 1048576: NARROWER than '..Said'. Prove '..Said' where nothing that the law and all that it calls make is longer than what came in: it says more and counts as full. Else prove '..UptoSaid'. A law counts once. -/
mutual
def uptoBulk {H : Type} : DataW H → Nat
  | .lit (.string bytes) => bytes.length + 1
  | .lit _ => 1
  | .nil => 1
  | .ptr d => uptoBulk d + 1
  | .slice elems spare => uptoBulkAll elems + uptoBulkAll spare + 1
  | .agg parts => uptoBulkAll parts + 1
  | .iface _ d => uptoBulk d + 1
  | .map entries => uptoBulkEntries entries + 1
  | .held _ => 1
def uptoBulkAll {H : Type} : List (DataW H) → Nat
  | [] => 0
  | d :: r => uptoBulk d + uptoBulkAll r
def uptoBulkEntries {H : Type} : List (Lit × DataW H) → Nat
  | [] => 0
  | x :: r => uptoBulkEntry x + uptoBulkEntries r
def uptoBulkEntry {H : Type} : Lit × DataW H → Nat
  | (.string bytes, d) => bytes.length + uptoBulk d + 1
  | (_, d) => uptoBulk d + 1
 end
def uptoSmall : (H : Type) → List (DataW H) → Bool := fun _ ds => decide (uptoBulkAll ds ≤ 1048576)
def OpenSpec.upto (s : _root_.Go.ChangeSpec) : _root_.Go.OpenSpec := { _root_.Go.OpenSpec.ofChange s with cond := some uptoSmall }

/-- 'laws.FnExactCountPacked', WHERE WHAT IT READS IS OF BULK AT MOST 1048576: true; the input reads as it did. -/
def fnExactCountPackedUptoRow : OpenClaim := { program := "ytcoggnoeafpgbaagreat", sum := "4456c74e6efb339dc00db6cf3e9aa94efa087e1a40be3df15cac9b5dfdd29250", func := "loop.example/g03400/laws.FnExactCountPacked", spec := "fnExactCountPacked", inPlace := ["internal/reflectlite.ValueOf", "internal/reflectlite.Swapper", "(internal/reflectlite.Value).Len"], unfollowed := true, recurses := true, plainKeys := false, apart := false, narrowed := true }
def FnExactCountPackedUptoSaid : Prop := fnExactCountPackedUptoRow.holds Tryz.pinned (OpenSpec.upto fnExactCountPackedSpec)

/-- 'laws.FnExactLargestPacking', WHERE WHAT IT READS IS OF BULK AT MOST 1048576: true; the input reads as it did. -/
def fnExactLargestPackingUptoRow : OpenClaim := { program := "ytcoggnoeafpgbaagreat", sum := "4456c74e6efb339dc00db6cf3e9aa94efa087e1a40be3df15cac9b5dfdd29250", func := "loop.example/g03400/laws.FnExactLargestPacking", spec := "fnExactLargestPacking", inPlace := ["internal/reflectlite.ValueOf", "internal/reflectlite.Swapper", "(internal/reflectlite.Value).Len"], unfollowed := true, recurses := true, plainKeys := false, apart := false, narrowed := true }
def FnExactLargestPackingUptoSaid : Prop := fnExactLargestPackingUptoRow.holds Tryz.pinned (OpenSpec.upto fnExactLargestPackingSpec)

/-- 'laws.FnPacks', WHERE WHAT IT READS IS OF BULK AT MOST 1048576: true; the input reads as it did. -/
def fnPacksUptoRow : OpenClaim := { program := "ytcoggnoeafpgbaagreat", sum := "4456c74e6efb339dc00db6cf3e9aa94efa087e1a40be3df15cac9b5dfdd29250", func := "loop.example/g03400/laws.FnPacks", spec := "fnPacks", inPlace := ["internal/reflectlite.ValueOf", "internal/reflectlite.Swapper", "(internal/reflectlite.Value).Len"], unfollowed := true, recurses := true, plainKeys := false, apart := false, narrowed := true }
def FnPacksUptoSaid : Prop := fnPacksUptoRow.holds Tryz.pinned (OpenSpec.upto fnPacksSpec)

end Rows
end Go.Proofs.YtcoggnoeafpgbaaGreat
