/- Rect0: when a shape is a rectangle; plain. -/
import Derived.Test.YtnldmigofmedkaaShape0
namespace Go.Proofs.Ytnldmigofmedkaa
open Go.RowKit
def isRect (l : List Cl) : Bool := decide (Shape l) && decide (sizeX l * sizeY l = (l.length : Int))
theorem mul_bd8 {a b : Int} (h1 : 0 ≤ a ∧ a ≤ 8) (h2 : 0 ≤ b ∧ b ≤ 8) : 0 ≤ a * b ∧ a * b ≤ 64 := by
  constructor
  · exact Int.mul_nonneg h1.1 h2.1
  · have := Int.mul_le_mul h1.2 h2.2 h2.1 (by omega : (0 : Int) ≤ 8)
    omega
theorem size_mul (l : List Cl) : 0 ≤ sizeX l * sizeY l ∧ sizeX l * sizeY l ≤ 64 := mul_bd8 (size_bd l).1 (size_bd l).2
end Go.Proofs.Ytnldmigofmedkaa
