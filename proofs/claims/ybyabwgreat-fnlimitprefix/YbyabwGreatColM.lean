/- Walks: laws.prColumn, scColumn, incColumn, incLColumn, sepColumn -/
import Derived.Test.YbyabwGreatColL
namespace Go.Proofs.YbyabwGreat
open Go.RowKit
set_option maxRecDepth 100000
set_option linter.unusedVariables false

/-- A call that changes rows of a column alone. -/
def RetM (er : TypeId) (base top : Nat) (c : Col) (a1 a2 a3 a4 : Option Addr) (c1 c2 c3 c4 : Nat) (w : World) : Ending → World → Prop := fun en w' => en = .returned (.tuple #[]) ∧ OwnC er w' base top c a1 a2 a3 a4 c1 c2 c3 c4 ∧ But (Rng base top) w w'
def RetB (base top : Nat) (w : World) : Ending → World → Prop := fun en w' => en = .returned (.tuple #[]) ∧ But (Rng base top) w w'

end Go.Proofs.YbyabwGreat
