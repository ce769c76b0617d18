/- Walks: the two selOK, impl.Project, spec.RefProject -/
import Derived.Test.YbyabwGreatEx7
namespace Go.Proofs.YbyabwGreat
open Go.RowKit
set_option maxRecDepth 100000
set_option linter.unusedVariables false
set_option linter.unusedSimpArgs false

/-- A selection in order. -/
def ItS (sel : List Int) (n : Int) (j : Nat) : Prop := 0 ≤ sel.getD j 0 ∧ sel.getD j 0 < n ∧ (0 < j → sel.getD (j - 1) 0 < sel.getD j 0)
def SelOK (sel : List Int) (n : Int) : Prop := ∀ j, j < sel.length → ItS sel n j
end Go.Proofs.YbyabwGreat
