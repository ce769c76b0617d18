/- Walks: impl.Select, spec.evalOn, spec.RefSelect, the two selOK -/
import Derived.Test.YbyabwGreatEx3
import Derived.Test.YbyabwGreatEx5
import Derived.Test.YbyabwGreatDecTab
import Derived.Test.YbyabwGreatRefDecTab
import Derived.Test.YbyabwGreatEval3
import Derived.Test.YbyabwGreatHeld
namespace Go.Proofs.YbyabwGreat
open Go.RowKit
set_option maxRecDepth 100000
set_option linter.unusedVariables false
set_option linter.unusedSimpArgs false

theorem rowAt_T (cs : List Col) : rowAt (colF cs) cs.length = rowT cs := by
  funext r
  apply List.ext_getElem
  · simp [rowAt, rowT]
  · intro i h1 h2
    have hi : i < cs.length := by simpa [rowAt] using h1
    simp [rowAt, rowT, colF, hi]
theorem colF_len {cs : List Col} {n : Nat} (hv : ValidT cs n) {j : Nat} (hj : j < cs.length) : (colF cs j).length = n := by
  have := dec_len _ _ (hv.2.2.2 j hj)
  unfold colF
  omega
/-- Answers of a plan on a table: the plan fits, the table is sound, the cost is paid. -/
def RetSel (b : Bool) (xs : List Int) (w : World) : Ending → World → Prop := fun en w' => (b = true ∧ RetYes 3 xs w en w') ∨ (b = false ∧ RetNo w en w')
end Go.Proofs.YbyabwGreat
