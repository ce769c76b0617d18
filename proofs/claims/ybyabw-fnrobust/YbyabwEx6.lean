/- Walks: impl.Select, spec.evalOn, spec.RefSelect, the two selOK -/
import Derived.Test.YbyabwEx3
import Derived.Test.YbyabwEx5
import Derived.Test.YbyabwDecTab
import Derived.Test.YbyabwRefDecTab
import Derived.Test.YbyabwEval3
import Derived.Test.YbyabwHeld
namespace Go.Proofs.Ybyabw
open Go.RowKit
set_option maxRecDepth 100000
set_option linter.unusedVariables false
set_option linter.unusedSimpArgs false

theorem rowAt_T (cs : List Col) : rowAt (colF cs) cs.length = rowT cs := by
  funext r
  apply List.ext_getElem
  · simp [rowAt, rowT]
  · intro i h1 h2
    have hi : i < cs.length := by simpa [rowAt] using h1
    simp [rowAt, rowT, colF, hi]
theorem colF_len {cs : List Col} {n : Nat} (hv : ValidT cs n) {j : Nat} (hj : j < cs.length) : (colF cs j).length = n := by
  have := dec_len _ _ (hv.2.2.2 j hj)
  unfold colF
  omega
/-- Answers of a plan on a table: the plan fits, the table is sound, the cost is paid. -/
def RetSel (b : Bool) (xs : List Int) (w : World) : Ending → World → Prop := fun en w' => (b = true ∧ RetYes 3 xs w en w') ∨ (b = false ∧ RetNo w en w')
end Go.Proofs.Ybyabw
