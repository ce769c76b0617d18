/- Walks: laws.cvRuns, eqLRuns, prRuns, scRuns, incRuns, incLRuns, cpRuns -/
import Derived.Test.YbyabwGreatInts1
import Derived.Test.YbyabwGreatLaws2
namespace Go.Proofs.YbyabwGreat
open Go.RowKit
set_option maxRecDepth 100000
set_option linter.unusedVariables false
def incP (p : Int × Int) : Int × Int := (inc1 p.1, inc1 p.2)
section
variable {ops : Array Oper} {rest : List Oper} {o : Oper} {a : Act} {Q : Exit → Act → World → Prop} {w : World}
end
end Go.Proofs.YbyabwGreat
