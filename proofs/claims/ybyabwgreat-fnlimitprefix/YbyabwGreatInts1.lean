/- Walks: laws.cpI64, cpInt, eqI64, eqInt, scI64, scInt, incI64, incInt, prI64, prInt -/
import Derived.Test.YbyabwGreatFrame
import Derived.Test.YbyabwGreatRowV
import Derived.Test.YbyabwGreatCol2
import Derived.Test.YbyabwGreatDraw
namespace Go.Proofs.YbyabwGreat
open Go.RowKit
set_option maxRecDepth 100000
set_option linter.unusedVariables false

def inc1 (x : Int) : Int := wrap64 (x + 1)

end Go.Proofs.YbyabwGreat
