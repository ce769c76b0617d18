/- Walks: spec.RefSelect, the two selOK -/
import Derived.Test.YbyabwGreatEx6
namespace Go.Proofs.YbyabwGreat
open Go.RowKit
set_option maxRecDepth 100000
set_option linter.unusedVariables false
set_option linter.unusedSimpArgs false

end Go.Proofs.YbyabwGreat
