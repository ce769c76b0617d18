/- Walk: laws.sepColumn -/
import Derived.Test.YbyabwGreatColM
namespace Go.Proofs.YbyabwGreat
open Go.RowKit
set_option maxRecDepth 100000
set_option linter.unusedVariables false

def incC (c : Col) : Col := ⟨c.kind, c.plain.map inc1, c.dict.map inc1, c.codes.map inc1, c.runs.map incP⟩
def RetSep (er : TypeId) (base top : Nat) (c : Col) (a1 a2 a3 a4 : Option Addr) (c1 c2 c3 c4 : Nat) (w : World) : Ending → World → Prop := fun en w' => en = .returned (.bool true) ∧ OwnC er w' base top c a1 a2 a3 a4 c1 c2 c3 c4 ∧ But (Rng base top) w w'

theorem LenC.inc {c : Col} (h : LenC c) : LenC (incC c) := ⟨by simpa [incC] using h.plain, by simpa [incC] using h.dict, by simpa [incC] using h.codes, by simpa [incC] using h.runs⟩


end Go.Proofs.YbyabwGreat
