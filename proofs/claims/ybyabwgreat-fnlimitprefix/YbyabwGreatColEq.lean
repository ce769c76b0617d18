/- Walk: spec.ColumnEqual, at two columns that read the same -/
import Derived.Test.YbyabwGreatColL
import Derived.Test.YbyabwGreatCol3
namespace Go.Proofs.YbyabwGreat
open Go.RowKit
set_option maxRecDepth 100000
set_option linter.unusedVariables false

theorem Int64sEqual_same (xs : List Int) (a1 a2 : Option Addr) (c1 c2 : Nat) (w : World) (h1 : IntsAt w a1 xs) (h2 : IntsAt w a2 xs) (l : xs.length < 2 ^ 39) :
    Calls Yabn.prog 11 #[.slice a1 xs.length c1, .slice a2 xs.length c2] w (RetTrue w) := by
  refine (Int64sEqual xs xs a1 a2 c1 c2 w h1 h2 (by omega) (by omega)).mono ?_
  rintro e w' ⟨b, rfl, hb, hx⟩
  obtain rfl : b = true := hb.2 rfl
  exact ⟨rfl, hx⟩
end Go.Proofs.YbyabwGreat
