/- Walks: impl.EncodePlain, impl.EncodeRLE -/
import Derived.Test.YbyabwGreatColL
import Derived.Test.YbyabwGreatEnc3
namespace Go.Proofs.YbyabwGreat
open Go.RowKit
set_option maxRecDepth 100000
set_option linter.unusedVariables false

theorem retC_zero {w w' : World} (h : Ext w w') : RetC 132 col0 w (.returned (.agg #[.int .i64 0, .slice none 0 0, .slice none 0 0, .slice none 0 0, .slice none 0 0])) w' :=
  ⟨none, none, none, none, 0, 0, 0, 0, rfl, OwnC.make (OwnI.nil _ _ _) (OwnI.nil _ _ _) (OwnI.nil _ _ _) (OwnP.nil _ _ _) (apart_nil _ _ _) (Nat.le_refl _), h⟩

end Go.Proofs.YbyabwGreat
