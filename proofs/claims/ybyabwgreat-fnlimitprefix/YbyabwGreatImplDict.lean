/- Walk: impl.EncodeDict -/
import Derived.Test.YbyabwGreatImplEnc
import Derived.Test.YbyabwGreatImplSort
namespace Go.Proofs.YbyabwGreat
open Go.RowKit
set_option maxRecDepth 100000
set_option linter.unusedVariables false

theorem dedupTo_hit (S : List Int) (k : Nat) (h : k = 0 ∨ S.getD k 0 ≠ S.getD (k - 1) 0) : dedupTo S k ++ [S.getD k 0] = dedupTo S (k + 1) := by
  conv => rhs; unfold dedupTo
  rw [if_pos h]
theorem dedupTo_miss (S : List Int) (k : Nat) (h : ¬ (k = 0 ∨ S.getD k 0 ≠ S.getD (k - 1) 0)) : dedupTo S k = dedupTo S (k + 1) := by
  conv => rhs; unfold dedupTo
  rw [if_neg h]

end Go.Proofs.YbyabwGreat
