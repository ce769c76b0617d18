/- Walk: spec.RefGroupRows -/
import Derived.Test.YbyabwGreatGrp8
namespace Go.Proofs.YbyabwGreat
open Go.RowKit
set_option maxRecDepth 100000
set_option linter.unusedVariables false
set_option linter.unusedSimpArgs false

theorem flat_snoc (D : List (List Int)) (i : Nat) (h : i < D.length) : (D.take (i + 1)).flatten = (D.take i).flatten ++ fD D i := by
  rw [List.take_succ_eq_append_getElem h]
  unfold fD
  rw [List.getD_eq_getElem?_getD, List.getElem?_eq_getElem h, List.flatten_append, List.flatten_cons, List.flatten_nil, List.append_nil]
  rfl
end Go.Proofs.YbyabwGreat
