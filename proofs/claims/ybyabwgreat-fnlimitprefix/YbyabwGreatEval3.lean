/- Walks: impl.EvalRow, spec.RefEval -/
import Derived.Test.YbyabwGreatEval2
namespace Go.Proofs.YbyabwGreat
open Go.RowKit
set_option maxRecDepth 100000
set_option linter.unusedVariables false

def evOK (ns : List Nd) (row : List Int) (r : Int) : Prop := 0 ≤ r ∧ r < ns.length ∧ ∀ i : Nat, (i : Int) ≤ r → wfP (ns.getD i nd0) i row.length
def evAt (ns : List Nd) (row : List Int) (r : Int) : Int := (evTo ns row (r.toNat + 1)).getD r.toNat 0
/-- The two evaluators' answer. -/
def RetEv (ns : List Nd) (row : List Int) (r : Int) (w : World) : Ending → World → Prop := fun en w' => Ext w w' ∧ ((evOK ns row r ∧ en = .returned (.tuple #[.int .i64 (evAt ns row r), .bool true])) ∨ (¬ evOK ns row r ∧ en = .returned (.tuple #[.int .i64 0, .bool false])))

theorem mixTo_root (ns : List Nd) (row ys : List Int) (r : Nat) : (mixTo ns row ys (r + 1)).getD r 0 = evAt ns row r := by
  rw [mixTo_below ns row ys (r + 1) r (by omega)]
  simp [evAt]

end Go.Proofs.YbyabwGreat
