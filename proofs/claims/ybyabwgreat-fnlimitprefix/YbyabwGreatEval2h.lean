/- impl.evalInto with nothing to reckon; the values of all nodes -/
import Derived.Test.YbyabwGreatEval2g
import Derived.Test.YbyabwGreatCmpP2
namespace Go.Proofs.YbyabwGreat
open Go.RowKit
set_option maxRecDepth 100000
set_option linter.unusedVariables false
set_option linter.unusedSimpArgs false

def RetEnd0 (w : World) : Ending → World → Prop := fun en w' => en = .returned (.tuple #[]) ∧ w' = w
set_option maxHeartbeats 2000000 in
theorem evalInto_neg (v1 v2 v3 : Value) (x : Int) (hx : x < 0) (w : World) : Calls Yabn.prog 45 #[v1, .int .i64 x, v2, v3] w (RetEnd0 w) := by
  have hx' : ¬ (0 : Int) ≤ x := by omega
  go_enter Yabn.func45, Yabn.ntmps45
  go_wp2
  go_loopw [8] (fun i wr => i = .int .i64 0 ∧ wr = w) (fun i _ => 0)
  case atStart => exact ⟨rfl, rfl⟩
  obtain ⟨rfl, rfl⟩ := hrel
  go_wp2
  go_end0
  exact ⟨rfl, rfl⟩
theorem mixTo_all (ns : List Nd) (row ys : List Int) (h : ys.length = ns.length) : mixTo ns row ys ns.length = evTo ns row ns.length := by
  unfold mixTo
  rw [← h, List.drop_length, List.append_nil]
end Go.Proofs.YbyabwGreat
