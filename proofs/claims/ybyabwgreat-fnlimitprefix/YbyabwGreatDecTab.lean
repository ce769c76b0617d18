/- Walk: impl.DecodeTable -/
import Derived.Test.YbyabwGreatRowL
namespace Go.Proofs.YbyabwGreat
open Go.RowKit
set_option maxRecDepth 100000
set_option linter.unusedVariables false

/-- Row i of a table. -/
def rowT (cs : List Col) (i : Nat) : List Int := cs.map fun c => (dec c).getD i 0
theorem rowT_len (cs : List Col) (i : Nat) : (rowT cs i).length = cs.length := by simp [rowT]
theorem rowT_at (cs : List Col) (i j : Nat) (h : j < cs.length) : (rowT cs i).getD j 0 = (dec (cs.getD j col0)).getD i 0 := by
  simp [rowT, List.getD_eq_getElem?_getD, List.getElem?_eq_getElem h]

/-- (rows, b): the rows are the call's own. -/
def RetRV (n : Nat) (f : Nat → List Int) (b : Bool) (w : World) : Ending → World → Prop := fun en w' => ∃ a cap, en = .returned (.tuple #[.slice a n cap, .bool b]) ∧ OwnRows w' w.heap.size w'.heap.size a cap n f ∧ Ext w w'
theorem ownRows_nil (w : World) (base top : Nat) (f : Nat → List Int) : OwnRows w base top none 0 0 f :=
  ⟨[], fun _ => 0, fun _ => 0, 0, World.ownsRow_nil _ _ _ _, fun i h1 h2 => by omega, ⟨fun i j h1 h2 => by omega, fun i h1 => by omega, fun i h1 => by omega⟩, fun q hq => by cases hq⟩

end Go.Proofs.YbyabwGreat
