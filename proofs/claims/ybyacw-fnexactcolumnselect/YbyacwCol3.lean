/- Walks: impl.DecodeColumn, spec.RefDecodeColumn, spec.Int64sEqual -/
import Derived.Test.YbyacwCol2
namespace Go.Proofs.Ybyacw
open Go.RowKit
set_option maxRecDepth 100000
set_option linter.unusedVariables false


/-- (slice, true) with the slice new; or (nil, false). -/
def RetYes (e : TypeId) (xs : List Int) (w : World) : Ending → World → Prop := fun en w' => ∃ a cap, en = .returned (.tuple #[.slice a xs.length cap, .bool true]) ∧ OwnI w' w.heap.size e (.slice a xs.length cap) xs ∧ Ext w w'
def RetNo (w : World) : Ending → World → Prop := fun en w' => en = .returned (.tuple #[.slice none 0 0, .bool false]) ∧ Ext w w'

theorem ColAt.ext {w w' : World} {c : Col} {a1 a2 a3 a4 : Option Addr} (h : ColAt w c a1 a2 a3 a4) (he : Ext w w') : ColAt w' c a1 a2 a3 a4 :=
  ⟨h.plain.ext he, h.dict.ext he, h.codes.ext he, h.runs.ext he⟩

def Agree (x1 x2 : List Int) (k : Nat) : Prop := ∀ j, j < k → x1.getD j 0 = x2.getD j 0
theorem Agree.all {x1 x2 : List Int} (h : Agree x1 x2 x1.length) (hl : x1.length = x2.length) : x1 = x2 := by
  apply List.ext_getElem hl
  intro i h1 h2
  have := h i h1
  simpa [List.getElem?_eq_getElem h1, List.getElem?_eq_getElem h2] using this
theorem Agree.succ {x1 x2 : List Int} {k : Nat} (h : Agree x1 x2 k) (he : x1.getD k 0 = x2.getD k 0) : Agree x1 x2 (k + 1) := by
  intro j hj
  by_cases hjk : j < k
  · exact h j hjk
  · have : j = k := by omega
    subst this
    exact he

end Go.Proofs.Ybyacw
