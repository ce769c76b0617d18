/- laws.scTable, with a finer frame -/
import Derived.Test.YbyabwGreatTabW
namespace Go.Proofs.YbyabwGreat
open Go.RowKit
set_option maxRecDepth 100000
set_option linter.unusedVariables false

def OwnTabT (w : World) (base top : Nat) (a : Option Addr) (cap : Nat) (cs : List Col) : Prop :=
  (∃ rows lo hi g, OwnV w base 69 5 (.slice a cs.length cap) rows ∧ rows.length = cs.length ∧ TabRows w rows cs lo hi 0 cs.length ∧ Spread lo hi g cs.length top ∧ (Value.slice a cs.length cap).ownBlock = some g ∧ g < top) ∨ (cs = [])
theorem OwnTab.top {w : World} {base : Nat} {a : Option Addr} {cap : Nat} {cs : List Col} (h : OwnTab w base a cap cs) : OwnTabT w base w.heap.size a cap cs := by
  rcases h with ⟨rows, lo, hi, g, T, h1, h2, h3, h4, h5, h6⟩ | h
  · exact .inl ⟨rows, lo, hi, g, h1, h2, h3, h4.mono h5, h6, (World.ownsRow.lt h1.2 g h6).2⟩
  · exact .inr h
theorem OwnTabT.ext {w w' : World} {base top : Nat} {a : Option Addr} {cap : Nat} {cs : List Col} (h : OwnTabT w base top a cap cs) (he : Ext w w') : OwnTabT w' base top a cap cs := by
  rcases h with ⟨rows, lo, hi, g, h1, h2, h3, h4, h5, h6⟩ | h
  · exact .inl ⟨rows, lo, hi, g, h1.ext he, h2, h3.ext he, h4, h5, h6⟩
  · exact .inr h

end Go.Proofs.YbyabwGreat
