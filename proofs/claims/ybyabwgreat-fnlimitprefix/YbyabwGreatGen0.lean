/- Slices of bytes as they are read. -/
import Derived.Test.YbyabwGreatMem
namespace Go.Proofs.YbyabwGreat
open Go.RowKit
set_option linter.unusedVariables false

def BytesAt (w : World) (a : Option Addr) (zs : List Int) : Prop := ∀ i, i < zs.length → ∃ b off, a = some ⟨b, off, none⟩ ∧ w.cell? ⟨b, off + i, none⟩ = some (.int .u8 (zs.getD i 0)) ∧ 0 ≤ zs.getD i 0 ∧ zs.getD i 0 < 256
theorem BytesAt.ext {w w' : World} {a : Option Addr} {zs : List Int} (h : BytesAt w a zs) (he : Ext w w') : BytesAt w' a zs := fun i hi => by
  obtain ⟨b, off, e, hc, h1⟩ := h i hi
  exact ⟨b, off, e, he.cell hc, h1⟩
end Go.Proofs.YbyabwGreat
