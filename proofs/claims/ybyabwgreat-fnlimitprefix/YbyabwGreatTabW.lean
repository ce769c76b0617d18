/- Slices of columns of any length. -/
import Derived.Test.YbyabwGreatTabM
namespace Go.Proofs.YbyabwGreat
open Go.RowKit
set_option linter.unusedVariables false
structure LenW (c : Col) : Prop where
  plain : c.plain.length < 2 ^ 45
  dict : c.dict.length < 2 ^ 45
  codes : c.codes.length < 2 ^ 45
  runs : c.runs.length < 2 ^ 45
/-- A slice of columns as it is read, no bound on the lengths but the memory's own. -/
def ColsAtW (w : World) (a : Option Addr) (cs : List Col) : Prop := ∀ i, i < cs.length → ∃ b off a1 a2 a3 a4 c1 c2 c3 c4, a = some ⟨b, off, none⟩ ∧
  (w.cell? ⟨b, off + i * 5, none⟩ = some (.int .i64 (cs.getD i col0).kind) ∧ w.cell? ⟨b, off + i * 5 + 1, none⟩ = some (.slice a1 (cs.getD i col0).plain.length c1) ∧ w.cell? ⟨b, off + i * 5 + 2, none⟩ = some (.slice a2 (cs.getD i col0).dict.length c2) ∧
   w.cell? ⟨b, off + i * 5 + 3, none⟩ = some (.slice a3 (cs.getD i col0).codes.length c3) ∧ w.cell? ⟨b, off + i * 5 + 4, none⟩ = some (.slice a4 (cs.getD i col0).runs.length c4)) ∧
  ColAt w (cs.getD i col0) a1 a2 a3 a4 ∧ LenW (cs.getD i col0)
theorem ColsAtW.ext {w w' : World} {a : Option Addr} {cs : List Col} (h : ColsAtW w a cs) (he : Ext w w') : ColsAtW w' a cs := by
  intro i hi
  obtain ⟨b, off, a1, a2, a3, a4, c1, c2, c3, c4, e, ⟨h0, h1, h2, h3, h4⟩, hc, hl⟩ := h i hi
  exact ⟨b, off, a1, a2, a3, a4, c1, c2, c3, c4, e, ⟨he.cell h0, he.cell h1, he.cell h2, he.cell h3, he.cell h4⟩, hc.extC he, hl⟩
theorem ColsAtW.small {w : World} {a : Option Addr} {cs : List Col} (h : ColsAtW w a cs) (hl : ∀ i, i < cs.length → LenC (cs.getD i col0)) : ColsAt w a cs := by
  intro i hi
  obtain ⟨b, off, a1, a2, a3, a4, c1, c2, c3, c4, e, hcs, hc, _⟩ := h i hi
  have hl' := hl i hi
  exact ⟨b, off, a1, a2, a3, a4, c1, c2, c3, c4, e, hcs, hc, ⟨by have := hl'.plain; omega, by have := hl'.dict; omega, by have := hl'.codes; omega, by have := hl'.runs; omega⟩⟩
end Go.Proofs.YbyabwGreat
