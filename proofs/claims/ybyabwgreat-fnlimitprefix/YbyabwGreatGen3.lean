/- Walk: spec.TokensFrom -/
import Derived.Test.YbyabwGreatGen2
import Derived.Test.YbyabwGreatGenP
namespace Go.Proofs.YbyabwGreat
open Go.RowKit
set_option maxRecDepth 100000
set_option linter.unusedVariables false

/-! ### TokensFrom -/
def RetTF (n : Nat) (w : World) : Ending → World → Prop := fun en w' => ∃ (ts : List (Int × Int)) (a : Option Addr) (cap : Nat), en = .returned (.slice a ts.length cap) ∧ ts.length ≤ n ∧ (∀ t ∈ ts, TokOK t) ∧ OwnP w' w.heap.size 95 (.slice a ts.length cap) ts ∧ Ext w w'

def posOf (w : World) (S : Nat) : Nat := (intOf ((w.cell? ⟨S, 1, none⟩).getD undef)).toNat
theorem SrcAt.posOf {w : World} {S : Nat} {a : Option Addr} {c : Nat} {zs : List Int} {pos : Nat} (h : SrcAt w S a c zs pos) : posOf w S = pos := by
  unfold Go.Proofs.YbyabwGreat.posOf
  rw [h.blk.box 1 _ rfl]
  simp [intOf]

end Go.Proofs.YbyabwGreat
