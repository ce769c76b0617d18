/- Walk: impl.sortInt64 -/
import Derived.Test.YbyabwGreatFrame
import Derived.Test.YbyabwGreatCol2
import Derived.Test.YbyabwGreatDraw
import Derived.Test.YbyabwGreatPlainSort
namespace Go.Proofs.YbyabwGreat
open Go.RowKit
set_option maxRecDepth 100000
set_option linter.unusedVariables false

def RetSort (xs : List Int) (w : World) : Ending → World → Prop := fun en w' => ∃ S a cap, en = .returned (.slice a xs.length cap) ∧ OwnI w' w.heap.size 2 (.slice a xs.length cap) S ∧ SortedOf xs S ∧ Ext w w'

/-- What the inner loop holds of the row that is being filled. -/
def Fill (S D E : List Int) (lo mid hi i j k n : Nat) : Prop := MInv S E lo mid hi i j k ∧ E.length = n ∧ ∀ p, p < lo → E.getD p 0 = D.getD p 0
theorem Fill.left {S D E : List Int} {lo mid hi i j k n : Nat} (h : Fill S D E lo mid hi i j k n) (hk : k < n) (hi' : i < mid) (hS : SegUp S lo mid) (hc : hi ≤ j ∨ S.getD i 0 ≤ S.getD j 0) : Fill S D (E.set k (S.getD i 0)) lo mid hi (i + 1) j (k + 1) n :=
  ⟨h.1.left (by rw [h.2.1]; exact hk) hi' hS hc, by rw [List.length_set]; exact h.2.1, fun p hp => by
    rw [getD_set E k _ (by rw [h.2.1]; exact hk), if_neg, h.2.2 p hp]
    have := h.1.kk; have := h.1.i0; have := h.1.j0
    omega⟩
theorem Fill.right {S D E : List Int} {lo mid hi i j k n : Nat} (h : Fill S D E lo mid hi i j k n) (hk : k < n) (hj : j < hi) (hS : SegUp S mid hi) (hc : mid ≤ i ∨ S.getD j 0 ≤ S.getD i 0) : Fill S D (E.set k (S.getD j 0)) lo mid hi i (j + 1) (k + 1) n :=
  ⟨h.1.right (by rw [h.2.1]; exact hk) hj hS hc, by rw [List.length_set]; exact h.2.1, fun p hp => by
    rw [getD_set E k _ (by rw [h.2.1]; exact hk), if_neg, h.2.2 p hp]
    have := h.1.kk; have := h.1.i0; have := h.1.j0
    omega⟩


end Go.Proofs.YbyabwGreat
