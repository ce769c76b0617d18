/- The lengths of an encoded column. -/
import Derived.Test.YbyabwGreatColSep
import Derived.Test.YbyabwGreatImplDict
namespace Go.Proofs.YbyabwGreat
open Go.RowKit

theorem encOf_len (k : Int) (xs : List Int) : LenC (encOf k xs) := by
  unfold encOf
  split
  · exact ⟨by simp [col0], by simp [col0], by simp [col0], by simp [col0]⟩
  · rename_i h
    have h1 := dictOf_len xs
    have h2 := (rle_ok xs).len
    split
    · exact ⟨by simp [encP]; omega, by simp [encP], by simp [encP], by simp [encP]⟩
    split
    · exact ⟨by simp [encD], by simp [encD]; omega, by simp [encD]; omega, by simp [encD]⟩
    split
    · exact ⟨by simp [encR], by simp [encR], by simp [encR], by simp [encR]; omega⟩
    · exact ⟨by simp [col0], by simp [col0], by simp [col0], by simp [col0]⟩

end Go.Proofs.YbyabwGreat
