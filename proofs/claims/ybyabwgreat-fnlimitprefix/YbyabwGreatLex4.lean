/- The two tokenizers, at every text -/
import Derived.Test.YbyabwGreatLex2
import Derived.Test.YbyabwGreatLex3
namespace Go.Proofs.YbyabwGreat
open Go.RowKit
set_option linter.unusedVariables false
theorem TokenizeAll (s : ByteArray) (R : Option (List (Int × Int))) (hR : tokens s = R) (w : World) : Calls Yabn.prog 34 #[.string s] w (RetToks R w) := by
  subst hR
  by_cases h : 65536 < (s.size : Int)
  · exact Tokenize_big s w h
  · exact Tokenize_main s w h
theorem RefTokenizeAll (s : ByteArray) (R : Option (List (Int × Int))) (hR : tokens s = R) (w : World) : Calls Yabn.prog 53 #[.string s] w (RetToks R w) := by
  subst hR
  by_cases h : 65536 < (s.size : Int)
  · exact RefTokenize_big s w h
  · exact RefTokenize_main s w h
end Go.Proofs.YbyabwGreat
