/-
  No cell of these rows narrows 'for every input' (looked for: loops, veiled, ifaces, maps, wideKeys, modest, calm, conditions, laid).
  DERIVED. THE GIVEN ROWS OF THIS SEAT. 1 by the template 'for every input the law returns true; each argument reads behind the call as it read before'; 0 by the template 'total and deterministic' (their statements: YbyabwGreatTotals.lean).
  GIVEN WITH THE SEED: the statements are not yours to turn. If you find one false, say at which input.
  Laid BY PROGRAM, IN A SANDBOX (cutbox-rows.mjs): the forced cells as the released guide's own fill.sh prints them over the translation aaeac237e27674a5… (all of the seat's roots in one cut). By AI agents, Wed Nov 11 2026. No macro, syntax, notation, axiom, sorry.
-/
import Derived.Test.YbyabwGreatChecked
import GoSem.Claim
import GoSem.ClaimJoined
import GoSem.ClaimMapViews
import Derived.JoinedTies
import Derived.KernelRfl
namespace Go.Proofs.YbyabwGreat
/- THE CELL 'sum', in the pinned program and in every row, IS THE sha256 OF THE DUMP (.gsa) THAT YbyabwGreatProg.lean LOADS. Nothing in Lean hashes anything: it is a label: what it is worth is what the hold of that sum in a sandbox is worth. -/
noncomputable def Yabn.pinned : Pinned := { name := "ybyabwgreat", sum := "aaeac237e27674a57ea6e5c7fe2c1d780ed572f2f4b5928adbb5ab610d1a202a", checked := Yabn.checked }
namespace Rows
def none {H : Type} : Left H := { results := [], args := [] }

/-- 'laws.FnLimitPrefix': WHATEVER THE INPUT: true; the input reads as it did. -/
def fnLimitPrefixSpec : ChangeSpec := { name := "fnLimitPrefix", fn := fun _ => fun
  | [d1, d2, d3, d4] => { results := [.lit (.bool true)], args := [d1, d2, d3, d4] }
  | _ => none }
def fnLimitPrefixRow : OpenClaim := { program := "ybyabwgreat", sum := "aaeac237e27674a57ea6e5c7fe2c1d780ed572f2f4b5928adbb5ab610d1a202a", func := "loop.example/c035/laws.FnLimitPrefix", spec := "fnLimitPrefix", recurses := true, apart := false }
def FnLimitPrefixSaid : Prop := fnLimitPrefixRow.holds Yabn.pinned (OpenSpec.ofChange fnLimitPrefixSpec)

/-- ITS FALSE NEIGHBOUR: 'it returns false'. Refute it at one input. -/
def fnLimitPrefixWrong : ChangeSpec := { name := "fnLimitPrefix", fn := fun _ => fun
  | [d1, d2, d3, d4] => { results := [.lit (.bool false)], args := [d1, d2, d3, d4] }
  | _ => none }
def FnLimitPrefixWrongFalsely : Prop := fnLimitPrefixRow.holds Yabn.pinned (OpenSpec.ofChange fnLimitPrefixWrong)

end Rows
end Go.Proofs.YbyabwGreat
