/-
  No cell of these rows narrows 'for every input' (looked for: loops, veiled, ifaces, maps, wideKeys, modest, calm, conditions, laid).
  DERIVED. THE GIVEN ROWS OF THIS SEAT. 2 by the template 'for every input the law returns true; each argument reads behind the call as it read before'; 0 by the template 'total and deterministic' (their statements: YbyaawGreatTotals.lean).
  GIVEN WITH THE SEED: the statements are not yours to turn. If you find one false, say at which input.
  Laid BY PROGRAM, IN A SANDBOX (cutbox-rows.mjs): the forced cells as the released guide's own fill.sh prints them over the translation 79f0460518b099a1… (all of the seat's roots in one cut). By AI agents, Wed Nov 11 2026. No macro, syntax, notation, axiom, sorry.
-/
import Derived.Test.YbyaawGreatChecked
import GoSem.Claim
import GoSem.ClaimJoined
import GoSem.ClaimMapViews
import Derived.JoinedTies
import Derived.KernelRfl
namespace Go.Proofs.YbyaawGreat
/- THE CELL 'sum', in the pinned program and in every row, IS THE sha256 OF THE DUMP (.gsa) THAT YbyaawGreatProg.lean LOADS. Nothing in Lean hashes anything: it is a label: what it is worth is what the hold of that sum in a sandbox is worth. -/
noncomputable def Yaan.pinned : Pinned := { name := "ybyaawgreat", sum := "79f0460518b099a1d0cdc16ffbe6a3c424f9da12ac2490e54f927494c715bd40", checked := Yaan.checked }
namespace Rows
def none {H : Type} : Left H := { results := [], args := [] }

/-- 'laws.FnTop': WHATEVER THE INPUT: true; the input reads as it did. -/
def fnTopSpec : ChangeSpec := { name := "fnTop", fn := fun _ => fun
  | [d1, d2, d3, d4] => { results := [.lit (.bool true)], args := [d1, d2, d3, d4] }
  | _ => none }
def fnTopRow : OpenClaim := { program := "ybyaawgreat", sum := "79f0460518b099a1d0cdc16ffbe6a3c424f9da12ac2490e54f927494c715bd40", func := "loop.example/c035/laws.FnTop", spec := "fnTop", recurses := true, apart := false }
def FnTopSaid : Prop := fnTopRow.holds Yaan.pinned (OpenSpec.ofChange fnTopSpec)

/-- ITS FALSE NEIGHBOUR: 'it returns false'. Refute it at one input. -/
def fnTopWrong : ChangeSpec := { name := "fnTop", fn := fun _ => fun
  | [d1, d2, d3, d4] => { results := [.lit (.bool false)], args := [d1, d2, d3, d4] }
  | _ => none }
def FnTopWrongFalsely : Prop := fnTopRow.holds Yaan.pinned (OpenSpec.ofChange fnTopWrong)

/-- 'laws.FnEncodingIndependent': WHATEVER THE INPUT: true; the input reads as it did. -/
def fnEncodingIndependentSpec : ChangeSpec := { name := "fnEncodingIndependent", fn := fun _ => fun
  | [d1, d2, d3, d4, d5, d6] => { results := [.lit (.bool true)], args := [d1, d2, d3, d4, d5, d6] }
  | _ => none }
def fnEncodingIndependentRow : OpenClaim := { program := "ybyaawgreat", sum := "79f0460518b099a1d0cdc16ffbe6a3c424f9da12ac2490e54f927494c715bd40", func := "loop.example/c035/laws.FnEncodingIndependent", spec := "fnEncodingIndependent", recurses := true, apart := false }
def FnEncodingIndependentSaid : Prop := fnEncodingIndependentRow.holds Yaan.pinned (OpenSpec.ofChange fnEncodingIndependentSpec)

/-- ITS FALSE NEIGHBOUR: 'it returns false'. Refute it at one input. -/
def fnEncodingIndependentWrong : ChangeSpec := { name := "fnEncodingIndependent", fn := fun _ => fun
  | [d1, d2, d3, d4, d5, d6] => { results := [.lit (.bool false)], args := [d1, d2, d3, d4, d5, d6] }
  | _ => none }
def FnEncodingIndependentWrongFalsely : Prop := fnEncodingIndependentRow.holds Yaan.pinned (OpenSpec.ofChange fnEncodingIndependentWrong)

end Rows
end Go.Proofs.YbyaawGreat
