/-
  No cell of these rows narrows 'for every input' (looked for: loops, veiled, ifaces, maps, wideKeys, modest, calm, conditions, laid).
  DERIVED. THE GIVEN ROWS OF THIS SEAT. 8 by the template 'for every input the law returns true; each argument reads behind the call as it read before'; 0 by the template 'total and deterministic' (their statements: YbyacwTotals.lean).
  GIVEN WITH THE SEED: the statements are not yours to turn. If you find one false, say at which input.
  Laid BY PROGRAM, IN A SANDBOX (cutbox-rows.mjs): the forced cells as the released guide's own fill.sh prints them over the translation 03e6112281c972d3… (all of the seat's roots in one cut). By AI agents, Wed Nov 11 2026. No macro, syntax, notation, axiom, sorry.
-/
import Derived.Test.YbyacwChecked
import GoSem.Claim
import GoSem.ClaimJoined
import GoSem.ClaimMapViews
import Derived.JoinedTies
import Derived.KernelRfl
namespace Go.Proofs.Ybyacw
/- THE CELL 'sum', in the pinned program and in every row, IS THE sha256 OF THE DUMP (.gsa) THAT YbyacwProg.lean LOADS. Nothing in Lean hashes anything: it is a label: what it is worth is what the hold of that sum in a sandbox is worth. -/
noncomputable def Yacn.pinned : Pinned := { name := "ybyacw", sum := "03e6112281c972d37cd62726fd88947119e6a1c1701fc02c3d8194e48d163ab9", checked := Yacn.checked }
namespace Rows
def none {H : Type} : Left H := { results := [], args := [] }

/-- 'laws.FnExactEvalRow': WHATEVER THE INPUT: true; the input reads as it did. -/
def fnExactEvalRowSpec : ChangeSpec := { name := "fnExactEvalRow", fn := fun _ => fun
  | [d1, d2, d3] => { results := [.lit (.bool true)], args := [d1, d2, d3] }
  | _ => none }
def fnExactEvalRowRow : OpenClaim := { program := "ybyacw", sum := "03e6112281c972d37cd62726fd88947119e6a1c1701fc02c3d8194e48d163ab9", func := "loop.example/c035/laws.FnExactEvalRow", spec := "fnExactEvalRow", apart := false }
def FnExactEvalRowSaid : Prop := fnExactEvalRowRow.holds Yacn.pinned (OpenSpec.ofChange fnExactEvalRowSpec)

/-- ITS FALSE NEIGHBOUR: 'it returns false'. Refute it at one input. -/
def fnExactEvalRowWrong : ChangeSpec := { name := "fnExactEvalRow", fn := fun _ => fun
  | [d1, d2, d3] => { results := [.lit (.bool false)], args := [d1, d2, d3] }
  | _ => none }
def FnExactEvalRowWrongFalsely : Prop := fnExactEvalRowRow.holds Yacn.pinned (OpenSpec.ofChange fnExactEvalRowWrong)

/-- 'laws.FnExactCompile': WHATEVER THE INPUT: true; the input reads as it did. -/
def fnExactCompileSpec : ChangeSpec := { name := "fnExactCompile", fn := fun _ => fun
  | [d1, d2] => { results := [.lit (.bool true)], args := [d1, d2] }
  | _ => none }
def fnExactCompileRow : OpenClaim := { program := "ybyacw", sum := "03e6112281c972d37cd62726fd88947119e6a1c1701fc02c3d8194e48d163ab9", func := "loop.example/c035/laws.FnExactCompile", spec := "fnExactCompile", recurses := true, apart := false }
def FnExactCompileSaid : Prop := fnExactCompileRow.holds Yacn.pinned (OpenSpec.ofChange fnExactCompileSpec)

/-- ITS FALSE NEIGHBOUR: 'it returns false'. Refute it at one input. -/
def fnExactCompileWrong : ChangeSpec := { name := "fnExactCompile", fn := fun _ => fun
  | [d1, d2] => { results := [.lit (.bool false)], args := [d1, d2] }
  | _ => none }
def FnExactCompileWrongFalsely : Prop := fnExactCompileRow.holds Yacn.pinned (OpenSpec.ofChange fnExactCompileWrong)

/-- 'laws.FnExactValidPlan': WHATEVER THE INPUT: true; the input reads as it did. -/
def fnExactValidPlanSpec : ChangeSpec := { name := "fnExactValidPlan", fn := fun _ => fun
  | [d] => { results := [.lit (.bool true)], args := [d] }
  | _ => none }
def fnExactValidPlanRow : OpenClaim := { program := "ybyacw", sum := "03e6112281c972d37cd62726fd88947119e6a1c1701fc02c3d8194e48d163ab9", func := "loop.example/c035/laws.FnExactValidPlan", spec := "fnExactValidPlan", apart := false }
def FnExactValidPlanSaid : Prop := fnExactValidPlanRow.holds Yacn.pinned (OpenSpec.ofChange fnExactValidPlanSpec)

/-- ITS FALSE NEIGHBOUR: 'it returns false'. Refute it at one input. -/
def fnExactValidPlanWrong : ChangeSpec := { name := "fnExactValidPlan", fn := fun _ => fun
  | [d] => { results := [.lit (.bool false)], args := [d] }
  | _ => none }
def FnExactValidPlanWrongFalsely : Prop := fnExactValidPlanRow.holds Yacn.pinned (OpenSpec.ofChange fnExactValidPlanWrong)

/-- 'laws.FnExactColumnSelect': WHATEVER THE INPUT: true; the input reads as it did. -/
def fnExactColumnSelectSpec : ChangeSpec := { name := "fnExactColumnSelect", fn := fun _ => fun
  | [d1, d2, d3, d4] => { results := [.lit (.bool true)], args := [d1, d2, d3, d4] }
  | _ => none }
def fnExactColumnSelectRow : OpenClaim := { program := "ybyacw", sum := "03e6112281c972d37cd62726fd88947119e6a1c1701fc02c3d8194e48d163ab9", func := "loop.example/c035/laws.FnExactColumnSelect", spec := "fnExactColumnSelect", apart := false }
def FnExactColumnSelectSaid : Prop := fnExactColumnSelectRow.holds Yacn.pinned (OpenSpec.ofChange fnExactColumnSelectSpec)

/-- ITS FALSE NEIGHBOUR: 'it returns false'. Refute it at one input. -/
def fnExactColumnSelectWrong : ChangeSpec := { name := "fnExactColumnSelect", fn := fun _ => fun
  | [d1, d2, d3, d4] => { results := [.lit (.bool false)], args := [d1, d2, d3, d4] }
  | _ => none }
def FnExactColumnSelectWrongFalsely : Prop := fnExactColumnSelectRow.holds Yacn.pinned (OpenSpec.ofChange fnExactColumnSelectWrong)

/-- 'laws.FnExactSelect': WHATEVER THE INPUT: true; the input reads as it did. -/
def fnExactSelectSpec : ChangeSpec := { name := "fnExactSelect", fn := fun _ => fun
  | [d1, d2] => { results := [.lit (.bool true)], args := [d1, d2] }
  | _ => none }
def fnExactSelectRow : OpenClaim := { program := "ybyacw", sum := "03e6112281c972d37cd62726fd88947119e6a1c1701fc02c3d8194e48d163ab9", func := "loop.example/c035/laws.FnExactSelect", spec := "fnExactSelect", apart := false }
def FnExactSelectSaid : Prop := fnExactSelectRow.holds Yacn.pinned (OpenSpec.ofChange fnExactSelectSpec)

/-- ITS FALSE NEIGHBOUR: 'it returns false'. Refute it at one input. -/
def fnExactSelectWrong : ChangeSpec := { name := "fnExactSelect", fn := fun _ => fun
  | [d1, d2] => { results := [.lit (.bool false)], args := [d1, d2] }
  | _ => none }
def FnExactSelectWrongFalsely : Prop := fnExactSelectRow.holds Yacn.pinned (OpenSpec.ofChange fnExactSelectWrong)

/-- 'laws.FnExactProject': WHATEVER THE INPUT: true; the input reads as it did. -/
def fnExactProjectSpec : ChangeSpec := { name := "fnExactProject", fn := fun _ => fun
  | [d1, d2, d3, d4] => { results := [.lit (.bool true)], args := [d1, d2, d3, d4] }
  | _ => none }
def fnExactProjectRow : OpenClaim := { program := "ybyacw", sum := "03e6112281c972d37cd62726fd88947119e6a1c1701fc02c3d8194e48d163ab9", func := "loop.example/c035/laws.FnExactProject", spec := "fnExactProject", apart := false }
def FnExactProjectSaid : Prop := fnExactProjectRow.holds Yacn.pinned (OpenSpec.ofChange fnExactProjectSpec)

/-- ITS FALSE NEIGHBOUR: 'it returns false'. Refute it at one input. -/
def fnExactProjectWrong : ChangeSpec := { name := "fnExactProject", fn := fun _ => fun
  | [d1, d2, d3, d4] => { results := [.lit (.bool false)], args := [d1, d2, d3, d4] }
  | _ => none }
def FnExactProjectWrongFalsely : Prop := fnExactProjectRow.holds Yacn.pinned (OpenSpec.ofChange fnExactProjectWrong)

/-- 'laws.FnExactGroupRows': WHATEVER THE INPUT: true; the input reads as it did. -/
def fnExactGroupRowsSpec : ChangeSpec := { name := "fnExactGroupRows", fn := fun _ => fun
  | [d1, d2, d3] => { results := [.lit (.bool true)], args := [d1, d2, d3] }
  | _ => none }
def fnExactGroupRowsRow : OpenClaim := { program := "ybyacw", sum := "03e6112281c972d37cd62726fd88947119e6a1c1701fc02c3d8194e48d163ab9", func := "loop.example/c035/laws.FnExactGroupRows", spec := "fnExactGroupRows", apart := false }
def FnExactGroupRowsSaid : Prop := fnExactGroupRowsRow.holds Yacn.pinned (OpenSpec.ofChange fnExactGroupRowsSpec)

/-- ITS FALSE NEIGHBOUR: 'it returns false'. Refute it at one input. -/
def fnExactGroupRowsWrong : ChangeSpec := { name := "fnExactGroupRows", fn := fun _ => fun
  | [d1, d2, d3] => { results := [.lit (.bool false)], args := [d1, d2, d3] }
  | _ => none }
def FnExactGroupRowsWrongFalsely : Prop := fnExactGroupRowsRow.holds Yacn.pinned (OpenSpec.ofChange fnExactGroupRowsWrong)

/-- 'laws.FnExactRunPlan': WHATEVER THE INPUT: true; the input reads as it did. -/
def fnExactRunPlanSpec : ChangeSpec := { name := "fnExactRunPlan", fn := fun _ => fun
  | [d1, d2] => { results := [.lit (.bool true)], args := [d1, d2] }
  | _ => none }
def fnExactRunPlanRow : OpenClaim := { program := "ybyacw", sum := "03e6112281c972d37cd62726fd88947119e6a1c1701fc02c3d8194e48d163ab9", func := "loop.example/c035/laws.FnExactRunPlan", spec := "fnExactRunPlan", apart := false }
def FnExactRunPlanSaid : Prop := fnExactRunPlanRow.holds Yacn.pinned (OpenSpec.ofChange fnExactRunPlanSpec)

/-- ITS FALSE NEIGHBOUR: 'it returns false'. Refute it at one input. -/
def fnExactRunPlanWrong : ChangeSpec := { name := "fnExactRunPlan", fn := fun _ => fun
  | [d1, d2] => { results := [.lit (.bool false)], args := [d1, d2] }
  | _ => none }
def FnExactRunPlanWrongFalsely : Prop := fnExactRunPlanRow.holds Yacn.pinned (OpenSpec.ofChange fnExactRunPlanWrong)

end Rows
end Go.Proofs.Ybyacw
