/-
  No cell of these rows narrows 'for every input' (looked for: loops, veiled, ifaces, maps, wideKeys, modest, calm, conditions, laid).
  DERIVED. THE GIVEN ROWS OF THIS SEAT. 10 by the template 'for every input the law returns true; each argument reads behind the call as it read before'; 0 by the template 'total and deterministic' (their statements: YbyaawTotals.lean).
  GIVEN WITH THE SEED: the statements are not yours to turn. If you find one false, say at which input.
  Laid BY PROGRAM, IN A SANDBOX (cutbox-rows.mjs): the forced cells as the released guide's own fill.sh prints them over the translation c4209cda12043427… (all of the seat's roots in one cut). By AI agents, Wed Nov 11 2026. No macro, syntax, notation, axiom, sorry.
-/
import Derived.Test.YbyaawChecked
import GoSem.Claim
import GoSem.ClaimJoined
import GoSem.ClaimMapViews
import Derived.JoinedTies
import Derived.KernelRfl
namespace Go.Proofs.Ybyaaw
/- THE CELL 'sum', in the pinned program and in every row, IS THE sha256 OF THE DUMP (.gsa) THAT YbyaawProg.lean LOADS. Nothing in Lean hashes anything: it is a label: what it is worth is what the hold of that sum in a sandbox is worth. -/
noncomputable def Yaan.pinned : Pinned := { name := "ybyaaw", sum := "c4209cda12043427ffdb4f4ba4c4d8c359fa98d2a40bc32ff5cecea6546a86aa", checked := Yaan.checked }
namespace Rows
def none {H : Type} : Left H := { results := [], args := [] }

/-- 'laws.FnTokens': WHATEVER THE INPUT: true; the input reads as it did. -/
def fnTokensSpec : ChangeSpec := { name := "fnTokens", fn := fun _ => fun
  | [d1, d2] => { results := [.lit (.bool true)], args := [d1, d2] }
  | _ => none }
def fnTokensRow : OpenClaim := { program := "ybyaaw", sum := "c4209cda12043427ffdb4f4ba4c4d8c359fa98d2a40bc32ff5cecea6546a86aa", func := "loop.example/c035/laws.FnTokens", spec := "fnTokens", apart := false }
def FnTokensSaid : Prop := fnTokensRow.holds Yaan.pinned (OpenSpec.ofChange fnTokensSpec)

/-- ITS FALSE NEIGHBOUR: 'it returns false'. Refute it at one input. -/
def fnTokensWrong : ChangeSpec := { name := "fnTokens", fn := fun _ => fun
  | [d1, d2] => { results := [.lit (.bool false)], args := [d1, d2] }
  | _ => none }
def FnTokensWrongFalsely : Prop := fnTokensRow.holds Yaan.pinned (OpenSpec.ofChange fnTokensWrong)

/-- 'laws.FnParse': WHATEVER THE INPUT: true; the input reads as it did. -/
def fnParseSpec : ChangeSpec := { name := "fnParse", fn := fun _ => fun
  | [d1, d2] => { results := [.lit (.bool true)], args := [d1, d2] }
  | _ => none }
def fnParseRow : OpenClaim := { program := "ybyaaw", sum := "c4209cda12043427ffdb4f4ba4c4d8c359fa98d2a40bc32ff5cecea6546a86aa", func := "loop.example/c035/laws.FnParse", spec := "fnParse", recurses := true, apart := false }
def FnParseSaid : Prop := fnParseRow.holds Yaan.pinned (OpenSpec.ofChange fnParseSpec)

/-- ITS FALSE NEIGHBOUR: 'it returns false'. Refute it at one input. -/
def fnParseWrong : ChangeSpec := { name := "fnParse", fn := fun _ => fun
  | [d1, d2] => { results := [.lit (.bool false)], args := [d1, d2] }
  | _ => none }
def FnParseWrongFalsely : Prop := fnParseRow.holds Yaan.pinned (OpenSpec.ofChange fnParseWrong)

/-- 'laws.FnParseDepth': WHATEVER THE INPUT: true; the input reads as it did. -/
def fnParseDepthSpec : ChangeSpec := { name := "fnParseDepth", fn := fun _ => fun
  | [d1, d2] => { results := [.lit (.bool true)], args := [d1, d2] }
  | _ => none }
def fnParseDepthRow : OpenClaim := { program := "ybyaaw", sum := "c4209cda12043427ffdb4f4ba4c4d8c359fa98d2a40bc32ff5cecea6546a86aa", func := "loop.example/c035/laws.FnParseDepth", spec := "fnParseDepth", recurses := true, apart := false }
def FnParseDepthSaid : Prop := fnParseDepthRow.holds Yaan.pinned (OpenSpec.ofChange fnParseDepthSpec)

/-- ITS FALSE NEIGHBOUR: 'it returns false'. Refute it at one input. -/
def fnParseDepthWrong : ChangeSpec := { name := "fnParseDepth", fn := fun _ => fun
  | [d1, d2] => { results := [.lit (.bool false)], args := [d1, d2] }
  | _ => none }
def FnParseDepthWrongFalsely : Prop := fnParseDepthRow.holds Yaan.pinned (OpenSpec.ofChange fnParseDepthWrong)

/-- 'laws.FnEncodeRound': WHATEVER THE INPUT: true; the input reads as it did. -/
def fnEncodeRoundSpec : ChangeSpec := { name := "fnEncodeRound", fn := fun _ => fun
  | [d1, d2] => { results := [.lit (.bool true)], args := [d1, d2] }
  | _ => none }
def fnEncodeRoundRow : OpenClaim := { program := "ybyaaw", sum := "c4209cda12043427ffdb4f4ba4c4d8c359fa98d2a40bc32ff5cecea6546a86aa", func := "loop.example/c035/laws.FnEncodeRound", spec := "fnEncodeRound", apart := false }
def FnEncodeRoundSaid : Prop := fnEncodeRoundRow.holds Yaan.pinned (OpenSpec.ofChange fnEncodeRoundSpec)

/-- ITS FALSE NEIGHBOUR: 'it returns false'. Refute it at one input. -/
def fnEncodeRoundWrong : ChangeSpec := { name := "fnEncodeRound", fn := fun _ => fun
  | [d1, d2] => { results := [.lit (.bool false)], args := [d1, d2] }
  | _ => none }
def FnEncodeRoundWrongFalsely : Prop := fnEncodeRoundRow.holds Yaan.pinned (OpenSpec.ofChange fnEncodeRoundWrong)

/-- 'laws.FnDecodeColumn': WHATEVER THE INPUT: true; the input reads as it did. -/
def fnDecodeColumnSpec : ChangeSpec := { name := "fnDecodeColumn", fn := fun _ => fun
  | [d1, d2, d3, d4, d5, d6, d7] => { results := [.lit (.bool true)], args := [d1, d2, d3, d4, d5, d6, d7] }
  | _ => none }
def fnDecodeColumnRow : OpenClaim := { program := "ybyaaw", sum := "c4209cda12043427ffdb4f4ba4c4d8c359fa98d2a40bc32ff5cecea6546a86aa", func := "loop.example/c035/laws.FnDecodeColumn", spec := "fnDecodeColumn", apart := false }
def FnDecodeColumnSaid : Prop := fnDecodeColumnRow.holds Yaan.pinned (OpenSpec.ofChange fnDecodeColumnSpec)

/-- ITS FALSE NEIGHBOUR: 'it returns false'. Refute it at one input. -/
def fnDecodeColumnWrong : ChangeSpec := { name := "fnDecodeColumn", fn := fun _ => fun
  | [d1, d2, d3, d4, d5, d6, d7] => { results := [.lit (.bool false)], args := [d1, d2, d3, d4, d5, d6, d7] }
  | _ => none }
def FnDecodeColumnWrongFalsely : Prop := fnDecodeColumnRow.holds Yaan.pinned (OpenSpec.ofChange fnDecodeColumnWrong)

/-- 'laws.FnTable': WHATEVER THE INPUT: true; the input reads as it did. -/
def fnTableSpec : ChangeSpec := { name := "fnTable", fn := fun _ => fun
  | [d1, d2, d3] => { results := [.lit (.bool true)], args := [d1, d2, d3] }
  | _ => none }
def fnTableRow : OpenClaim := { program := "ybyaaw", sum := "c4209cda12043427ffdb4f4ba4c4d8c359fa98d2a40bc32ff5cecea6546a86aa", func := "loop.example/c035/laws.FnTable", spec := "fnTable", apart := false }
def FnTableSaid : Prop := fnTableRow.holds Yaan.pinned (OpenSpec.ofChange fnTableSpec)

/-- ITS FALSE NEIGHBOUR: 'it returns false'. Refute it at one input. -/
def fnTableWrong : ChangeSpec := { name := "fnTable", fn := fun _ => fun
  | [d1, d2, d3] => { results := [.lit (.bool false)], args := [d1, d2, d3] }
  | _ => none }
def FnTableWrongFalsely : Prop := fnTableRow.holds Yaan.pinned (OpenSpec.ofChange fnTableWrong)

/-- 'laws.FnCompile': WHATEVER THE INPUT: true; the input reads as it did. -/
def fnCompileSpec : ChangeSpec := { name := "fnCompile", fn := fun _ => fun
  | [d1, d2, d3] => { results := [.lit (.bool true)], args := [d1, d2, d3] }
  | _ => none }
def fnCompileRow : OpenClaim := { program := "ybyaaw", sum := "c4209cda12043427ffdb4f4ba4c4d8c359fa98d2a40bc32ff5cecea6546a86aa", func := "loop.example/c035/laws.FnCompile", spec := "fnCompile", recurses := true, apart := false }
def FnCompileSaid : Prop := fnCompileRow.holds Yaan.pinned (OpenSpec.ofChange fnCompileSpec)

/-- ITS FALSE NEIGHBOUR: 'it returns false'. Refute it at one input. -/
def fnCompileWrong : ChangeSpec := { name := "fnCompile", fn := fun _ => fun
  | [d1, d2, d3] => { results := [.lit (.bool false)], args := [d1, d2, d3] }
  | _ => none }
def FnCompileWrongFalsely : Prop := fnCompileRow.holds Yaan.pinned (OpenSpec.ofChange fnCompileWrong)

/-- 'laws.FnColumnSelect': WHATEVER THE INPUT: true; the input reads as it did. -/
def fnColumnSelectSpec : ChangeSpec := { name := "fnColumnSelect", fn := fun _ => fun
  | [d1, d2, d3, d4] => { results := [.lit (.bool true)], args := [d1, d2, d3, d4] }
  | _ => none }
def fnColumnSelectRow : OpenClaim := { program := "ybyaaw", sum := "c4209cda12043427ffdb4f4ba4c4d8c359fa98d2a40bc32ff5cecea6546a86aa", func := "loop.example/c035/laws.FnColumnSelect", spec := "fnColumnSelect", apart := false }
def FnColumnSelectSaid : Prop := fnColumnSelectRow.holds Yaan.pinned (OpenSpec.ofChange fnColumnSelectSpec)

/-- ITS FALSE NEIGHBOUR: 'it returns false'. Refute it at one input. -/
def fnColumnSelectWrong : ChangeSpec := { name := "fnColumnSelect", fn := fun _ => fun
  | [d1, d2, d3, d4] => { results := [.lit (.bool false)], args := [d1, d2, d3, d4] }
  | _ => none }
def FnColumnSelectWrongFalsely : Prop := fnColumnSelectRow.holds Yaan.pinned (OpenSpec.ofChange fnColumnSelectWrong)

/-- 'laws.FnSelectProject': WHATEVER THE INPUT: true; the input reads as it did. -/
def fnSelectProjectSpec : ChangeSpec := { name := "fnSelectProject", fn := fun _ => fun
  | [d1, d2, d3, d4] => { results := [.lit (.bool true)], args := [d1, d2, d3, d4] }
  | _ => none }
def fnSelectProjectRow : OpenClaim := { program := "ybyaaw", sum := "c4209cda12043427ffdb4f4ba4c4d8c359fa98d2a40bc32ff5cecea6546a86aa", func := "loop.example/c035/laws.FnSelectProject", spec := "fnSelectProject", recurses := true, apart := false }
def FnSelectProjectSaid : Prop := fnSelectProjectRow.holds Yaan.pinned (OpenSpec.ofChange fnSelectProjectSpec)

/-- ITS FALSE NEIGHBOUR: 'it returns false'. Refute it at one input. -/
def fnSelectProjectWrong : ChangeSpec := { name := "fnSelectProject", fn := fun _ => fun
  | [d1, d2, d3, d4] => { results := [.lit (.bool false)], args := [d1, d2, d3, d4] }
  | _ => none }
def FnSelectProjectWrongFalsely : Prop := fnSelectProjectRow.holds Yaan.pinned (OpenSpec.ofChange fnSelectProjectWrong)

/-- 'laws.FnGroupRows': WHATEVER THE INPUT: true; the input reads as it did. -/
def fnGroupRowsSpec : ChangeSpec := { name := "fnGroupRows", fn := fun _ => fun
  | [d1, d2, d3, d4] => { results := [.lit (.bool true)], args := [d1, d2, d3, d4] }
  | _ => none }
def fnGroupRowsRow : OpenClaim := { program := "ybyaaw", sum := "c4209cda12043427ffdb4f4ba4c4d8c359fa98d2a40bc32ff5cecea6546a86aa", func := "loop.example/c035/laws.FnGroupRows", spec := "fnGroupRows", recurses := true, apart := false }
def FnGroupRowsSaid : Prop := fnGroupRowsRow.holds Yaan.pinned (OpenSpec.ofChange fnGroupRowsSpec)

/-- ITS FALSE NEIGHBOUR: 'it returns false'. Refute it at one input. -/
def fnGroupRowsWrong : ChangeSpec := { name := "fnGroupRows", fn := fun _ => fun
  | [d1, d2, d3, d4] => { results := [.lit (.bool false)], args := [d1, d2, d3, d4] }
  | _ => none }
def FnGroupRowsWrongFalsely : Prop := fnGroupRowsRow.holds Yaan.pinned (OpenSpec.ofChange fnGroupRowsWrong)

end Rows
end Go.Proofs.Ybyaaw
