/-
  No cell of these rows narrows 'for every input' (looked for: loops, veiled, ifaces, maps, wideKeys, modest, calm, conditions, laid).
  DERIVED. THE GIVEN ROWS OF THIS SEAT. 11 by the template 'for every input the law returns true; each argument reads behind the call as it read before'; 0 by the template 'total and deterministic' (their statements: YbyabwTotals.lean).
  GIVEN WITH THE SEED: the statements are not yours to turn. If you find one false, say at which input.
  Laid BY PROGRAM, IN A SANDBOX (cutbox-rows.mjs): the forced cells as the released guide's own fill.sh prints them over the translation c5e1deacda18a785… (all of the seat's roots in one cut). By AI agents, Wed Nov 11 2026. No macro, syntax, notation, axiom, sorry.
-/
import Derived.Test.YbyabwChecked
import GoSem.Claim
import GoSem.ClaimJoined
import GoSem.ClaimMapViews
import Derived.JoinedTies
import Derived.KernelRfl
namespace Go.Proofs.Ybyabw
/- THE CELL 'sum', in the pinned program and in every row, IS THE sha256 OF THE DUMP (.gsa) THAT YbyabwProg.lean LOADS. Nothing in Lean hashes anything: it is a label: what it is worth is what the hold of that sum in a sandbox is worth. -/
noncomputable def Yabn.pinned : Pinned := { name := "ybyabw", sum := "c5e1deacda18a785a5e34e5390bced880aeddd682543974d3245d5dd7b45122e", checked := Yabn.checked }
namespace Rows
def none {H : Type} : Left H := { results := [], args := [] }

/-- 'laws.FnRobust': WHATEVER THE INPUT: true; the input reads as it did. -/
def fnRobustSpec : ChangeSpec := { name := "fnRobust", fn := fun _ => fun
  | [d1, d2, d3, d4, d5, d6] => { results := [.lit (.bool true)], args := [d1, d2, d3, d4, d5, d6] }
  | _ => none }
def fnRobustRow : OpenClaim := { program := "ybyabw", sum := "c5e1deacda18a785a5e34e5390bced880aeddd682543974d3245d5dd7b45122e", func := "loop.example/c035/laws.FnRobust", spec := "fnRobust", recurses := true, apart := false }
def FnRobustSaid : Prop := fnRobustRow.holds Yabn.pinned (OpenSpec.ofChange fnRobustSpec)

/-- ITS FALSE NEIGHBOUR: 'it returns false'. Refute it at one input. -/
def fnRobustWrong : ChangeSpec := { name := "fnRobust", fn := fun _ => fun
  | [d1, d2, d3, d4, d5, d6] => { results := [.lit (.bool false)], args := [d1, d2, d3, d4, d5, d6] }
  | _ => none }
def FnRobustWrongFalsely : Prop := fnRobustRow.holds Yabn.pinned (OpenSpec.ofChange fnRobustWrong)

/-- 'laws.FnExactConstants': WHATEVER THE INPUT: true; the input reads as it did. -/
def fnExactConstantsSpec : ChangeSpec := { name := "fnExactConstants", fn := fun _ => fun
  | [] => { results := [.lit (.bool true)], args := [] }
  | _ => none }
def fnExactConstantsRow : OpenClaim := { program := "ybyabw", sum := "c5e1deacda18a785a5e34e5390bced880aeddd682543974d3245d5dd7b45122e", func := "loop.example/c035/laws.FnExactConstants", spec := "fnExactConstants", apart := false }
def FnExactConstantsSaid : Prop := fnExactConstantsRow.holds Yabn.pinned (OpenSpec.ofChange fnExactConstantsSpec)

/-- ITS FALSE NEIGHBOUR: 'it returns false'. Refute it at one input. -/
def fnExactConstantsWrong : ChangeSpec := { name := "fnExactConstants", fn := fun _ => fun
  | [] => { results := [.lit (.bool false)], args := [] }
  | _ => none }
def FnExactConstantsWrongFalsely : Prop := fnExactConstantsRow.holds Yabn.pinned (OpenSpec.ofChange fnExactConstantsWrong)

/-- 'laws.FnExactEncodePlain': WHATEVER THE INPUT: true; the input reads as it did. -/
def fnExactEncodePlainSpec : ChangeSpec := { name := "fnExactEncodePlain", fn := fun _ => fun
  | [d] => { results := [.lit (.bool true)], args := [d] }
  | _ => none }
def fnExactEncodePlainRow : OpenClaim := { program := "ybyabw", sum := "c5e1deacda18a785a5e34e5390bced880aeddd682543974d3245d5dd7b45122e", func := "loop.example/c035/laws.FnExactEncodePlain", spec := "fnExactEncodePlain", apart := false }
def FnExactEncodePlainSaid : Prop := fnExactEncodePlainRow.holds Yabn.pinned (OpenSpec.ofChange fnExactEncodePlainSpec)

/-- ITS FALSE NEIGHBOUR: 'it returns false'. Refute it at one input. -/
def fnExactEncodePlainWrong : ChangeSpec := { name := "fnExactEncodePlain", fn := fun _ => fun
  | [d] => { results := [.lit (.bool false)], args := [d] }
  | _ => none }
def FnExactEncodePlainWrongFalsely : Prop := fnExactEncodePlainRow.holds Yabn.pinned (OpenSpec.ofChange fnExactEncodePlainWrong)

/-- 'laws.FnExactEncodeDict': WHATEVER THE INPUT: true; the input reads as it did. -/
def fnExactEncodeDictSpec : ChangeSpec := { name := "fnExactEncodeDict", fn := fun _ => fun
  | [d] => { results := [.lit (.bool true)], args := [d] }
  | _ => none }
def fnExactEncodeDictRow : OpenClaim := { program := "ybyabw", sum := "c5e1deacda18a785a5e34e5390bced880aeddd682543974d3245d5dd7b45122e", func := "loop.example/c035/laws.FnExactEncodeDict", spec := "fnExactEncodeDict", apart := false }
def FnExactEncodeDictSaid : Prop := fnExactEncodeDictRow.holds Yabn.pinned (OpenSpec.ofChange fnExactEncodeDictSpec)

/-- ITS FALSE NEIGHBOUR: 'it returns false'. Refute it at one input. -/
def fnExactEncodeDictWrong : ChangeSpec := { name := "fnExactEncodeDict", fn := fun _ => fun
  | [d] => { results := [.lit (.bool false)], args := [d] }
  | _ => none }
def FnExactEncodeDictWrongFalsely : Prop := fnExactEncodeDictRow.holds Yabn.pinned (OpenSpec.ofChange fnExactEncodeDictWrong)

/-- 'laws.FnExactEncodeRLE': WHATEVER THE INPUT: true; the input reads as it did. -/
def fnExactEncodeRLESpec : ChangeSpec := { name := "fnExactEncodeRLE", fn := fun _ => fun
  | [d] => { results := [.lit (.bool true)], args := [d] }
  | _ => none }
def fnExactEncodeRLERow : OpenClaim := { program := "ybyabw", sum := "c5e1deacda18a785a5e34e5390bced880aeddd682543974d3245d5dd7b45122e", func := "loop.example/c035/laws.FnExactEncodeRLE", spec := "fnExactEncodeRLE", apart := false }
def FnExactEncodeRLESaid : Prop := fnExactEncodeRLERow.holds Yabn.pinned (OpenSpec.ofChange fnExactEncodeRLESpec)

/-- ITS FALSE NEIGHBOUR: 'it returns false'. Refute it at one input. -/
def fnExactEncodeRLEWrong : ChangeSpec := { name := "fnExactEncodeRLE", fn := fun _ => fun
  | [d] => { results := [.lit (.bool false)], args := [d] }
  | _ => none }
def FnExactEncodeRLEWrongFalsely : Prop := fnExactEncodeRLERow.holds Yabn.pinned (OpenSpec.ofChange fnExactEncodeRLEWrong)

/-- 'laws.FnExactDecodeColumn': WHATEVER THE INPUT: true; the input reads as it did. -/
def fnExactDecodeColumnSpec : ChangeSpec := { name := "fnExactDecodeColumn", fn := fun _ => fun
  | [d1, d2] => { results := [.lit (.bool true)], args := [d1, d2] }
  | _ => none }
def fnExactDecodeColumnRow : OpenClaim := { program := "ybyabw", sum := "c5e1deacda18a785a5e34e5390bced880aeddd682543974d3245d5dd7b45122e", func := "loop.example/c035/laws.FnExactDecodeColumn", spec := "fnExactDecodeColumn", apart := false }
def FnExactDecodeColumnSaid : Prop := fnExactDecodeColumnRow.holds Yabn.pinned (OpenSpec.ofChange fnExactDecodeColumnSpec)

/-- ITS FALSE NEIGHBOUR: 'it returns false'. Refute it at one input. -/
def fnExactDecodeColumnWrong : ChangeSpec := { name := "fnExactDecodeColumn", fn := fun _ => fun
  | [d1, d2] => { results := [.lit (.bool false)], args := [d1, d2] }
  | _ => none }
def FnExactDecodeColumnWrongFalsely : Prop := fnExactDecodeColumnRow.holds Yabn.pinned (OpenSpec.ofChange fnExactDecodeColumnWrong)

/-- 'laws.FnExactValidTable': WHATEVER THE INPUT: true; the input reads as it did. -/
def fnExactValidTableSpec : ChangeSpec := { name := "fnExactValidTable", fn := fun _ => fun
  | [d] => { results := [.lit (.bool true)], args := [d] }
  | _ => none }
def fnExactValidTableRow : OpenClaim := { program := "ybyabw", sum := "c5e1deacda18a785a5e34e5390bced880aeddd682543974d3245d5dd7b45122e", func := "loop.example/c035/laws.FnExactValidTable", spec := "fnExactValidTable", apart := false }
def FnExactValidTableSaid : Prop := fnExactValidTableRow.holds Yabn.pinned (OpenSpec.ofChange fnExactValidTableSpec)

/-- ITS FALSE NEIGHBOUR: 'it returns false'. Refute it at one input. -/
def fnExactValidTableWrong : ChangeSpec := { name := "fnExactValidTable", fn := fun _ => fun
  | [d] => { results := [.lit (.bool false)], args := [d] }
  | _ => none }
def FnExactValidTableWrongFalsely : Prop := fnExactValidTableRow.holds Yabn.pinned (OpenSpec.ofChange fnExactValidTableWrong)

/-- 'laws.FnExactBuildTable': WHATEVER THE INPUT: true; the input reads as it did. -/
def fnExactBuildTableSpec : ChangeSpec := { name := "fnExactBuildTable", fn := fun _ => fun
  | [d1, d2] => { results := [.lit (.bool true)], args := [d1, d2] }
  | _ => none }
def fnExactBuildTableRow : OpenClaim := { program := "ybyabw", sum := "c5e1deacda18a785a5e34e5390bced880aeddd682543974d3245d5dd7b45122e", func := "loop.example/c035/laws.FnExactBuildTable", spec := "fnExactBuildTable", apart := false }
def FnExactBuildTableSaid : Prop := fnExactBuildTableRow.holds Yabn.pinned (OpenSpec.ofChange fnExactBuildTableSpec)

/-- ITS FALSE NEIGHBOUR: 'it returns false'. Refute it at one input. -/
def fnExactBuildTableWrong : ChangeSpec := { name := "fnExactBuildTable", fn := fun _ => fun
  | [d1, d2] => { results := [.lit (.bool false)], args := [d1, d2] }
  | _ => none }
def FnExactBuildTableWrongFalsely : Prop := fnExactBuildTableRow.holds Yabn.pinned (OpenSpec.ofChange fnExactBuildTableWrong)

/-- 'laws.FnExactDecodeTable': WHATEVER THE INPUT: true; the input reads as it did. -/
def fnExactDecodeTableSpec : ChangeSpec := { name := "fnExactDecodeTable", fn := fun _ => fun
  | [d] => { results := [.lit (.bool true)], args := [d] }
  | _ => none }
def fnExactDecodeTableRow : OpenClaim := { program := "ybyabw", sum := "c5e1deacda18a785a5e34e5390bced880aeddd682543974d3245d5dd7b45122e", func := "loop.example/c035/laws.FnExactDecodeTable", spec := "fnExactDecodeTable", apart := false }
def FnExactDecodeTableSaid : Prop := fnExactDecodeTableRow.holds Yabn.pinned (OpenSpec.ofChange fnExactDecodeTableSpec)

/-- ITS FALSE NEIGHBOUR: 'it returns false'. Refute it at one input. -/
def fnExactDecodeTableWrong : ChangeSpec := { name := "fnExactDecodeTable", fn := fun _ => fun
  | [d] => { results := [.lit (.bool false)], args := [d] }
  | _ => none }
def FnExactDecodeTableWrongFalsely : Prop := fnExactDecodeTableRow.holds Yabn.pinned (OpenSpec.ofChange fnExactDecodeTableWrong)

/-- 'laws.FnExactTokenize': WHATEVER THE INPUT: true; the input reads as it did. -/
def fnExactTokenizeSpec : ChangeSpec := { name := "fnExactTokenize", fn := fun _ => fun
  | [d] => { results := [.lit (.bool true)], args := [d] }
  | _ => none }
def fnExactTokenizeRow : OpenClaim := { program := "ybyabw", sum := "c5e1deacda18a785a5e34e5390bced880aeddd682543974d3245d5dd7b45122e", func := "loop.example/c035/laws.FnExactTokenize", spec := "fnExactTokenize", apart := false }
def FnExactTokenizeSaid : Prop := fnExactTokenizeRow.holds Yabn.pinned (OpenSpec.ofChange fnExactTokenizeSpec)

/-- ITS FALSE NEIGHBOUR: 'it returns false'. Refute it at one input. -/
def fnExactTokenizeWrong : ChangeSpec := { name := "fnExactTokenize", fn := fun _ => fun
  | [d] => { results := [.lit (.bool false)], args := [d] }
  | _ => none }
def FnExactTokenizeWrongFalsely : Prop := fnExactTokenizeRow.holds Yabn.pinned (OpenSpec.ofChange fnExactTokenizeWrong)

/-- 'laws.FnExactParse': WHATEVER THE INPUT: true; the input reads as it did. -/
def fnExactParseSpec : ChangeSpec := { name := "fnExactParse", fn := fun _ => fun
  | [d] => { results := [.lit (.bool true)], args := [d] }
  | _ => none }
def fnExactParseRow : OpenClaim := { program := "ybyabw", sum := "c5e1deacda18a785a5e34e5390bced880aeddd682543974d3245d5dd7b45122e", func := "loop.example/c035/laws.FnExactParse", spec := "fnExactParse", recurses := true, apart := false }
def FnExactParseSaid : Prop := fnExactParseRow.holds Yabn.pinned (OpenSpec.ofChange fnExactParseSpec)

/-- ITS FALSE NEIGHBOUR: 'it returns false'. Refute it at one input. -/
def fnExactParseWrong : ChangeSpec := { name := "fnExactParse", fn := fun _ => fun
  | [d] => { results := [.lit (.bool false)], args := [d] }
  | _ => none }
def FnExactParseWrongFalsely : Prop := fnExactParseRow.holds Yabn.pinned (OpenSpec.ofChange fnExactParseWrong)

end Rows
end Go.Proofs.Ybyabw
