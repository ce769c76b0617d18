/- Walk: spec.PlanEqual on two copies of one plan -/
import Derived.Test.YbyabwGreatCmp5
namespace Go.Proofs.YbyabwGreat
open Go.RowKit
set_option maxRecDepth 100000
set_option linter.unusedVariables false
set_option linter.unusedSimpArgs false

/-- A plan that can be read. -/
structure PAt (w : World) (p : Pl) (ca ia ga : Option Addr) : Prop where
  code : NodesAt w ca p.code
  its : PairsAt w ia p.its
  gr : IntsAt w ga p.gr
  lc : p.code.length ≤ 65536
  li : p.its.length ≤ 65536
  lg : p.gr.length ≤ 65600
theorem PAt.ext {w w' : World} {p : Pl} {ca ia ga : Option Addr} (h : PAt w p ca ia ga) (he : Ext w w') : PAt w' p ca ia ga := ⟨h.code.ext he, h.its.ext he, h.gr.ext he, h.lc, h.li, h.lg⟩
theorem OwnPl.at {w : World} {base : Nat} {p : Pl} {ca ia ga : Option Addr} {cc ic gc : Nat} (h : OwnPl w base p ca ia ga cc ic gc) (lc : p.code.length ≤ 65536) (li : p.its.length ≤ 65536) (lg : p.gr.length ≤ 65600) : PAt w p ca ia ga := ⟨h.code.nodes, h.its.pairs, h.gr.ints, lc, li, lg⟩
def p00 : Pl := ⟨0, [], 0, [], [], 0, false⟩
theorem PAt.zero (w : World) : PAt w p00 none none none := ⟨RowsAt.nil _ _ _, PairsAt.nil _ _, IntsAt.nil _ _, by simp [p00], by simp [p00], by simp [p00]⟩
end Go.Proofs.YbyabwGreat
