/- Walks: spec.ItemsEqual, NodesEqual, QueryEqual, at two that are the same -/
import Derived.Test.YbyabwGreatPrsQ
import Derived.Test.YbyabwGreatDraw
import Derived.Test.YbyabwGreatCol3
import Derived.Test.YbyabwGreatPairs0
namespace Go.Proofs.YbyabwGreat
open Go.RowKit
set_option maxRecDepth 100000
set_option linter.unusedVariables false

/-- A query that can be read. -/
structure QAt (w : World) (q : Qy) (ia na ga : Option Addr) : Prop where
  its : PairsAt w ia q.its
  nd : NodesAt w na q.nd
  gr : IntsAt w ga q.gr
  li : q.its.length ≤ 65536
  ln : q.nd.length ≤ 65536
  lg : q.gr.length ≤ 65536
theorem QAt.ext {w w' : World} {q : Qy} {ia na ga : Option Addr} (h : QAt w q ia na ga) (he : Ext w w') : QAt w' q ia na ga := ⟨h.its.ext he, h.nd.ext he, h.gr.ext he, h.li, h.ln, h.lg⟩
theorem OwnQ.at {w : World} {base : Nat} {q : Qy} {ia na ga : Option Addr} {ic nc gc : Nat} (h : OwnQ w base q ia na ga ic nc gc) : QAt w q ia na ga := ⟨h.its.pairs, h.nd.nodes, h.gr.ints, h.li, h.ln, h.lg⟩
def q00 : Qy := ⟨[], [], 0, [], 0⟩
theorem QAt.zero (w : World) : QAt w q00 none none none := ⟨PairsAt.nil _ _, RowsAt.nil _ _ _, IntsAt.nil _ _, by simp [q00], by simp [q00], by simp [q00]⟩

end Go.Proofs.YbyabwGreat
