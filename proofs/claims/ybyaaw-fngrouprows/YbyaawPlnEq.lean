/- Walk: spec.PlanEqual on two copies of one plan -/
import Derived.Test.YbyaawCmp5
namespace Go.Proofs.Ybyaaw
open Go.RowKit
set_option maxRecDepth 100000
set_option linter.unusedVariables false
set_option linter.unusedSimpArgs false

/-- A plan that can be read. -/
structure PAt (w : World) (p : Pl) (ca ia ga : Option Addr) : Prop where
  code : NodesAt w ca p.code
  its : PairsAt w ia p.its
  gr : IntsAt w ga p.gr
  lc : p.code.length ≤ 65536
  li : p.its.length ≤ 65536
  lg : p.gr.length ≤ 65600
theorem PAt.ext {w w' : World} {p : Pl} {ca ia ga : Option Addr} (h : PAt w p ca ia ga) (he : Ext w w') : PAt w' p ca ia ga := ⟨h.code.ext he, h.its.ext he, h.gr.ext he, h.lc, h.li, h.lg⟩
theorem OwnPl.at {w : World} {base : Nat} {p : Pl} {ca ia ga : Option Addr} {cc ic gc : Nat} (h : OwnPl w base p ca ia ga cc ic gc) (lc : p.code.length ≤ 65536) (li : p.its.length ≤ 65536) (lg : p.gr.length ≤ 65600) : PAt w p ca ia ga := ⟨h.code.nodes, h.its.pairs, h.gr.ints, lc, li, lg⟩
def p00 : Pl := ⟨0, [], 0, [], [], 0, false⟩
theorem PAt.zero (w : World) : PAt w p00 none none none := ⟨RowsAt.nil _ _ _, PairsAt.nil _ _, IntsAt.nil _ _, by simp [p00], by simp [p00], by simp [p00]⟩
set_option maxHeartbeats 4000000 in
theorem PlanEqual_same (p : Pl) (n1 i1 g1 n2 i2 g2 : Option Addr) (d1 c1 f1 d2 c2 f2 : Nat) (w : World) (h1 : Hid (PAt w p n1 i1 g1)) (h2 : Hid (PAt w p n2 i2 g2)) :
    Calls Yaan.prog 49 #[.agg (plCells p n1 i1 g1 d1 c1 f1).toArray, .agg (plCells p n2 i2 g2 d2 c2 f2).toArray] w (RetTrue w) := by
  obtain ⟨nc, code, wh, its, gr, li, ag⟩ := p
  have hbA : Box ((w.alloc (.cells #[.int .i64 nc, .slice n1 code.length d1, .int .i64 wh, .slice i1 its.length c1, .slice g1 gr.length f1, .int .i64 li, .bool ag] 81)).alloc (.cells #[.int .i64 nc, .slice n2 code.length d2, .int .i64 wh, .slice i2 its.length c2, .slice g2 gr.length f2, .int .i64 li, .bool ag] 81)) w.heap.size _ := (Box.new w _ _).alloc _
  have hbB : Box ((w.alloc (.cells #[.int .i64 nc, .slice n1 code.length d1, .int .i64 wh, .slice i1 its.length c1, .slice g1 gr.length f1, .int .i64 li, .bool ag] 81)).alloc (.cells #[.int .i64 nc, .slice n2 code.length d2, .int .i64 wh, .slice i2 its.length c2, .slice g2 gr.length f2, .int .i64 li, .bool ag] 81)) (w.heap.size + 1) [.int .i64 nc, .slice n2 code.length d2, .int .i64 wh, .slice i2 its.length c2, .slice g2 gr.length f2, .int .i64 li, .bool ag] := by
    have := Box.new (w.alloc (.cells #[.int .i64 nc, .slice n1 code.length d1, .int .i64 wh, .slice i1 its.length c1, .slice g1 gr.length f1, .int .i64 li, .bool ag] 81)) #[.int .i64 nc, .slice n2 code.length d2, .int .i64 wh, .slice i2 its.length c2, .slice g2 gr.length f2, .int .i64 li, .bool ag] 81
    simpa using this
  have hx0 : Ext w ((w.alloc (.cells #[.int .i64 nc, .slice n1 code.length d1, .int .i64 wh, .slice i1 its.length c1, .slice g1 gr.length f1, .int .i64 li, .bool ag] 81)).alloc (.cells #[.int .i64 nc, .slice n2 code.length d2, .int .i64 wh, .slice i2 its.length c2, .slice g2 gr.length f2, .int .i64 li, .bool ag] 81)) := ((Ext.refl w).alloc _).alloc _
  have hl1 := h1.out.li
  have hl2 := h1.out.lc
  have hl3 := h1.out.lg
  simp only at hl1 hl2 hl3
  have en : (nc == nc) = true := by simp
  have ew : (wh == wh) = true := by simp
  have el : (li == li) = true := by simp
  have ea : (ag == ag) = true := by simp
  replace hbA := hide hbA
  replace hbB := hide hbB
  replace hx0 := hide hx0
  have mA := hbA.out 0 _ rfl
  have mB := hbB.out 0 _ rfl
  have mA1 := hbA.out 1 _ rfl
  have mB1 := hbB.out 1 _ rfl
  simp only [plCells]
  go_enter Yaan.func49, Yaan.ntmps49
  go_wp2_with fail
  generalize ((w.alloc (.cells #[.int .i64 nc, .slice n1 code.length d1, .int .i64 wh, .slice i1 its.length c1, .slice g1 gr.length f1, .int .i64 li, .bool ag] 81)).alloc (.cells #[.int .i64 nc, .slice n2 code.length d2, .int .i64 wh, .slice i2 its.length c2, .slice g2 gr.length f2, .int .i64 li, .bool ag] 81)) = W at *
  refine (NodesEqual_same code n1 n2 d1 d2 W (h1.out.code.ext hx0.out) (h2.out.code.ext hx0.out) (by omega)).mono ?_
  rintro e w1 ⟨rfl, x1⟩
  clear mA mB mA1 mB1
  have X1 : Hid (Ext W w1) := x1
  have mA := (hbA.out.ext X1.out) 2 _ rfl
  have mB := (hbB.out.ext X1.out) 2 _ rfl
  have mA3 := (hbA.out.ext X1.out) 3 _ rfl
  have mB3 := (hbB.out.ext X1.out) 3 _ rfl
  clear x1
  go_wp2_with fail
  refine (ItemsEqual_same its i1 i2 c1 c2 w1 (h1.out.its.ext (hx0.out.trans X1.out)) (h2.out.its.ext (hx0.out.trans X1.out)) (by omega)).mono ?_
  rintro e w2 ⟨rfl, x2⟩
  clear mA mB mA3 mB3
  have X2 : Hid (Ext W w2) := X1.out.trans x2
  have mA4 := (hbA.out.ext X2.out) 4 _ rfl
  have mB4 := (hbB.out.ext X2.out) 4 _ rfl
  clear x2
  go_wp2_with fail
  refine (IntsEq_same gr g1 g2 f1 f2 w2 (h1.out.gr.ext (hx0.out.trans X2.out)) (h2.out.gr.ext (hx0.out.trans X2.out)) (by omega)).mono ?_
  rintro e w3 ⟨rfl, x3⟩
  clear mA4 mB4
  have X3 : Hid (Ext W w3) := X2.out.trans x3
  have mA5 := (hbA.out.ext X3.out) 5 _ rfl
  have mB5 := (hbB.out.ext X3.out) 5 _ rfl
  have mA6 := (hbA.out.ext X3.out) 6 _ rfl
  have mB6 := (hbB.out.ext X3.out) 6 _ rfl
  clear x3
  go_wp2
  go_ret
  exact ⟨rfl, hx0.out.trans X3.out⟩
end Go.Proofs.Ybyaaw
