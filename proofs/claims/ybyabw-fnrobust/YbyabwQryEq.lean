/- Walks: spec.ItemsEqual, NodesEqual, QueryEqual, at two that are the same -/
import Derived.Test.YbyabwPrsQ
import Derived.Test.YbyabwDraw
import Derived.Test.YbyabwCol3
import Derived.Test.YbyabwPairs0
namespace Go.Proofs.Ybyabw
open Go.RowKit
set_option maxRecDepth 100000
set_option linter.unusedVariables false

set_option maxHeartbeats 2000000 in
theorem ItemsEqual_same (ts : List (Int × Int)) (a1 a2 : Option Addr) (c1 c2 : Nat) (w : World) (h1 : Hid (PairsAt w a1 ts)) (h2 : Hid (PairsAt w a2 ts)) (hl : ts.length < 2 ^ 39) :
    Calls Yabn.prog 113 #[.slice a1 ts.length c1, .slice a2 ts.length c2] w (RetTrue w) := by
  have hrr : ((ts.length : Int) != ts.length) = false := by simp
  go_enter Yabn.func113, Yabn.ntmps113
  go_wp2
  go_loopw [5] (fun i wr => ∃ k : Nat, i = .int .i64 k ∧ k ≤ ts.length ∧ Hid (Ext w wr)) (fun i _ => ts.length - (intOf i).toNat)
  case atStart => exact ⟨0, rfl, by omega, Ext.refl w⟩
  obtain ⟨k, rfl, hk, hext⟩ := hrel
  by_cases hlt : k < ts.length
  · have hlt' : (k : Int) < ts.length := by omega
    obtain ⟨b1, o1, rfl, g1, g2⟩ := (h1.out.ext hext.out) k hlt
    obtain ⟨b2, o2, rfl, g3, g4⟩ := (h2.out.ext hext.out) k hlt
    generalize ts.getD k (0, 0) = y at *
    obtain ⟨y1, y2⟩ := y
    simp only at g1 g2 g3 g4
    have e1 : (y1 != y1) = false := by simp
    have e2 : (y2 != y2) = false := by simp
    go_wp2
    refine Dr.region_text (by kernel_rfl) ?_
    go_wp2
    refine ⟨by rfl, ?_⟩
    go_wp2
    go_roundw
    case rel => exact ⟨k + 1, by go_num, by omega, hext.out.drew⟩
    case measure => simp [intOf]; omega
  · obtain rfl : k = ts.length := by omega
    clear hlt hk
    go_wp2
    go_ret
    exact ⟨rfl, hext.out⟩

set_option maxHeartbeats 4000000 in
theorem NodesEqual_same (ns : List Nd) (a1 a2 : Option Addr) (c1 c2 : Nat) (w : World) (h1 : Hid (NodesAt w a1 ns)) (h2 : Hid (NodesAt w a2 ns)) (hl : ns.length < 2 ^ 39) :
    Calls Yabn.prog 114 #[.slice a1 ns.length c1, .slice a2 ns.length c2] w (RetTrue w) := by
  have hrr : ((ns.length : Int) != ns.length) = false := by simp
  go_enter Yabn.func114, Yabn.ntmps114
  go_wp2
  go_loopw [5] (fun i wr => ∃ k : Nat, i = .int .i64 k ∧ k ≤ ns.length ∧ Hid (Ext w wr)) (fun i _ => ns.length - (intOf i).toNat)
  case atStart => exact ⟨0, rfl, by omega, Ext.refl w⟩
  obtain ⟨k, rfl, hk, hext⟩ := hrel
  by_cases hlt : k < ns.length
  · have hlt' : (k : Int) < ns.length := by omega
    obtain ⟨b1, o1, rfl, g1, g2, g3, g4⟩ := (h1.out.ext hext.out).get k hlt
    obtain ⟨b2, o2, rfl, g5, g6, g7, g8⟩ := (h2.out.ext hext.out).get k hlt
    generalize ns.getD k nd0 = y at *
    obtain ⟨y1, y2, y3, y4⟩ := y
    simp only at g1 g2 g3 g4 g5 g6 g7 g8
    have e1 : (y1 != y1) = false := by simp
    have e2 : (y2 != y2) = false := by simp
    have e3 : (y3 != y3) = false := by simp
    have e4 : (y4 != y4) = false := by simp
    go_wp2
    refine Dr.region_text (by kernel_rfl) ?_
    go_wp2
    refine ⟨by rfl, ?_⟩
    go_wp2
    go_roundw
    case rel => exact ⟨k + 1, by go_num, by omega, hext.out.drew⟩
    case measure => simp [intOf]; omega
  · obtain rfl : k = ns.length := by omega
    clear hlt hk
    go_wp2
    go_ret
    exact ⟨rfl, hext.out⟩
theorem IntsEq_same (xs : List Int) (a1 a2 : Option Addr) (c1 c2 : Nat) (w : World) (h1 : IntsAt w a1 xs) (h2 : IntsAt w a2 xs) (l : xs.length < 2 ^ 39) :
    Calls Yabn.prog 115 #[.slice a1 xs.length c1, .slice a2 xs.length c2] w (RetTrue w) := by
  refine (IntsEqual xs xs a1 a2 c1 c2 w h1 h2 (by omega) (by omega)).mono ?_
  rintro e w' ⟨b, rfl, hb, hx⟩
  obtain rfl : b = true := hb.2 rfl
  exact ⟨rfl, hx⟩

/-- A query that can be read. -/
structure QAt (w : World) (q : Qy) (ia na ga : Option Addr) : Prop where
  its : PairsAt w ia q.its
  nd : NodesAt w na q.nd
  gr : IntsAt w ga q.gr
  li : q.its.length ≤ 65536
  ln : q.nd.length ≤ 65536
  lg : q.gr.length ≤ 65536
theorem QAt.ext {w w' : World} {q : Qy} {ia na ga : Option Addr} (h : QAt w q ia na ga) (he : Ext w w') : QAt w' q ia na ga := ⟨h.its.ext he, h.nd.ext he, h.gr.ext he, h.li, h.ln, h.lg⟩
theorem OwnQ.at {w : World} {base : Nat} {q : Qy} {ia na ga : Option Addr} {ic nc gc : Nat} (h : OwnQ w base q ia na ga ic nc gc) : QAt w q ia na ga := ⟨h.its.pairs, h.nd.nodes, h.gr.ints, h.li, h.ln, h.lg⟩
def q00 : Qy := ⟨[], [], 0, [], 0⟩
theorem QAt.zero (w : World) : QAt w q00 none none none := ⟨PairsAt.nil _ _, RowsAt.nil _ _ _, IntsAt.nil _ _, by simp [q00], by simp [q00], by simp [q00]⟩

set_option maxHeartbeats 4000000 in
theorem QueryEqual_same (q : Qy) (i1 n1 g1 i2 n2 g2 : Option Addr) (c1 d1 f1 c2 d2 f2 : Nat) (w : World) (h1 : Hid (QAt w q i1 n1 g1)) (h2 : Hid (QAt w q i2 n2 g2)) :
    Calls Yabn.prog 72 #[.agg (qCells q i1 n1 g1 c1 d1 f1).toArray, .agg (qCells q i2 n2 g2 c2 d2 f2).toArray] w (RetTrue w) := by
  obtain ⟨its, nd, wh, gr, li⟩ := q
  have hbA : Box ((w.alloc (.cells #[.slice i1 its.length c1, .slice n1 nd.length d1, .int .i64 wh, .slice g1 gr.length f1, .int .i64 li] 96)).alloc (.cells #[.slice i2 its.length c2, .slice n2 nd.length d2, .int .i64 wh, .slice g2 gr.length f2, .int .i64 li] 96)) w.heap.size _ := (Box.new w _ _).alloc _
  have hbB : Box ((w.alloc (.cells #[.slice i1 its.length c1, .slice n1 nd.length d1, .int .i64 wh, .slice g1 gr.length f1, .int .i64 li] 96)).alloc (.cells #[.slice i2 its.length c2, .slice n2 nd.length d2, .int .i64 wh, .slice g2 gr.length f2, .int .i64 li] 96)) (w.heap.size + 1) [.slice i2 its.length c2, .slice n2 nd.length d2, .int .i64 wh, .slice g2 gr.length f2, .int .i64 li] := by
    have := Box.new (w.alloc (.cells #[.slice i1 its.length c1, .slice n1 nd.length d1, .int .i64 wh, .slice g1 gr.length f1, .int .i64 li] 96)) #[.slice i2 its.length c2, .slice n2 nd.length d2, .int .i64 wh, .slice g2 gr.length f2, .int .i64 li] 96
    simpa using this
  have hx0 : Ext w ((w.alloc (.cells #[.slice i1 its.length c1, .slice n1 nd.length d1, .int .i64 wh, .slice g1 gr.length f1, .int .i64 li] 96)).alloc (.cells #[.slice i2 its.length c2, .slice n2 nd.length d2, .int .i64 wh, .slice g2 gr.length f2, .int .i64 li] 96)) := ((Ext.refl w).alloc _).alloc _
  have hl1 := h1.out.li
  have hl2 := h1.out.ln
  have hl3 := h1.out.lg
  simp only at hl1 hl2 hl3
  have ew : (wh == wh) = true := by simp
  have el : (li == li) = true := by simp
  replace hbA := hide hbA
  replace hbB := hide hbB
  replace hx0 := hide hx0
  have mA := hbA.out 0 _ rfl
  have mB := hbB.out 0 _ rfl
  simp only [qCells]
  go_enter Yabn.func72, Yabn.ntmps72
  go_wp2_with fail
  generalize ((w.alloc (.cells #[.slice i1 its.length c1, .slice n1 nd.length d1, .int .i64 wh, .slice g1 gr.length f1, .int .i64 li] 96)).alloc (.cells #[.slice i2 its.length c2, .slice n2 nd.length d2, .int .i64 wh, .slice g2 gr.length f2, .int .i64 li] 96)) = W at *
  refine (ItemsEqual_same its i1 i2 c1 c2 W (h1.out.its.ext hx0.out) (h2.out.its.ext hx0.out) (by omega)).mono ?_
  rintro e w1 ⟨rfl, x1⟩
  clear mA mB
  have mA := (hbA.out.ext x1) 1 _ rfl
  have mB := (hbB.out.ext x1) 1 _ rfl
  have X1 : Hid (Ext W w1) := x1
  clear x1
  go_wp2_with fail
  refine (NodesEqual_same nd n1 n2 d1 d2 w1 (h1.out.nd.ext (hx0.out.trans X1.out)) (h2.out.nd.ext (hx0.out.trans X1.out)) (by omega)).mono ?_
  rintro e w2 ⟨rfl, x2⟩
  clear mA mB
  have X2 : Hid (Ext W w2) := X1.out.trans x2
  have mA := (hbA.out.ext X2.out) 2 _ rfl
  have mB := (hbB.out.ext X2.out) 2 _ rfl
  have mA3 := (hbA.out.ext X2.out) 3 _ rfl
  have mB3 := (hbB.out.ext X2.out) 3 _ rfl
  clear x2
  go_wp2_with fail
  refine (IntsEq_same gr g1 g2 f1 f2 w2 (h1.out.gr.ext (hx0.out.trans X2.out)) (h2.out.gr.ext (hx0.out.trans X2.out)) (by omega)).mono ?_
  rintro e w3 ⟨rfl, x3⟩
  clear mA mB mA3 mB3
  have X3 : Hid (Ext W w3) := X2.out.trans x3
  have mA := (hbA.out.ext X3.out) 4 _ rfl
  have mB := (hbB.out.ext X3.out) 4 _ rfl
  clear x3
  go_wp2
  go_ret
  exact ⟨rfl, hx0.out.trans X3.out⟩
end Go.Proofs.Ybyabw
