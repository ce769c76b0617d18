/- Walks: laws.cvTable, eqLTable, szTable -/
import Derived.Test.YbyabwCpRun
import Derived.Test.YbyabwTab1
namespace Go.Proofs.Ybyabw
open Go.RowKit
set_option maxRecDepth 100000
set_option linter.unusedVariables false

theorem info_col : (Yabn.prog.info? 29).map (fun i => (i.zero, i.size, i.bytes)) = some (some (.agg #[.int .i64 0, .slice none 0 0, .slice none 0 0, .slice none 0 0, .slice none 0 0]), 5, 104) := by kernel_rfl
theorem info_lcol : (Yabn.prog.info? 58).map (fun i => (i.zero, i.size, i.bytes)) = some (some (.agg #[.int .i64 0, .slice none 0 0, .slice none 0 0, .slice none 0 0, .slice none 0 0]), 5, 104) := by kernel_rfl
theorem size_tab : (Yabn.prog.info? 34).map (·.size) = some 2 := by kernel_rfl
theorem size_ltab : (Yabn.prog.info? 69).map (·.size) = some 2 := by kernel_rfl

def tabCells (n : Int) (a : Option Addr) (len cap : Nat) : List Value := [.int .i64 n, .slice a len cap]
theorem tabCells_one (n : Int) (a : Option Addr) (len cap : Nat) : ∀ u ∈ tabCells n a len cap, u.oneCell' = true := by simp [tabCells, Value.oneCell']

section
variable {ops : Array Oper} {rest : List Oper} {o : Oper} {a : Act} {Q : Exit → Act → World → Prop} {w : World}
theorem app_lcol (hg : o.guard = none) {s x : Operand} (ho : o.op = .call { callee := .builtin .append, args := #[s, x], argTypes := #[67, 67] })
    (base : Nat) (hE : base ≤ w.heap.size) (v : Value) (rows : List (List Value)) (y : List Value) (hs : a.eval s = v) (hown : OwnV w base 58 5 v rows)
    (B c : Nat) (hx : a.eval x = .slice (some ⟨B, 0, none⟩) 1 c) (hblk : w.heap[B]? = some (.cells y.toArray 58 (0, 0))) (hy : y.length = 5) (h1 : ∀ u ∈ y, u.oneCell' = true) (hb : rows.length < 2 ^ 39)
    (h : ∀ g cap w', OwnV w' base 58 5 (.slice (some ⟨g, 0, none⟩) (rows.length + 1) cap) (rows ++ [y]) → w.grownBy w' v.ownBlock → (v.ownBlock = some g ∨ g = w.heap.size) → g < w'.heap.size →
      wpList Yabn.prog ops Q rest (a.put o.dst (.slice (some ⟨g, 0, none⟩) (rows.length + 1) cap)) w') : wpList Yabn.prog ops Q (o :: rest) a w := by
  obtain ⟨i, h2, h3, h4, h5⟩ := info_parts info_lcol
  exact wpList_appV hg ho 58 Yabn.underlying67 h2 h3 h4 (by omega) rfl (by omega) base hE v rows y hs hown B c hx hblk hy h1 hb h
end

/-- Something was written into a row of another type: the column stays. -/
theorem OwnC.rowGrown {er e : TypeId} {w w' : World} {base top b k n : Nat} {c : Col} {a1 a2 a3 a4 : Option Addr} {c1 c2 c3 c4 : Nat} {v : Value} {xs : List Value} (h : OwnC er w base top c a1 a2 a3 a4 c1 c2 c3 c4) (hv : w.ownsRow b e k v n xs) (hg : w.grownBy w' v.ownBlock)
    (h1 : 2 ≠ e) (h2 : 3 ≠ e) (h3 : er ≠ e) : OwnC er w' base top c a1 a2 a3 a4 c1 c2 c3 c4 :=
  ⟨h.plain.but hg (apart_types h.plain hv h1), h.dict.but hg (apart_types h.dict hv h1), h.codes.but hg (apart_types h.codes hv h2), h.runs.but hg (apart_types h.runs hv h3), h.sep, h.t1, h.t2, h.t3, h.t4⟩

/-- The first k rows are the cells of the first k columns. -/
def ColRows (er : TypeId) (w : World) (base : Nat) (rows : List (List Value)) (cs : List Col) (k : Nat) : Prop :=
  ∀ i, i < k → ∃ a1 a2 a3 a4 c1 c2 c3 c4 top, rows.getD i [] = cellsC (cs.getD i col0) a1 a2 a3 a4 c1 c2 c3 c4 ∧ OwnC er w base top (cs.getD i col0) a1 a2 a3 a4 c1 c2 c3 c4
theorem ColRows.ext {er : TypeId} {w w' : World} {base : Nat} {rows : List (List Value)} {cs : List Col} {k : Nat} (h : ColRows er w base rows cs k) (he : Ext w w') : ColRows er w' base rows cs k := fun i hi => by
  obtain ⟨a1, a2, a3, a4, c1, c2, c3, c4, top, e, ho⟩ := h i hi
  exact ⟨a1, a2, a3, a4, c1, c2, c3, c4, top, e, ho.ext he⟩
theorem ColRows.at {er e : TypeId} {w : World} {base b : Nat} {rows : List (List Value)} {cs : List Col} {a : Option Addr} {n cap : Nat} (h : ColRows er w base rows cs cs.length) (hv : OwnV w b e 5 (.slice a n cap) rows) (hr : rows.length = cs.length) (hl : ∀ i, i < cs.length → LenC (cs.getD i col0)) : ColsAt w a cs := fun i hi => by
  obtain ⟨a1, a2, a3, a4, c1, c2, c3, c4, top, e, ho⟩ := h i hi
  obtain ⟨g, off, ea, hc⟩ := hv.rows i (by omega)
  rw [e] at hc
  have hl' := hl i hi
  exact ⟨g, off, a1, a2, a3, a4, c1, c2, c3, c4, ea, ⟨hc 0 _ rfl, hc 1 _ rfl, hc 2 _ rfl, hc 3 _ rfl, hc 4 _ rfl⟩, ho.colAt, ⟨by have := hl'.plain; omega, by have := hl'.dict; omega, by have := hl'.codes; omega, by have := hl'.runs; omega⟩⟩

/-- A call that hands back a table that can be read. -/
def RetTab (n : Int) (cs : List Col) (w : World) : Ending → World → Prop := fun en w' => ∃ a cap, en = .returned (.agg #[.int .i64 n, .slice a cs.length cap]) ∧ ColsAt w' a cs ∧ Ext w w'

set_option maxHeartbeats 4000000 in
theorem cvTable (cs : List Col) (n : Int) (a : Option Addr) (cap : Nat) (w : World) (h : Hid (ColsAt w a cs)) (hl : Hid (∀ i, i < cs.length → LenC (cs.getD i col0))) (lc : cs.length < 2 ^ 39) :
    Calls Yabn.prog 38 #[.agg #[.int .i64 n, .slice a cs.length cap]] w (RetTab n cs w) := by
  have hbA : Box ((w.alloc (.cells #[.int .i64 n, .slice a cs.length cap] 34)).alloc (.cells #[.int .i64 0, .slice none 0 0] 69)) w.heap.size _ := (Box.new w _ _).alloc _
  have hbZ : Blk ((w.alloc (.cells #[.int .i64 n, .slice a cs.length cap] 34)).alloc (.cells #[.int .i64 0, .slice none 0 0] 69)) (w.heap.size + 1) 69 (tabCells 0 none 0 0) := by
    have := Blk.new (w.alloc (.cells #[.int .i64 n, .slice a cs.length cap] 34)) #[.int .i64 0, .slice none 0 0] 69
    simpa [tabCells] using this
  have hx0 : Ext w ((w.alloc (.cells #[.int .i64 n, .slice a cs.length cap] 34)).alloc (.cells #[.int .i64 0, .slice none 0 0] 69)) := ((Ext.refl w).alloc _).alloc _
  have hs0 : ((w.alloc (.cells #[.int .i64 n, .slice a cs.length cap] 34)).alloc (.cells #[.int .i64 0, .slice none 0 0] 69)).heap.size = w.heap.size + 2 := by simp
  replace hbA := hide hbA
  replace hbZ := hide hbZ
  replace hx0 := hide hx0
  go_enter Yabn.func38, Yabn.ntmps38
  go_wp2
  generalize ((w.alloc (.cells #[.int .i64 n, .slice a cs.length cap] 34)).alloc (.cells #[.int .i64 0, .slice none 0 0] 69)) = W at *
  go_loopw [3, 4] (fun v i wr => ∃ (k : Nat) (rows : List (List Value)), i = .int .i64 k ∧ k ≤ cs.length ∧ Hid (rows.length = k) ∧ Hid (OwnV wr W.heap.size 58 5 v rows) ∧ Hid (ColRows 185 wr W.heap.size rows cs k) ∧ Hid (Ext W wr)) (fun _ i _ => cs.length - (intOf i).toNat)
  case atStart => exact ⟨0, [], rfl, by omega, rfl, OwnV.nil _ _ _ _, fun i hi => by omega, Ext.refl W⟩
  obtain ⟨k, rows, rfl, hk, hrl, hown, hrows, hext⟩ := hrel
  have zW := hext.out.size
  have m1 := (hbA.out.ext hext.out) 1 _ rfl
  by_cases hlt : k < cs.length
  · have hlt' : (k : Int) < cs.length := by omega
    obtain ⟨b, off, a1, a2, a3, a4, c1, c2, c3, c4, rfl, ⟨g0, g1, g2, g3, g4⟩, hca, _⟩ := (h.out.ext (hx0.out.trans hext.out)) k hlt
    have hlk := hide (hl.out k hlt)
    have hnew : ∀ (w' : World) (y : List Value), ColRows 185 w' W.heap.size rows cs k → (∃ a1 a2 a3 a4 c1 c2 c3 c4 top, y = cellsC (cs.getD k col0) a1 a2 a3 a4 c1 c2 c3 c4 ∧ OwnC 185 w' W.heap.size top (cs.getD k col0) a1 a2 a3 a4 c1 c2 c3 c4) → ColRows 185 w' W.heap.size (rows ++ [y]) cs (k + 1) := by
      intro w' y h1 h2 i hi
      have hr := hrl.out
      rcases Nat.lt_or_ge i k with hik | hik
      · obtain ⟨a1, a2, a3, a4, c1, c2, c3, c4, top, e, ho⟩ := h1 i hik
        refine ⟨a1, a2, a3, a4, c1, c2, c3, c4, top, ?_, ho⟩
        rw [← e, List.getD_eq_getElem?_getD, List.getElem?_append_left (by omega), ← List.getD_eq_getElem?_getD]
      · obtain rfl : i = k := by omega
        obtain ⟨a1, a2, a3, a4, c1, c2, c3, c4, top, e, ho⟩ := h2
        refine ⟨a1, a2, a3, a4, c1, c2, c3, c4, top, ?_, ho⟩
        rw [← e, List.getD_eq_getElem?_getD, List.getElem?_append_right (by omega)]
        simp [hr]
    replace hnew := hide hnew
    replace hca := hide hca
    have hwb : b < wr.heap.size := cell_lt g0
    generalize cs.getD k col0 = C at *
    obtain ⟨ck, cp, cd, cc, cr⟩ := C
    simp only at g0 g1 g2 g3 g4
    go_wp2_with fail
    refine (cvColumn ⟨ck, cp, cd, cc, cr⟩ a1 a2 a3 a4 c1 c2 c3 c4 wr hca hlk).mono ?_
    rintro e w1 ⟨p1, p2, p3, p4, q1, q2, q3, q4, rfl, O1, x1⟩
    have z1 := x1.size
    have hr1 := hide ((hrows.out.ext x1).ext ((Ext.refl w1).alloc (.cells (cellsC ⟨ck, cp, cd, cc, cr⟩ p1 p2 p3 p4 q1 q2 q3 q4).toArray 58)))
    have ho1 := hide ((hown.out.ext x1).alloc (.cells (cellsC ⟨ck, cp, cd, cc, cr⟩ p1 p2 p3 p4 q1 q2 q3 q4).toArray 58))
    have O2 := hide ((O1.mono zW (Nat.le_refl _)).ext ((Ext.refl w1).alloc (.cells (cellsC ⟨ck, cp, cd, cc, cr⟩ p1 p2 p3 p4 q1 q2 q3 q4).toArray 58)))
    have X1 : Hid (Ext W (w1.alloc (.cells (cellsC ⟨ck, cp, cd, cc, cr⟩ p1 p2 p3 p4 q1 q2 q3 q4).toArray 58))) := (hext.out.trans x1).alloc _
    have hln : rows.length < 2 ^ 39 := by have := hrl.out; omega
    replace hln := hide hln
    clear O1 x1 m1 g0 g1 g2 g3 g4 hca
    simp only [cellsC]
    go_wp2_with (at_builtin; refine app_lcol rfl rfl W.heap.size (by simp; omega) _ rows (cellsC ⟨ck, cp, cd, cc, cr⟩ p1 p2 p3 p4 q1 q2 q3 q4) rfl ho1.out w1.heap.size 1 (by rfl) (heap_alloc_new w1 _) rfl (cellsC_one _ _ _ _ _ _ _ _ _) hln.out ?_; intro g cp2 w2 hown2 hgr hor hlt2; replace hgr := hide hgr; replace hown2 := hide hown2; replace hor := hide hor)
    have hr2 : ColRows 185 w2 W.heap.size rows cs k := fun i hi => by
      obtain ⟨a1, a2, a3, a4, c1, c2, c3, c4, top, e, ho⟩ := hr1.out i hi
      exact ⟨a1, a2, a3, a4, c1, c2, c3, c4, top, e, ho.rowGrown ho1.out.2 hgr.out (by decide) (by decide) (by decide)⟩
    have O3 := O2.out.rowGrown ho1.out.2 hgr.out (by decide) (by decide) (by decide)
    have hfin := hide (hnew.out w2 _ hr2 ⟨p1, p2, p3, p4, q1, q2, q3, q4, _, rfl, O3⟩)
    have X2 : Hid (Ext W w2) := X1.out.grown hgr.out (fun q hq => hown.out.block q hq)
    have hrl2 : Hid (rows.length + 1 = k + 1) := by simp only [Hid]; rw [hrl.out]
    clear hr2 O3 O2 hr1 ho1 X1 hnew
    rw [show rows.length = k from hrl.out] at hown2 ⊢
    go_wp2
    go_roundw
    case rel => exact ⟨k + 1, _, by go_num, by omega, (by simp only [Hid, List.length_append, List.length_singleton]; exact hrl2.out), hown2.out, hfin.out, X2.out⟩
    case measure => simp [intOf]; omega
  · obtain rfl : k = cs.length := by omega
    obtain ⟨p, q, rfl, _⟩ := hown.out.form
    have m0 := (hbA.out.ext hext.out) 0 _ rfl
    have hbz := hide (hbZ.out.ext hext.out)
    clear hlt hk
    rw [show rows.length = cs.length from hrl.out] at hown ⊢
    go_wp2_with (refine wpList_storeB (vs := tabCells n p cs.length q) rfl rfl (by rfl) (by rfl) hbz.out size_ltab rfl (tabCells_one _ _ _ _) ?_; intro w2 hb2 hgr; replace hgr := hide hgr; replace hb2 := hide hb2)
    refine bodyPost_ret (results_cell1 rfl (by rfl) hb2.out Yabn.underlying69 size_ltab) rfl ?_
    have hx2 : Ext w w2 := (hx0.out.trans hext.out).grown hgr.out (by intro k hk; cases hk; omega)
    have bS : But (fun k => k = w.heap.size + 1) wr w2 := But.of_grown hgr.out (fun k hk => by cases hk; rfl)
    have hv2 : OwnV w2 W.heap.size 58 5 (.slice p cs.length q) rows := ⟨hown.out.1, bS.row hown.out.2 (fun k hk he => by have := hown.out.block k hk; omega)⟩
    have hr2 : ColRows 185 w2 W.heap.size rows cs cs.length := fun i hi => by
      obtain ⟨a1, a2, a3, a4, c1, c2, c3, c4, top, e, ho⟩ := hrows.out i hi
      exact ⟨a1, a2, a3, a4, c1, c2, c3, c4, top, e, ho.but bS (fun k h1 h2 he => by omega)⟩
    exact ⟨p, q, rfl, hr2.at hv2 hrl.out hl.out, hx2⟩

set_option maxHeartbeats 4000000 in
theorem eqLTable (cs : List Col) (n : Int) (a a' : Option Addr) (cap cap' : Nat) (w : World) (h : Hid (ColsAt w a cs)) (h' : Hid (ColsAt w a' cs)) (hl : Hid (∀ i, i < cs.length → LenC (cs.getD i col0))) (lc : cs.length < 2 ^ 39) :
    Calls Yabn.prog 37 #[.agg #[.int .i64 n, .slice a cs.length cap], .agg #[.int .i64 n, .slice a' cs.length cap']] w (RetTrue w) := by
  have hbA : Box ((w.alloc (.cells #[.int .i64 n, .slice a cs.length cap] 69)).alloc (.cells #[.int .i64 n, .slice a' cs.length cap'] 69)) w.heap.size _ := (Box.new w _ _).alloc _
  have hbB : Box ((w.alloc (.cells #[.int .i64 n, .slice a cs.length cap] 69)).alloc (.cells #[.int .i64 n, .slice a' cs.length cap'] 69)) (w.heap.size + 1) [.int .i64 n, .slice a' cs.length cap'] := by
    have := Box.new (w.alloc (.cells #[.int .i64 n, .slice a cs.length cap] 69)) #[.int .i64 n, .slice a' cs.length cap'] 69
    simpa using this
  have hx0 : Ext w ((w.alloc (.cells #[.int .i64 n, .slice a cs.length cap] 69)).alloc (.cells #[.int .i64 n, .slice a' cs.length cap'] 69)) := ((Ext.refl w).alloc _).alloc _
  have hnn : (n != n) = false := by simp
  have hll : ((cs.length : Int) != cs.length) = false := by simp
  replace hbA := hide hbA
  replace hbB := hide hbB
  replace hx0 := hide hx0
  go_enter Yabn.func37, Yabn.ntmps37
  go_wp2
  generalize ((w.alloc (.cells #[.int .i64 n, .slice a cs.length cap] 69)).alloc (.cells #[.int .i64 n, .slice a' cs.length cap'] 69)) = W at *
  go_loopw [5] (fun i wr => ∃ k : Nat, i = .int .i64 k ∧ k ≤ cs.length ∧ Hid (Ext W wr)) (fun i _ => cs.length - (intOf i).toNat)
  case atStart => exact ⟨0, rfl, by omega, Ext.refl W⟩
  obtain ⟨k, rfl, hk, hext⟩ := hrel
  have mA := (hbA.out.ext hext.out) 1 _ rfl
  have mB := (hbB.out.ext hext.out) 1 _ rfl
  by_cases hlt : k < cs.length
  · have hlt' : (k : Int) < cs.length := by omega
    obtain ⟨b, off, a1, a2, a3, a4, c1, c2, c3, c4, rfl, ⟨g0, g1, g2, g3, g4⟩, hca, _⟩ := (h.out.ext (hx0.out.trans hext.out)) k hlt
    obtain ⟨b', off', p1, p2, p3, p4, q1, q2, q3, q4, rfl, ⟨f0, f1, f2, f3, f4⟩, hcb, _⟩ := (h'.out.ext (hx0.out.trans hext.out)) k hlt
    have hlk := hide (hl.out k hlt)
    replace hca := hide hca
    replace hcb := hide hcb
    generalize cs.getD k col0 = C at *
    obtain ⟨ck, cp, cd, cc, cr⟩ := C
    simp only at g0 g1 g2 g3 g4 f0 f1 f2 f3 f4
    go_wp2
    refine Dr.region_text (by kernel_rfl) ?_
    go_wp2_with fail
    refine (eqLColumn ⟨ck, cp, cd, cc, cr⟩ a1 a2 a3 a4 p1 p2 p3 p4 c1 c2 c3 c4 q1 q2 q3 q4 _ (hca.out.extC (Ext.refl _).drew) (hcb.out.extC (Ext.refl _).drew) hlk).mono ?_
    rintro e w1 ⟨rfl, x1⟩
    have X1 : Hid (Ext W w1) := hext.out.drew.trans x1
    clear x1
    go_wp2
    refine ⟨by rfl, ?_⟩
    go_wp2
    go_roundw
    case rel => exact ⟨k + 1, by go_num, by omega, X1.out⟩
    case measure => simp [intOf]; omega
  · obtain rfl : k = cs.length := by omega
    clear hlt hk
    go_wp2
    go_ret
    exact ⟨rfl, hx0.out.trans hext.out⟩

/-! ### sizes -/
def szc (c : Col) : Nat := c.plain.length + c.dict.length + c.codes.length + c.runs.length
def szTo (cs : List Col) (k : Nat) : Nat := ((cs.take k).map szc).sum
theorem szTo_succ (cs : List Col) (k : Nat) (h : k < cs.length) : szTo cs (k + 1) = szTo cs k + szc (cs.getD k col0) := by
  unfold szTo
  rw [List.take_succ_eq_append_getElem h, List.map_append, List.sum_append]
  congr 1
  simp [List.getElem?_eq_getElem h]
theorem szTo_le (cs : List Col) : ∀ (m k : Nat), k + m ≤ cs.length → szTo cs k ≤ szTo cs (k + m)
  | 0, k, _ => Nat.le_refl _
  | m + 1, k, h => by
    have := szTo_le cs m k (by omega)
    rw [← Nat.add_assoc, szTo_succ cs (k + m) (by omega)]
    omega
theorem szTo_all (cs : List Col) (k : Nat) (h : k ≤ cs.length) : szTo cs k ≤ szTo cs cs.length := by
  have := szTo_le cs (cs.length - k) k (by omega)
  rwa [Nat.add_sub_cancel' h] at this
theorem szTo_len (cs : List Col) (i : Nat) (h : i < cs.length) : szc (cs.getD i col0) ≤ szTo cs cs.length := by
  have h1 := szTo_succ cs i h
  have h2 := szTo_all cs (i + 1) h
  omega

set_option maxHeartbeats 4000000 in
theorem szTable (cs : List Col) (n : Int) (a : Option Addr) (cap : Nat) (w : World) (h : Hid (ColsAt w a cs)) (T : Nat) (hTe : Hid (T = cs.length + szTo cs cs.length)) (hTb : Hid (T ≤ 1048576)) :
    Calls Yabn.prog 35 #[.agg #[.int .i64 n, .slice a cs.length cap]] w (RetIE T w) := by
  have hT : Hid (cs.length + szTo cs cs.length ≤ 1048576) := by simp only [Hid]; have := hTe.out; have := hTb.out; omega
  have hbA : Box (w.alloc (.cells #[.int .i64 n, .slice a cs.length cap] 34)) w.heap.size _ := Box.new w _ _
  have hx0 : Ext w (w.alloc (.cells #[.int .i64 n, .slice a cs.length cap] 34)) := (Ext.refl w).alloc _
  replace hbA := hide hbA
  replace hx0 := hide hx0
  have hcl : cs.length ≤ 1048576 := by have := hT.out; omega
  go_enter Yabn.func35, Yabn.ntmps35
  go_wp2
  generalize (w.alloc (.cells #[.int .i64 n, .slice a cs.length cap] 34)) = W at *
  go_loopw [3, 4] (fun s i wr => ∃ (k t : Nat), s = .int .i64 t ∧ i = .int .i64 k ∧ k ≤ cs.length ∧ Hid (t = cs.length + szTo cs k) ∧ Hid (Ext W wr)) (fun _ i _ => cs.length - (intOf i).toNat)
  case atStart => exact ⟨0, cs.length, rfl, rfl, by omega, (by simp [Hid, szTo]), Ext.refl W⟩
  obtain ⟨k, t, rfl, rfl, hk, ht, hext⟩ := hrel
  have m1 := (hbA.out.ext hext.out) 1 _ rfl
  have htb : t ≤ 1048576 := by have := ht.out; have := hT.out; have := szTo_all cs k hk; omega
  have htI : (t : Int) ≤ 1048576 := by omega
  by_cases hlt : k < cs.length
  · have hlt' : (k : Int) < cs.length := by omega
    obtain ⟨b, off, a1, a2, a3, a4, c1, c2, c3, c4, rfl, ⟨g0, g1, g2, g3, g4⟩, _, _⟩ := (h.out.ext (hx0.out.trans hext.out)) k hlt
    have hs1 := szTo_succ cs k hlt
    have hs2 := szTo_len cs k hlt
    have hs3 := szTo_all cs (k + 1) hlt
    have htt := ht.out
    have hTT := hT.out
    generalize cs.getD k col0 = C at *
    obtain ⟨ck, cp, cd, cc, cr⟩ := C
    simp only [szc] at g0 g1 g2 g3 g4 hs1 hs2
    have hsum : cp.length + cd.length + cc.length + cr.length ≤ 1048576 := by omega
    have hnt : Hid (t + (cp.length + cd.length + cc.length + cr.length) = cs.length + szTo cs (k + 1)) := by simp only [Hid]; omega
    have hub : t + (cp.length + cd.length + cc.length + cr.length) ≤ 1048576 := by omega
    clear hs1 hs2 hs3 htt hTT
    go_wp2_with fail
    refine (szColumn ⟨ck, cp, cd, cc, cr⟩ a1 a2 a3 a4 c1 c2 c3 c4 wr hsum).mono ?_
    rintro e w1 ⟨rfl, x1⟩
    replace x1 := hide x1
    simp only
    go_wp2
    go_roundw
    case rel => exact ⟨k + 1, t + (cp.length + cd.length + cc.length + cr.length), by go_num, by go_num, by omega, hnt.out, hext.out.trans x1.out⟩
    case measure => simp [intOf]; omega
  · obtain rfl : k = cs.length := by omega
    obtain rfl : t = T := ht.out.trans hTe.out.symm
    clear hlt hk
    go_wp2
    go_ret
    exact ⟨rfl, hx0.out.trans hext.out⟩
end Go.Proofs.Ybyabw
