/- Walk: spec.RefBuildTable -/
import Derived.Test.YbyabwGreatBldTab
import Derived.Test.YbyabwGreatRefDecTab
namespace Go.Proofs.YbyabwGreat
open Go.RowKit
set_option maxRecDepth 100000
set_option linter.unusedVariables false

def RetTD (N : Int) (cs : List Col) (b : Bool) (w : World) : Ending → World → Prop := fun en w' => ∃ a cap, en = .returned (.tuple #[.agg #[.int .i64 N, .slice a cs.length cap], .bool b]) ∧ ColsAt w' a cs ∧ Ext w w'
def RetTR (n : Nat) (f : Nat → List Int) (ks : List Int) (w : World) : Ending → World → Prop := fun en w' => (BOK n f ks ∧ RetTD n (colsT n f ks) true w en w') ∨ (¬ BOK n f ks ∧ RetTD 0 [] false w en w')

section
variable {ops : Array Oper} {rest : List Oper} {o : Oper} {a : Act} {Q : Exit → Act → World → Prop} {w : World}
theorem app_col (hg : o.guard = none) {s x : Operand} (ho : o.op = .call { callee := .builtin .append, args := #[s, x], argTypes := #[25, 25] })
    (base : Nat) (hE : base ≤ w.heap.size) (v : Value) (rows : List (List Value)) (y : List Value) (hs : a.eval s = v) (hown : OwnV w base 69 5 v rows)
    (B c : Nat) (hx : a.eval x = .slice (some ⟨B, 0, none⟩) 1 c) (hblk : w.heap[B]? = some (.cells y.toArray 69 (0, 0))) (hy : y.length = 5) (h1 : ∀ u ∈ y, u.oneCell' = true) (hb : rows.length < 2 ^ 39)
    (h : ∀ g cap w', OwnV w' base 69 5 (.slice (some ⟨g, 0, none⟩) (rows.length + 1) cap) (rows ++ [y]) → w.grownBy w' v.ownBlock → (v.ownBlock = some g ∨ g = w.heap.size) → g < w'.heap.size →
      wpList Yabn.prog ops Q rest (a.put o.dst (.slice (some ⟨g, 0, none⟩) (rows.length + 1) cap)) w') : wpList Yabn.prog ops Q (o :: rest) a w := by
  obtain ⟨i, h2, h3, h4, h5⟩ := info_parts info_col
  exact wpList_appV hg ho 69 Yabn.underlying25 h2 h3 h4 (by omega) rfl (by omega) base hE v rows y hs hown B c hx hblk hy h1 hb h
end
theorem OwnCol.rowGrown {e : TypeId} {w w' : World} {base b k n : Nat} {c : Col} {a1 a2 a3 a4 : Option Addr} {c1 c2 c3 c4 : Nat} {v : Value} {xs : List Value} (h : OwnCol w base c a1 a2 a3 a4 c1 c2 c3 c4) (hv : w.ownsRow b e k v n xs) (hg : w.grownBy w' v.ownBlock)
    (h1 : 2 ≠ e) (h2 : 3 ≠ e) (h3 : 132 ≠ e) : OwnCol w' base c a1 a2 a3 a4 c1 c2 c3 c4 :=
  ⟨h.plain.but hg (apart_types h.plain hv h1), h.dict.but hg (apart_types h.dict hv h1), h.codes.but hg (apart_types h.codes hv h2), h.runs.but hg (apart_types h.runs hv h3)⟩
theorem colV_cells (c : Col) (a1 a2 a3 a4 : Option Addr) (c1 c2 c3 c4 : Nat) : colV c a1 a2 a3 a4 c1 c2 c3 c4 = .agg (cellsC c a1 a2 a3 a4 c1 c2 c3 c4).toArray := rfl

/-- The first k rows are the cells of the first k columns. -/
def ColRowsR (w : World) (base : Nat) (rows : List (List Value)) (cs : List Col) (k : Nat) : Prop :=
  ∀ i, i < k → ∃ a1 a2 a3 a4 c1 c2 c3 c4, rows.getD i [] = cellsC (cs.getD i col0) a1 a2 a3 a4 c1 c2 c3 c4 ∧ OwnCol w base (cs.getD i col0) a1 a2 a3 a4 c1 c2 c3 c4
theorem ColRowsR.ext {w w' : World} {base : Nat} {rows : List (List Value)} {cs : List Col} {k : Nat} (h : ColRowsR w base rows cs k) (he : Ext w w') : ColRowsR w' base rows cs k := fun i hi => by
  obtain ⟨a1, a2, a3, a4, c1, c2, c3, c4, e, ho⟩ := h i hi
  exact ⟨a1, a2, a3, a4, c1, c2, c3, c4, e, ho.ext he⟩
theorem ColRowsR.at {e : TypeId} {w : World} {base b : Nat} {rows : List (List Value)} {cs : List Col} {a : Option Addr} {n cap : Nat} (h : ColRowsR w base rows cs cs.length) (hv : OwnV w b e 5 (.slice a n cap) rows) (hr : rows.length = cs.length) (hl : ∀ i, i < cs.length → LenC (cs.getD i col0)) : ColsAt w a cs := fun i hi => by
  obtain ⟨a1, a2, a3, a4, c1, c2, c3, c4, e, ho⟩ := h i hi
  obtain ⟨g, off, ea, hc⟩ := hv.rows i (by omega)
  rw [e] at hc
  have hl' := hl i hi
  exact ⟨g, off, a1, a2, a3, a4, c1, c2, c3, c4, ea, ⟨hc 0 _ rfl, hc 1 _ rfl, hc 2 _ rfl, hc 3 _ rfl, hc 4 _ rfl⟩, ho.colAt, ⟨by have := hl'.plain; omega, by have := hl'.dict; omega, by have := hl'.codes; omega, by have := hl'.runs; omega⟩⟩
theorem ColRowsR.snoc {w1 w2 : World} {base b kk n : Nat} {rows : List (List Value)} {cs : List Col} {k : Nat} {v : Value} {vs : List Value} {a1 a2 a3 a4 : Option Addr} {c1 c2 c3 c4 : Nat} (h : ColRowsR w1 base rows cs k) (hr : rows.length = k) (hv : w1.ownsRow b 69 kk v n vs) (hg : w1.grownBy w2 v.ownBlock) (ho : OwnCol w1 base (cs.getD k col0) a1 a2 a3 a4 c1 c2 c3 c4) :
    ColRowsR w2 base (rows ++ [cellsC (cs.getD k col0) a1 a2 a3 a4 c1 c2 c3 c4]) cs (k + 1) := fun i hi => by
  rcases Nat.lt_or_ge i k with hik | hik
  · obtain ⟨a1, a2, a3, a4, c1, c2, c3, c4, e, ho⟩ := h i hik
    refine ⟨a1, a2, a3, a4, c1, c2, c3, c4, ?_, ho.rowGrown hv hg (by decide) (by decide) (by decide)⟩
    rw [← e, List.getD_eq_getElem?_getD, List.getElem?_append_left (by omega), ← List.getD_eq_getElem?_getD]
  · obtain rfl : i = k := by omega
    refine ⟨a1, a2, a3, a4, c1, c2, c3, c4, ?_, ho.rowGrown hv hg (by decide) (by decide) (by decide)⟩
    rw [List.getD_eq_getElem?_getD, List.getElem?_append_right (by omega)]
    simp [hr]

/-- A table's columns, of the call's own. -/
def OwnCols (w : World) (base : Nat) (a : Option Addr) (cap : Nat) (cs : List Col) : Prop := ∃ rows, OwnV w base 69 5 (.slice a cs.length cap) rows ∧ rows.length = cs.length ∧ ColRowsR w base rows cs cs.length ∧ ∀ i, i < cs.length → LenC (cs.getD i col0)
theorem OwnCols.at {w : World} {base : Nat} {a : Option Addr} {cap : Nat} {cs : List Col} (h : OwnCols w base a cap cs) : ColsAt w a cs := by
  obtain ⟨rows, h1, h2, h3, h4⟩ := h
  exact h3.at h1 h2 h4
theorem OwnCols.nil (w : World) (base : Nat) : OwnCols w base none 0 [] := ⟨[], OwnV.nil w base _ 5, rfl, fun i hi => by simp at hi, fun i hi => by simp at hi⟩
theorem OwnCols.ext {w w' : World} {base : Nat} {a : Option Addr} {cap : Nat} {cs : List Col} (h : OwnCols w base a cap cs) (he : Ext w w') : OwnCols w' base a cap cs := by
  obtain ⟨rows, h1, h2, h3, h4⟩ := h
  exact ⟨rows, OwnV.ext h1 he, h2, h3.ext he, h4⟩
theorem OwnCols.mono {w : World} {base base' : Nat} {a : Option Addr} {cap : Nat} {cs : List Col} (h : OwnCols w base a cap cs) (hb : base' ≤ base) : OwnCols w base' a cap cs := by
  obtain ⟨rows, h1, h2, h3, h4⟩ := h
  refine ⟨rows, OwnV.mono h1 hb, h2, fun i hi => ?_, h4⟩
  obtain ⟨a1, a2, a3, a4, c1, c2, c3, c4, e, ho⟩ := h3 i hi
  exact ⟨a1, a2, a3, a4, c1, c2, c3, c4, e, ho.mono hb⟩
theorem OwnCols.kept {w w' : World} {base b : Nat} {a : Option Addr} {cap : Nat} {cs : List Col} (h : OwnCols w base a cap cs) (hg : w.grownBy w' (some b)) (hb : b < base) : OwnCols w' base a cap cs := by
  obtain ⟨rows, h1, h2, h3, h4⟩ := h
  refine ⟨rows, ⟨h1.1, ownsRow_kept h1.2 hg hb⟩, h2, fun i hi => ?_, h4⟩
  obtain ⟨a1, a2, a3, a4, c1, c2, c3, c4, e, ho⟩ := h3 i hi
  exact ⟨a1, a2, a3, a4, c1, c2, c3, c4, e, ho.kept hg hb⟩
def RetTDo (N : Int) (cs : List Col) (b : Bool) (w : World) : Ending → World → Prop := fun en w' => ∃ a cap, en = .returned (.tuple #[.agg #[.int .i64 N, .slice a cs.length cap], .bool b]) ∧ OwnCols w' w.heap.size a cap cs ∧ Ext w w'
def RetTRo (n : Nat) (f : Nat → List Int) (ks : List Int) (w : World) : Ending → World → Prop := fun en w' => (BOK n f ks ∧ RetTDo n (colsT n f ks) true w en w') ∨ (¬ BOK n f ks ∧ RetTDo 0 [] false w en w')
set_option maxHeartbeats 32000000 in
theorem RefBuildTableO (n : Nat) (f : Nat → List Int) (ks : List Int) (a ak : Option Addr) (c ck : Nat) (w : World) (h : Hid (IRows w a n f)) (hk : Hid (IntsAt w ak ks)) (ln : n < 2 ^ 39) (lk : ks.length < 2 ^ 39) (hlf : Hid (∀ i, i < n → (f i).length < 2 ^ 39)) :
    Calls Yabn.prog 13 #[.slice a n c, .slice ak ks.length ck] w (RetTRo n f ks w) := by
  have hbZ : Blk (w.alloc (.cells #[.int .i64 0, .slice none 0 0] 27)) w.heap.size 27 (tabCells 0 none 0 0) := Blk.new w _ _
  have hx0 : Ext w (w.alloc (.cells #[.int .i64 0, .slice none 0 0] 27)) := (Ext.refl w).alloc _
  replace hbZ := hide hbZ
  replace hx0 := hide hx0
  by_cases hbig : 65536 < (n : Int) ∨ 256 < (ks.length : Int)
  · have hno : Hid (¬ BOK n f ks) := fun hh => by have h1 := hh.1; have h2 := hh.2.1; omega
    have hbz := hbZ
    by_cases hb1 : 65536 < (n : Int)
    · go_enter Yabn.func13, Yabn.ntmps13
      go_wp2_with (refine wpList_storeB (vs := tabCells 0 none 0 0) rfl rfl (by rfl) (by rfl) hbz.out size_tab rfl (tabCells_one _ _ _ _) ?_; intro w9 hb9 hgr9; replace hgr9 := hide hgr9; replace hb9 := hide hb9)
      refine bodyPost_ret (results_cell2 rfl (by rfl) hb9.out Yabn.underlying27 size_tab) rfl ?_
      exact .inr ⟨hno.out, none, 0, rfl, OwnCols.nil _ _, Ext.grown hx0.out hgr9.out (by intro k hk; cases hk; exact Nat.le_refl _)⟩
    · have hb2 : 256 < (ks.length : Int) := by omega
      go_enter Yabn.func13, Yabn.ntmps13
      go_wp2_with (refine wpList_storeB (vs := tabCells 0 none 0 0) rfl rfl (by rfl) (by rfl) hbz.out size_tab rfl (tabCells_one _ _ _ _) ?_; intro w9 hb9 hgr9; replace hgr9 := hide hgr9; replace hb9 := hide hb9)
      refine bodyPost_ret (results_cell2 rfl (by rfl) hb9.out Yabn.underlying27 size_tab) rfl ?_
      exact .inr ⟨hno.out, none, 0, rfl, OwnCols.nil _ _, Ext.grown hx0.out hgr9.out (by intro k hk; cases hk; exact Nat.le_refl _)⟩
  have hn1 : ¬ 65536 < (n : Int) := by omega
  have hk1 : ¬ 256 < (ks.length : Int) := by omega
  have hn2 : (n : Int) ≤ 65536 := by omega
  have hk2 : (ks.length : Int) ≤ 256 := by omega
  have d1 : decide (65536 < (n : Int)) = false := by simp; omega
  have d2 : decide (256 < (ks.length : Int)) = false := by simp; omega
  have d3 : decide (65536 < n) = false := by simp; omega
  have d4 : decide (256 < ks.length) = false := by simp; omega
  clear hbig
  go_enter Yabn.func13, Yabn.ntmps13
  go_wp2
  generalize (w.alloc (.cells #[.int .i64 0, .slice none 0 0] 27)) = Z at *
  go_loopw [6] (fun i wr => ∃ k : Nat, i = .int .i64 k ∧ k ≤ ks.length ∧ Hid (∀ j, j < k → 0 ≤ ks.getD j 0 ∧ ks.getD j 0 ≤ 2) ∧ Hid (Ext Z wr)) (fun i _ => ks.length - (intOf i).toNat)
  case atStart => exact ⟨0, rfl, by omega, fun j hj => by omega, Ext.refl Z⟩
  obtain ⟨k, rfl, hkk, hall, hext⟩ := hrel
  by_cases hlt : k < ks.length
  · have hlt' : (k : Int) < ks.length := by omega
    obtain ⟨b, off, rfl, g1⟩ := (hk.out.ext (hx0.out.trans hext.out)) k hlt
    have hstep : 0 ≤ ks.getD k 0 ∧ ks.getD k 0 ≤ 2 → ∀ j, j < k + 1 → 0 ≤ ks.getD j 0 ∧ ks.getD j 0 ≤ 2 := fun hh j hj => by
      by_cases hjk : j = k
      · subst hjk; exact hh
      · exact hall.out j (by omega)
    have hnoo : ¬ (0 ≤ ks.getD k 0 ∧ ks.getD k 0 ≤ 2) → ¬ BOK n f ks := fun hh hb => hh (hb.2.2.1 k hlt)
    replace hstep := hide hstep
    replace hnoo := hide hnoo
    have hbz := hide (hbZ.out.ext hext.out)
    generalize ks.getD k 0 = y at *
    by_cases hy0 : y < 0
    · have hno := hide (hnoo.out (by omega))
      clear hnoo hstep
      go_wp2_with (refine wpList_storeB (vs := tabCells 0 none 0 0) rfl rfl (by rfl) (by rfl) hbz.out size_tab rfl (tabCells_one _ _ _ _) ?_; intro w9 hb9 hgr9; replace hgr9 := hide hgr9; replace hb9 := hide hb9)
      refine bodyPost_ret (results_cell2 rfl (by rfl) hb9.out Yabn.underlying27 size_tab) rfl ?_
      exact .inr ⟨hno.out, none, 0, rfl, OwnCols.nil _ _, Ext.grown (hx0.out.trans hext.out) hgr9.out (by intro k hk; cases hk; exact Nat.le_refl _)⟩
    · by_cases hy2 : 2 < y
      · have hno := hide (hnoo.out (by omega))
        clear hnoo hstep
        go_wp2_with (refine wpList_storeB (vs := tabCells 0 none 0 0) rfl rfl (by rfl) (by rfl) hbz.out size_tab rfl (tabCells_one _ _ _ _) ?_; intro w9 hb9 hgr9; replace hgr9 := hide hgr9; replace hb9 := hide hb9)
        refine bodyPost_ret (results_cell2 rfl (by rfl) hb9.out Yabn.underlying27 size_tab) rfl ?_
        exact .inr ⟨hno.out, none, 0, rfl, OwnCols.nil _ _, Ext.grown (hx0.out.trans hext.out) hgr9.out (by intro k hk; cases hk; exact Nat.le_refl _)⟩
      · have hs2 := hide (hstep.out (by omega))
        clear hnoo hstep
        go_wp2
        go_roundw
        case rel => exact ⟨k + 1, by go_num, by omega, hs2.out, hext.out⟩
        case measure => simp [intOf]; omega
  obtain rfl : k = ks.length := by omega
  clear hlt hkk
  obtain ⟨Z2, rfl⟩ : ∃ Z2, Z2 = wr := ⟨_, rfl⟩
  have hx2 : Hid (Ext w Z2) := hx0.out.trans hext.out
  have hbZ2 := hide (hbZ.out.ext hext.out)
  have zZ : w.heap.size < Z2.heap.size := hbZ2.out.lt
  clear hbZ hext
  go_wp2
  go_loopw [7] (fun i wr => ∃ k : Nat, i = .int .i64 k ∧ k ≤ n ∧ Hid (∀ j, j < k → (f j).length = ks.length) ∧ Hid (Ext Z2 wr)) (fun i _ => n - (intOf i).toNat)
  case atStart => exact ⟨0, rfl, by omega, fun j hj => by omega, Ext.refl Z2⟩
  obtain ⟨k, rfl, hkk, hall2, hext⟩ := hrel
  by_cases hlt : k < n
  · have hlt' : (k : Int) < n := by omega
    obtain ⟨b, off, p, q, rfl, g1, _⟩ := (h.out.ext (hx2.out.trans hext.out)) k hlt
    have hlk := hlf.out k hlt
    have hbz := hide (hbZ2.out.ext hext.out)
    by_cases he : (f k).length = ks.length
    · have hs2 : Hid (∀ j, j < k + 1 → (f j).length = ks.length) := fun j hj => by
        by_cases hjk : j = k
        · subst hjk; exact he
        · exact hall2.out j (by omega)
      rw [he] at g1
      have hnn : ((ks.length : Int) != ks.length) = false := by simp
      clear he hlk
      go_wp2
      go_roundw
      case rel => exact ⟨k + 1, by go_num, by omega, hs2.out, hext.out⟩
      case measure => simp [intOf]; omega
    · have hno : Hid (¬ BOK n f ks) := fun hh => he (hh.2.2.2 k hlt)
      have hne : (((f k).length : Int) != ks.length) = true := by simp; omega
      generalize (f k).length = L at *
      replace he := hide he
      go_wp2_with (refine wpList_storeB (vs := tabCells 0 none 0 0) rfl rfl (by rfl) (by rfl) hbz.out size_tab rfl (tabCells_one _ _ _ _) ?_; intro w9 hb9 hgr9; replace hgr9 := hide hgr9; replace hb9 := hide hb9)
      refine bodyPost_ret (results_cell2 rfl (by rfl) hb9.out Yabn.underlying27 size_tab) rfl ?_
      exact .inr ⟨hno.out, none, 0, rfl, OwnCols.nil _ _, Ext.grown (hx2.out.trans hext.out) hgr9.out (by intro k hk; cases hk; exact Nat.le_refl _)⟩
  obtain rfl : k = n := by omega
  obtain ⟨n, rfl⟩ : ∃ n, n = k := ⟨_, rfl⟩
  clear hlt hkk
  have hok : Hid (BOK n f ks) := ⟨by omega, by omega, hall.out, hall2.out⟩
  obtain ⟨Z3, rfl⟩ : ∃ Z3, Z3 = wr := ⟨_, rfl⟩
  have hx3 : Hid (Ext w Z3) := hx2.out.trans hext.out
  have hbZ3 := hide (hbZ2.out.ext hext.out)
  have zZ3 : w.heap.size < Z3.heap.size := hbZ3.out.lt
  clear hbZ2 hext hx2 zZ
  go_wp2
  go_loopw [8, 9] (fun v i wr => ∃ (j : Nat) (rows : List (List Value)), i = .int .i64 j ∧ j ≤ ks.length ∧ Hid (rows.length = j) ∧ Hid (OwnV wr Z3.heap.size 69 5 v rows) ∧ Hid (ColRowsR wr Z3.heap.size rows (colsT n f ks) j) ∧ Hid (Ext Z3 wr)) (fun _ i _ => ks.length - (intOf i).toNat)
  case atStart => exact ⟨0, [], rfl, by omega, rfl, OwnV.nil _ _ _ _, fun i hi => by omega, Ext.refl Z3⟩
  obtain ⟨j, rows, rfl, hj, hrl, hown, hrows, hext⟩ := hrel
  obtain ⟨W, rfl⟩ : ∃ W, W = wr := ⟨_, rfl⟩
  have zW := hext.out.size
  have hX : Hid (Ext w W) := hx3.out.trans hext.out
  by_cases hlt : j < ks.length
  · have hlt' : (j : Int) < ks.length := by omega
    have hkj := hall.out j hlt
    have hnew : ∀ (v1 w2 : World) (v : Value) (m : Nat) (vs : List Value) p1 p2 p3 p4 q1 q2 q3 q4, Ext W v1 → v1.ownsRow Z3.heap.size 69 5 v m vs → v1.grownBy w2 v.ownBlock → OwnCol v1 W.heap.size (encOf (ks.getD j 0) (colT n f j)) p1 p2 p3 p4 q1 q2 q3 q4 →
        ColRowsR w2 Z3.heap.size (rows ++ [cellsC (encOf (ks.getD j 0) (colT n f j)) p1 p2 p3 p4 q1 q2 q3 q4]) (colsT n f ks) (j + 1) := by
      intro v1 w2 v m vs p1 p2 p3 p4 q1 q2 q3 q4 hx hv hg ho
      rw [← colsT_at n f ks j hlt] at ho ⊢
      exact ColRowsR.snoc (hrows.out.ext hx) hrl.out hv hg (ho.mono zW)
    replace hnew := hide hnew
    obtain ⟨bk, offk, rfl, gk0⟩ := (hk.out.ext hX.out) j hlt
    have hcl := hide (colT_len n f j)
    go_wp2
    go_loopw [10, 11] (fun v i wr => ∃ (k : Nat), i = .int .i64 k ∧ k ≤ n ∧ Hid (OwnI wr W.heap.size 2 v ((colT n f j).take k)) ∧ Hid (Ext W wr)) (fun _ i _ => n - (intOf i).toNat)
    case atStart => exact ⟨0, rfl, by omega, OwnI.nil _ _ _, Ext.refl W⟩
    obtain ⟨k, rfl, hkk, orow, hx4⟩ := hrel
    have zW4 := hx4.out.size
    by_cases hltk : k < n
    · have hltk' : (k : Int) < n := by omega
      obtain ⟨b, off, p, q, rfl, g1, hrow⟩ := (h.out.ext (hX.out.trans hx4.out)) k hltk
      have hfk := hall2.out k hltk
      rw [hfk] at g1
      obtain ⟨b2, off2, rfl, g2⟩ := hrow j (by omega)
      have htk := take_succ_getD2 (colT n f j) k (by rw [hcl.out]; exact hltk)
      rw [colT_at n f j k hltk] at htk
      have hln : ((colT n f j).take k).length < 2 ^ 39 := by simp; omega
      generalize (f k).getD j 0 = y at *
      generalize (colT n f j).take k = ps at *
      replace htk := hide htk
      replace hln := hide hln
      replace hfk := hide hfk
      have hb2 := cell_lt g2
      have hb1' := cell_lt g1
      simp only at hb2 hb1'
      clear hrow
      go_wp2_with (at_builtin; refine app_i64 rfl rfl W.heap.size (by simp; omega) _ ps y rfl (orow.out.alloc _) wr.heap.size 1 (by rfl) (heap_alloc_new wr _) hln.out ?_; intro g cap w2 hown2 hgr hor hlt2; replace hgr := hide hgr; replace hown2 := hide hown2; replace hor := hide hor)
      go_roundw
      case rel =>
        refine ⟨k + 1, by go_num, by omega, hown2.out.congr htk.out, (hx4.out.alloc _).grown hgr.out ?_⟩
        intro q hq; exact orow.out.block q hq
      case measure => simp [intOf]; omega
    obtain rfl : k = n := by omega
    obtain ⟨n, rfl⟩ : ∃ n, n = k := ⟨_, rfl⟩
    clear hltk hkk
    have hfull : (colT n f j).take n = colT n f j := by have e := List.take_length (l := colT n f j); rw [hcl.out] at e; exact e
    rw [hfull] at orow
    obtain ⟨pr, qr, rfl, _⟩ := orow.out.form
    obtain ⟨W6, rfl⟩ : ∃ W6, W6 = wr := ⟨_, rfl⟩
    have hvi : Hid (IntsAt W6 pr (colT n f j)) := OwnI.ints orow.out
    have gk1 := hx4.out.cell gk0
    have hown6 := hide (hown.out.ext hx4.out)
    have hbk := cell_lt gk1
    simp only at hbk
    clear gk0 orow hfull
    have hln : rows.length < 2 ^ 39 := by have := hrl.out; omega
    replace hln := hide hln
    generalize ks.getD j 0 = y at *
    go_wp2_with fail
    refine (RefEncode y (colT n f j) pr qr W6 hvi.out (by omega)).mono ?_
    rintro e w1 ⟨p1, p2, p3, p4, q1, q2, q3, q4, rfl, O1, x1⟩
    rw [colV_cells]
    have z1 := x1.size
    generalize hE : encOf y (colT n f j) = E at *
    obtain ⟨ck, cp, cd, cc, cr⟩ := E
    have ho1 := hide ((hown6.out.ext x1).alloc (.cells (cellsC ⟨ck, cp, cd, cc, cr⟩ p1 p2 p3 p4 q1 q2 q3 q4).toArray 69))
    have O2 := hide ((O1.mono zW4).ext ((Ext.refl w1).alloc (.cells (cellsC ⟨ck, cp, cd, cc, cr⟩ p1 p2 p3 p4 q1 q2 q3 q4).toArray 69)))
    have X1 : Hid (Ext W (w1.alloc (.cells (cellsC ⟨ck, cp, cd, cc, cr⟩ p1 p2 p3 p4 q1 q2 q3 q4).toArray 69))) := (hx4.out.trans x1).alloc _
    replace hE := hide hE
    clear O1 x1 gk1
    simp only [cellsC]
    go_wp2_with (at_builtin; refine app_col rfl rfl Z3.heap.size (by simp; omega) _ rows (cellsC ⟨ck, cp, cd, cc, cr⟩ p1 p2 p3 p4 q1 q2 q3 q4) rfl ho1.out w1.heap.size 1 (by rfl) (heap_alloc_new w1 _) rfl (cellsC_one _ _ _ _ _ _ _ _ _) hln.out ?_; intro g cp2 w2 hown2 hgr hor hlt2; replace hgr := hide hgr; replace hown2 := hide hown2; replace hor := hide hor)
    have hfin := hide (hnew.out _ w2 _ _ _ p1 p2 p3 p4 q1 q2 q3 q4 X1.out ho1.out.2 hgr.out O2.out)
    have X2 : Hid (Ext Z3 w2) := (hext.out.trans X1.out).grown hgr.out (fun q hq => hown.out.block q hq)
    have hrl2 : Hid (rows.length + 1 = j + 1) := by simp only [Hid]; rw [hrl.out]
    clear O2 ho1 X1 hnew
    rw [show rows.length = j from hrl.out] at hown2 ⊢
    go_wp2
    go_roundw
    case rel => exact ⟨j + 1, _, by go_num, by omega, (by simp only [Hid, List.length_append, List.length_singleton]; exact hrl2.out), hown2.out, hfin.out, X2.out⟩
    case measure => simp [intOf]; omega
  obtain rfl : j = ks.length := by omega
  clear hlt hj
  obtain ⟨p, q, rfl, _⟩ := hown.out.form
  have hbz := hide (hbZ3.out.ext hext.out)
  rw [show rows.length = ks.length from hrl.out] at hown ⊢
  go_wp2_with (refine wpList_storeB (vs := tabCells n p ks.length q) rfl rfl (by rfl) (by rfl) hbz.out size_tab rfl (tabCells_one _ _ _ _) ?_; intro w2 hb2 hgr; replace hgr := hide hgr; replace hb2 := hide hb2)
  refine bodyPost_ret (results_cell2 rfl (by rfl) hb2.out Yabn.underlying27 size_tab) rfl ?_
  have hx2 : Ext w w2 := hX.out.grown hgr.out (by intro k hk; cases hk; exact Nat.le_refl _)
  have bS : But (fun k => k = w.heap.size) W w2 := But.of_grown hgr.out (fun k hk => by cases hk; rfl)
  have hv2 : OwnV w2 Z3.heap.size 69 5 (.slice p ks.length q) rows := ⟨hown.out.1, bS.row hown.out.2 (fun k hk he => by have := hown.out.block k hk; omega)⟩
  have hr2 : ColRowsR w2 Z3.heap.size rows (colsT n f ks) ks.length := fun i hi => by
    obtain ⟨a1, a2, a3, a4, c1, c2, c3, c4, e, ho⟩ := hrows.out i hi
    exact ⟨a1, a2, a3, a4, c1, c2, c3, c4, e, ho.kept hgr.out (by omega)⟩
  have hcl := colsT_len n f ks
  have hlc : ∀ i, i < (colsT n f ks).length → LenC ((colsT n f ks).getD i col0) := fun i hi => by
    rw [colsT_at n f ks i (by omega)]
    exact encOf_len _ _
  rw [← hcl] at hr2
  refine .inl ⟨hok.out, p, q, by rw [hcl]; rfl, OwnCols.mono ⟨rows, by rw [hcl]; exact hv2, by rw [hcl]; exact hrl.out, hr2, hlc⟩ (by omega), hx2⟩
theorem RefBuildTable (n : Nat) (f : Nat → List Int) (ks : List Int) (a ak : Option Addr) (c ck : Nat) (w : World) (h : Hid (IRows w a n f)) (hk : Hid (IntsAt w ak ks)) (ln : n < 2 ^ 39) (lk : ks.length < 2 ^ 39) (hlf : Hid (∀ i, i < n → (f i).length < 2 ^ 39)) :
    Calls Yabn.prog 13 #[.slice a n c, .slice ak ks.length ck] w (RetTR n f ks w) := by
  refine (RefBuildTableO n f ks a ak c ck w h hk ln lk hlf).mono ?_
  rintro e w' (⟨h1, a', cap', h2, h3, h4⟩ | ⟨h1, a', cap', h2, h3, h4⟩)
  · exact .inl ⟨h1, a', cap', h2, h3.at, h4⟩
  · exact .inr ⟨h1, a', cap', h2, h3.at, h4⟩
end Go.Proofs.YbyabwGreat
