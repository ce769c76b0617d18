/- Walk: impl.BuildTable -/
import Derived.Test.YbyabwExactEnc
import Derived.Test.YbyabwTabN
import Derived.Test.YbyabwRowL
namespace Go.Proofs.Ybyabw
open Go.RowKit
set_option maxRecDepth 100000
set_option linter.unusedVariables false

/-- Column j of n rows. -/
def colT (n : Nat) (f : Nat → List Int) (j : Nat) : List Int := (List.range n).map fun i => (f i).getD j 0
theorem colT_len (n : Nat) (f : Nat → List Int) (j : Nat) : (colT n f j).length = n := by simp [colT]
theorem colT_at (n : Nat) (f : Nat → List Int) (j i : Nat) (h : i < n) : (colT n f j).getD i 0 = (f i).getD j 0 := by simp [colT, List.getD_eq_getElem?_getD, h]
def colsT (n : Nat) (f : Nat → List Int) (ks : List Int) : List Col := (List.range ks.length).map fun j => encOf (ks.getD j 0) (colT n f j)
theorem colsT_len (n : Nat) (f : Nat → List Int) (ks : List Int) : (colsT n f ks).length = ks.length := by simp [colsT]
theorem colsT_at (n : Nat) (f : Nat → List Int) (ks : List Int) (j : Nat) (h : j < ks.length) : (colsT n f ks).getD j col0 = encOf (ks.getD j 0) (colT n f j) := by simp [colsT, List.getD_eq_getElem?_getD, h]
def BOK (n : Nat) (f : Nat → List Int) (ks : List Int) : Prop := n ≤ 65536 ∧ ks.length ≤ 256 ∧ (∀ j, j < ks.length → 0 ≤ ks.getD j 0 ∧ ks.getD j 0 ≤ 2) ∧ ∀ i, i < n → (f i).length = ks.length

/-- A table whose parts are all its own, the empty one too. -/
def OwnTabP (w : World) (base top : Nat) (a : Option Addr) (cap : Nat) (cs : List Col) : Prop :=
  ∃ rows lo hi g, OwnV w base 29 5 (.slice a cs.length cap) rows ∧ rows.length = cs.length ∧ TabRows w rows cs lo hi 0 cs.length ∧ Spread lo hi g cs.length top ∧ ∀ q, (Value.slice a cs.length cap).ownBlock = some q → q = g ∧ q < top
theorem OwnTabP.ext {w w' : World} {base top : Nat} {a : Option Addr} {cap : Nat} {cs : List Col} (h : OwnTabP w base top a cap cs) (he : Ext w w') : OwnTabP w' base top a cap cs := by
  obtain ⟨rows, lo, hi, g, h1, h2, h3, h4, h5⟩ := h
  exact ⟨rows, lo, hi, g, h1.ext he, h2, h3.ext he, h4, h5⟩
theorem OwnTabP.nil (w : World) (base top : Nat) : OwnTabP w base top none 0 [] :=
  ⟨[], fun _ => 0, fun _ => 0, 0, OwnV.nil _ _ _ _, rfl, fun i h1 h2 => by simp at h2, ⟨fun i j h1 h2 => by simp at h2, fun i h1 => by simp at h1, fun i h1 => by simp at h1⟩, fun q hq => by cases hq⟩
theorem OwnTabP.at {w : World} {base top : Nat} {a : Option Addr} {cap : Nat} {cs : List Col} (h : OwnTabP w base top a cap cs) (hl : ∀ i, i < cs.length → LenC (cs.getD i col0)) : ColsAt w a cs := by
  obtain ⟨rows, lo, hi, g, h1, h2, h3, h4, h5⟩ := h
  intro i hi'
  obtain ⟨a1, a2, a3, a4, c1, c2, c3, c4, e, ho⟩ := h3 i (Nat.zero_le _) hi'
  obtain ⟨g, off, ea, hc⟩ := h1.rows i (by omega)
  rw [e] at hc
  have hl' := hl i hi'
  exact ⟨g, off, a1, a2, a3, a4, c1, c2, c3, c4, ea, ⟨hc 0 _ rfl, hc 1 _ rfl, hc 2 _ rfl, hc 3 _ rfl, hc 4 _ rfl⟩, ho.colAt, ⟨by have := hl'.plain; omega, by have := hl'.dict; omega, by have := hl'.codes; omega, by have := hl'.runs; omega⟩⟩
theorem OwnTabP.tabT {w : World} {base top : Nat} {a : Option Addr} {cap : Nat} {cs : List Col} (h : OwnTabP w base top a cap cs) : OwnTabT w base top a cap cs := by
  obtain ⟨rows, lo, hi, g, h1, h2, h3, h4, h5⟩ := h
  by_cases h0 : cs.length = 0
  · exact .inr (List.eq_nil_of_length_eq_zero h0)
  · obtain ⟨p, q, e, hf⟩ := h1.form
    rcases hf with ⟨_, _, hn⟩ | ⟨g', rfl⟩
    · omega
    · injection e with e1
      subst e1
      have := h5 g' rfl
      exact .inl ⟨rows, lo, hi, g, h1, h2, h3, h4, by rw [← this.1]; rfl, by omega⟩

def RetTO (N : Int) (cs : List Col) (b : Bool) (w : World) : Ending → World → Prop := fun en w' => ∃ a cap, en = .returned (.tuple #[.agg #[.int .i64 N, .slice a cs.length cap], .bool b]) ∧ OwnTabP w' w.heap.size w'.heap.size a cap cs ∧ Ext w w'
def RetTB (n : Nat) (f : Nat → List Int) (ks : List Int) (w : World) : Ending → World → Prop := fun en w' => (BOK n f ks ∧ RetTO n (colsT n f ks) true w en w') ∨ (¬ BOK n f ks ∧ RetTO 0 [] false w en w')

set_option maxHeartbeats 32000000 in
theorem BuildTable (n : Nat) (f : Nat → List Int) (ks : List Int) (a ak : Option Addr) (c ck : Nat) (w : World) (h : Hid (IRows w a n f)) (hk : Hid (IntsAt w ak ks)) (ln : n < 2 ^ 39) (lk : ks.length < 2 ^ 39) (hlf : Hid (∀ i, i < n → (f i).length < 2 ^ 39)) :
    Calls Yabn.prog 44 #[.slice a n c, .slice ak ks.length ck] w (RetTB n f ks w) := by
  have hbZ : Blk (w.alloc (.cells #[.int .i64 0, .slice none 0 0] 34)) w.heap.size 34 (tabCells 0 none 0 0) := Blk.new w _ _
  have hx0 : Ext w (w.alloc (.cells #[.int .i64 0, .slice none 0 0] 34)) := (Ext.refl w).alloc _
  replace hbZ := hide hbZ
  replace hx0 := hide hx0
  by_cases hbig : 65536 < (n : Int) ∨ 256 < (ks.length : Int)
  · have hno : Hid (¬ BOK n f ks) := fun hh => by have h1 := hh.1; have h2 := hh.2.1; omega
    have hbz := hbZ
    by_cases hb1 : 65536 < (n : Int)
    · go_enter Yabn.func44, Yabn.ntmps44
      go_wp2_with (refine wpList_storeB (vs := tabCells 0 none 0 0) rfl rfl (by rfl) (by rfl) hbz.out size_tab rfl (tabCells_one _ _ _ _) ?_; intro w9 hb9 hgr9; replace hgr9 := hide hgr9; replace hb9 := hide hb9)
      refine bodyPost_ret (results_cell2 rfl (by rfl) hb9.out Yabn.underlying34 size_tab) rfl ?_
      exact .inr ⟨hno.out, none, 0, rfl, OwnTabP.nil _ _ _, Ext.grown hx0.out hgr9.out (by intro k hk; cases hk; exact Nat.le_refl _)⟩
    · have hb2 : 256 < (ks.length : Int) := by omega
      go_enter Yabn.func44, Yabn.ntmps44
      go_wp2_with (refine wpList_storeB (vs := tabCells 0 none 0 0) rfl rfl (by rfl) (by rfl) hbz.out size_tab rfl (tabCells_one _ _ _ _) ?_; intro w9 hb9 hgr9; replace hgr9 := hide hgr9; replace hb9 := hide hb9)
      refine bodyPost_ret (results_cell2 rfl (by rfl) hb9.out Yabn.underlying34 size_tab) rfl ?_
      exact .inr ⟨hno.out, none, 0, rfl, OwnTabP.nil _ _ _, Ext.grown hx0.out hgr9.out (by intro k hk; cases hk; exact Nat.le_refl _)⟩
  have hn1 : ¬ 65536 < (n : Int) := by omega
  have hk1 : ¬ 256 < (ks.length : Int) := by omega
  have hn2 : (n : Int) ≤ 65536 := by omega
  have hk2 : (ks.length : Int) ≤ 256 := by omega
  have d1 : decide (65536 < (n : Int)) = false := by simp; omega
  have d2 : decide (256 < (ks.length : Int)) = false := by simp; omega
  have d3 : decide (65536 < n) = false := by simp; omega
  have d4 : decide (256 < ks.length) = false := by simp; omega
  clear hbig
  go_enter Yabn.func44, Yabn.ntmps44
  go_wp2
  generalize (w.alloc (.cells #[.int .i64 0, .slice none 0 0] 34)) = Z at *
  go_loopw [25] (fun i wr => ∃ k : Nat, i = .int .i64 k ∧ k ≤ ks.length ∧ Hid (∀ j, j < k → 0 ≤ ks.getD j 0 ∧ ks.getD j 0 ≤ 2) ∧ Hid (Ext Z wr)) (fun i _ => ks.length - (intOf i).toNat)
  case atStart => exact ⟨0, rfl, by omega, fun j hj => by omega, Ext.refl Z⟩
  obtain ⟨k, rfl, hkk, hall, hext⟩ := hrel
  by_cases hlt : k < ks.length
  · have hlt' : (k : Int) < ks.length := by omega
    obtain ⟨b, off, rfl, g1⟩ := (hk.out.ext (hx0.out.trans hext.out)) k hlt
    have hstep : 0 ≤ ks.getD k 0 ∧ ks.getD k 0 ≤ 2 → ∀ j, j < k + 1 → 0 ≤ ks.getD j 0 ∧ ks.getD j 0 ≤ 2 := fun hh j hj => by
      by_cases hjk : j = k
      · subst hjk; exact hh
      · exact hall.out j (by omega)
    have hnoo : ¬ (0 ≤ ks.getD k 0 ∧ ks.getD k 0 ≤ 2) → ¬ BOK n f ks := fun hh hb => hh (hb.2.2.1 k hlt)
    replace hstep := hide hstep
    replace hnoo := hide hnoo
    have hbz := hide (hbZ.out.ext hext.out)
    generalize ks.getD k 0 = y at *
    by_cases hy0 : y < 0
    · have hno := hide (hnoo.out (by omega))
      clear hnoo hstep
      go_wp2_with (refine wpList_storeB (vs := tabCells 0 none 0 0) rfl rfl (by rfl) (by rfl) hbz.out size_tab rfl (tabCells_one _ _ _ _) ?_; intro w9 hb9 hgr9; replace hgr9 := hide hgr9; replace hb9 := hide hb9)
      refine bodyPost_ret (results_cell2 rfl (by rfl) hb9.out Yabn.underlying34 size_tab) rfl ?_
      exact .inr ⟨hno.out, none, 0, rfl, OwnTabP.nil _ _ _, Ext.grown (hx0.out.trans hext.out) hgr9.out (by intro k hk; cases hk; exact Nat.le_refl _)⟩
    · by_cases hy2 : 2 < y
      · have hno := hide (hnoo.out (by omega))
        clear hnoo hstep
        go_wp2_with (refine wpList_storeB (vs := tabCells 0 none 0 0) rfl rfl (by rfl) (by rfl) hbz.out size_tab rfl (tabCells_one _ _ _ _) ?_; intro w9 hb9 hgr9; replace hgr9 := hide hgr9; replace hb9 := hide hb9)
        refine bodyPost_ret (results_cell2 rfl (by rfl) hb9.out Yabn.underlying34 size_tab) rfl ?_
        exact .inr ⟨hno.out, none, 0, rfl, OwnTabP.nil _ _ _, Ext.grown (hx0.out.trans hext.out) hgr9.out (by intro k hk; cases hk; exact Nat.le_refl _)⟩
      · have hs2 := hide (hstep.out (by omega))
        clear hnoo hstep
        go_wp2
        go_roundw
        case rel => exact ⟨k + 1, by go_num, by omega, hs2.out, hext.out⟩
        case measure => simp [intOf]; omega
  obtain rfl : k = ks.length := by omega
  clear hlt hkk
  obtain ⟨Z2, rfl⟩ : ∃ Z2, Z2 = wr := ⟨_, rfl⟩
  have hx2 : Hid (Ext w Z2) := hx0.out.trans hext.out
  have hbZ2 := hide (hbZ.out.ext hext.out)
  have zZ : w.heap.size < Z2.heap.size := hbZ2.out.lt
  clear hbZ hext
  go_wp2
  go_loopw [39] (fun i wr => ∃ k : Nat, i = .int .i64 k ∧ k ≤ n ∧ Hid (∀ j, j < k → (f j).length = ks.length) ∧ Hid (Ext Z2 wr)) (fun i _ => n - (intOf i).toNat)
  case atStart => exact ⟨0, rfl, by omega, fun j hj => by omega, Ext.refl Z2⟩
  obtain ⟨k, rfl, hkk, hall2, hext⟩ := hrel
  by_cases hlt : k < n
  · have hlt' : (k : Int) < n := by omega
    obtain ⟨b, off, p, q, rfl, g1, _⟩ := (h.out.ext (hx2.out.trans hext.out)) k hlt
    have hlk := hlf.out k hlt
    have hbz := hide (hbZ2.out.ext hext.out)
    by_cases he : (f k).length = ks.length
    · have hs2 : Hid (∀ j, j < k + 1 → (f j).length = ks.length) := fun j hj => by
        by_cases hjk : j = k
        · subst hjk; exact he
        · exact hall2.out j (by omega)
      rw [he] at g1
      have hnn : ((ks.length : Int) != ks.length) = false := by simp
      clear he hlk
      go_wp2
      go_roundw
      case rel => exact ⟨k + 1, by go_num, by omega, hs2.out, hext.out⟩
      case measure => simp [intOf]; omega
    · have hno : Hid (¬ BOK n f ks) := fun hh => he (hh.2.2.2 k hlt)
      have hne : (((f k).length : Int) != ks.length) = true := by simp; omega
      generalize (f k).length = L at *
      replace he := hide he
      go_wp2_with (refine wpList_storeB (vs := tabCells 0 none 0 0) rfl rfl (by rfl) (by rfl) hbz.out size_tab rfl (tabCells_one _ _ _ _) ?_; intro w9 hb9 hgr9; replace hgr9 := hide hgr9; replace hb9 := hide hb9)
      refine bodyPost_ret (results_cell2 rfl (by rfl) hb9.out Yabn.underlying34 size_tab) rfl ?_
      exact .inr ⟨hno.out, none, 0, rfl, OwnTabP.nil _ _ _, Ext.grown (hx2.out.trans hext.out) hgr9.out (by intro k hk; cases hk; exact Nat.le_refl _)⟩
  obtain rfl : k = n := by omega
  obtain ⟨n, rfl⟩ : ∃ n, n = k := ⟨_, rfl⟩
  clear hlt hkk
  have hok : Hid (BOK n f ks) := ⟨by omega, by omega, hall.out, hall2.out⟩
  obtain ⟨Z3, rfl⟩ : ∃ Z3, Z3 = wr := ⟨_, rfl⟩
  have hx3 : Hid (Ext w Z3) := hx2.out.trans hext.out
  have hbZ3 := hide (hbZ2.out.ext hext.out)
  have zZ3 : w.heap.size < Z3.heap.size := hbZ3.out.lt
  clear hbZ2 hext hx2 zZ
  go_wp2_with (at_make; refine mk_col rfl rfl ks.length rfl rfl (by omega) Z3.heap.size rfl ?_; intro Wm hown hxm hszm; replace hown := hide hown; replace hxm := hide hxm)
  have Xm : Hid (Ext w Wm) := hx3.out.trans hxm.out
  have hbZm := hide (hbZ3.out.ext hxm.out)
  have zWm : Z3.heap.size < Wm.heap.size := by omega
  clear hbZ3
  go_loopw [11] (fun i wr => ∃ (j : Nat) (rows : List (List Value)) (lo hi : Nat → Nat), i = .int .i64 j ∧ j ≤ ks.length ∧ Hid (rows.length = ks.length) ∧ Hid (OwnV wr Z3.heap.size 29 5 (.slice (some ⟨Z3.heap.size, 0, none⟩) ks.length ks.length) rows) ∧ Hid (TabRows wr rows (colsT n f ks) lo hi 0 j) ∧ Hid (Spread lo hi Z3.heap.size j wr.heap.size) ∧ Hid (But (fun q => q = Z3.heap.size) Wm wr)) (fun i _ => ks.length - (intOf i).toNat)
  case atStart => exact ⟨0, _, fun _ => 0, fun _ => 0, rfl, by omega, (by simp [Hid]), hown, fun i h1 h2 => by omega, ⟨fun i j h1 h2 => by omega, fun i h1 => by omega, fun i h1 => by omega⟩, But.refl _ _⟩
  clear hown
  obtain ⟨j, rows, lo, hi, rfl, hj, hrl, hown, hrows, hsp, hbut⟩ := hrel
  have zW := hbut.out.size
  have hX : Hid (Ext w wr) := But.ext ((But.of_ext Xm.out).trans hbut.out) (fun q hq => by omega)
  obtain ⟨W, rfl⟩ : ∃ W, W = wr := ⟨_, rfl⟩
  by_cases hlt : j < ks.length
  · have hlt' : (j : Int) < ks.length := by omega
    have hkj := hall.out j hlt
    have hnew : ∀ (v0 v1 v2 : World) p1 p2 p3 p4 q1 q2 q3 q4, Ext W v0 → Ext v0 v1 → OwnC 27 v1 v0.heap.size v1.heap.size (encOf (ks.getD j 0) (colT n f j)) p1 p2 p3 p4 q1 q2 q3 q4 → But (fun q => q = Z3.heap.size) v1 v2 →
        TabRows v2 (rows.set j (cellsC (encOf (ks.getD j 0) (colT n f j)) p1 p2 p3 p4 q1 q2 q3 q4)) (colsT n f ks) (fun i => if i = j then v0.heap.size else lo i) (fun i => if i = j then v1.heap.size else hi i) 0 (j + 1) := by
      intro v0 v1 v2 p1 p2 p3 p4 q1 q2 q3 q4 hx0 hx ho hb i h1 h2
      have hr := hrl.out
      have z0 := hx0.size
      by_cases e : i = j
      · subst e
        refine ⟨p1, p2, p3, p4, q1, q2, q3, q4, by rw [getD_set_rows _ _ _ (by omega), if_pos rfl, colsT_at n f ks i hlt], ?_⟩
        simp only [if_true]
        rw [colsT_at n f ks i hlt]
        exact ho.but hb (fun q h3 h4 h5 => by omega)
      · obtain ⟨a1, a2, a3, a4, c1, c2, c3, c4, e1, ho1⟩ := hrows.out i h1 (by omega)
        refine ⟨a1, a2, a3, a4, c1, c2, c3, c4, by rw [getD_set_rows _ _ _ (by omega), if_neg e]; exact e1, ?_⟩
        simp only [if_neg e]
        have := hsp.out.above i (by omega)
        exact (ho1.ext (hx0.trans hx)).but hb (fun q h3 h4 h5 => by omega)
    replace hnew := hide hnew
    obtain ⟨bk, offk, rfl, gk0⟩ := (hk.out.ext hX.out) j hlt
    go_wp2_with (at_make; refine mk_i64 rfl rfl n rfl rfl (by omega) W.heap.size rfl ?_; intro V1 hown1 hx1 hsz1; replace hown1 := hide hown1; replace hx1 := hide hx1)
    have hcl := hide (colT_len n f j)
    go_loopw [13] (fun i wr => ∃ k : Nat, i = .int .i64 k ∧ k ≤ n ∧ Hid (OwnI wr W.heap.size 2 (.slice (some ⟨W.heap.size, 0, none⟩) n n) (fillTo (colT n f j) n k)) ∧ Hid (Ext W wr)) (fun i _ => n - (intOf i).toNat)
    case atStart => exact ⟨0, rfl, by omega, by rw [fillTo_zero]; exact hown1, hx1⟩
    clear hown1 hx1 hsz1
    obtain ⟨k, rfl, hkk, hownc, hext2⟩ := hrel
    obtain ⟨W6, rfl⟩ : ∃ W6, W6 = wr := ⟨_, rfl⟩
    by_cases hltk : k < n
    · have hltk' : (k : Int) < n := by omega
      obtain ⟨b, off, p, q, rfl, g1, hrow⟩ := (h.out.ext (hX.out.trans hext2.out)) k hltk
      have hfk := hall2.out k hltk
      rw [hfk] at g1
      obtain ⟨b2, off2, rfl, g2⟩ := hrow j (by omega)
      have hset := fillTo_set (colT n f j) n k hcl.out hltk
      rw [colT_at n f j k hltk] at hset
      have hlen := length_fillTo (colT n f j) n k hcl.out hkk
      have hst : Hid (OwnI (W6.setCell ⟨W.heap.size, k, none⟩ (.int .i64 ((f k).getD j 0))) W.heap.size 2 (.slice (some ⟨W.heap.size, 0, none⟩) n n) (fillTo (colT n f j) n (k + 1))) := (OwnI.stored hownc.out hlen.symm k ((f k).getD j 0)).congr hset
      have fk := OwnI.frozenAt hownc.out hlen.symm k
      have gk := OwnI.cellAt hownc.out k (by omega)
      generalize (fillTo (colT n f j) n k).getD k 0 = zk at gk
      generalize (f k).getD j 0 = y at *
      replace hfk := hide hfk
      clear hset hlen
      go_wp2
      go_roundw
      case rel => exact ⟨k + 1, by go_num, by omega, hst.out, hext2.out.setCell (Nat.le_refl _) _⟩
      case measure => simp [intOf]; omega
    obtain rfl : k = n := by omega
    obtain ⟨n, rfl⟩ : ∃ n, n = k := ⟨_, rfl⟩
    clear hltk hkk
    rw [fillTo_all _ _ hcl.out] at hownc
    have gk0' := hext2.out.cell gk0
    have hvi : Hid (IntsAt W6 (some ⟨W.heap.size, 0, none⟩) (colT n f j)) := OwnI.ints hownc.out
    have hown6 := hide (hown.out.ext hext2.out)
    have z46 := hext2.out.size
    clear gk0 hownc
    generalize ks.getD j 0 = y at *
    obtain rfl | rfl | rfl : y = 0 ∨ y = 1 ∨ y = 2 := by omega
    · as_aux_lemma =>
        go_wp2_with fail
        refine (Calls.mono (R := RetC 27 (encOf 0 (colT n f j)) W6) (by have := EncodePlain (colT n f j) (some ⟨W.heap.size, 0, none⟩) n W6 hvi; rw [hcl.out] at this; exact this) ?_)
        rintro e v1 ⟨p1, p2, p3, p4, q1, q2, q3, q4, rfl, O1, x1⟩
        have zz1 := x1.size
        have ho1 := hide (hown6.out.ext x1)
        replace O1 := hide O1
        replace x1 := hide x1
        have hkr : j < rows.length := by have := hrl.out; omega
        replace hkr := hide hkr
        go_wp2_with (refine wpList_storeV rfl rfl (i := j) (k := 5) (vs := cellsC (encOf 0 (colT n f j)) p1 p2 p3 p4 q1 q2 q3 q4) (by rfl) (by rfl) ho1.out hkr.out size_col5 rfl (cellsC_one _ _ _ _ _ _ _ _ _) ?_; intro v2 hown2 hgr; replace hgr := hide hgr; replace hown2 := hide hown2)
        have b2 : But (fun q => q = Z3.heap.size) v1 v2 := But.of_grown hgr.out (fun q hq => by cases hq; rfl)
        have hfin := hide (hnew.out W6 v1 v2 p1 p2 p3 p4 q1 q2 q3 q4 hext2.out x1.out O1.out b2)
        have hsp2 : Hid (Spread (fun i => if i = j then W6.heap.size else lo i) (fun i => if i = j then v1.heap.size else hi i) Z3.heap.size (j + 1) v2.heap.size) := (hsp.out.step z46 zz1 (by omega)).mono b2.size
        have hb3 : Hid (But (fun q => q = Z3.heap.size) Wm v2) := ((hbut.out.trans (But.of_ext hext2.out)).trans (But.of_ext x1.out)).trans b2
        clear hgr b2 hnew ho1 O1 x1
        go_roundw
        case rel => exact ⟨j + 1, _, _, _, by go_num, by omega, (by simp only [Hid, List.length_set]; exact hrl.out), hown2.out, hfin.out, hsp2.out, hb3.out⟩
        case measure => simp [intOf]; omega
    · as_aux_lemma =>
        go_wp2_with fail
        refine (Calls.mono (R := RetC 27 (encOf 1 (colT n f j)) W6) (by have := EncodeDict (colT n f j) (some ⟨W.heap.size, 0, none⟩) n W6 hvi; rw [hcl.out] at this; exact this) ?_)
        rintro e v1 ⟨p1, p2, p3, p4, q1, q2, q3, q4, rfl, O1, x1⟩
        have zz1 := x1.size
        have ho1 := hide (hown6.out.ext x1)
        replace O1 := hide O1
        replace x1 := hide x1
        have hkr : j < rows.length := by have := hrl.out; omega
        replace hkr := hide hkr
        go_wp2_with (refine wpList_storeV rfl rfl (i := j) (k := 5) (vs := cellsC (encOf 1 (colT n f j)) p1 p2 p3 p4 q1 q2 q3 q4) (by rfl) (by rfl) ho1.out hkr.out size_col5 rfl (cellsC_one _ _ _ _ _ _ _ _ _) ?_; intro v2 hown2 hgr; replace hgr := hide hgr; replace hown2 := hide hown2)
        have b2 : But (fun q => q = Z3.heap.size) v1 v2 := But.of_grown hgr.out (fun q hq => by cases hq; rfl)
        have hfin := hide (hnew.out W6 v1 v2 p1 p2 p3 p4 q1 q2 q3 q4 hext2.out x1.out O1.out b2)
        have hsp2 : Hid (Spread (fun i => if i = j then W6.heap.size else lo i) (fun i => if i = j then v1.heap.size else hi i) Z3.heap.size (j + 1) v2.heap.size) := (hsp.out.step z46 zz1 (by omega)).mono b2.size
        have hb3 : Hid (But (fun q => q = Z3.heap.size) Wm v2) := ((hbut.out.trans (But.of_ext hext2.out)).trans (But.of_ext x1.out)).trans b2
        clear hgr b2 hnew ho1 O1 x1
        go_roundw
        case rel => exact ⟨j + 1, _, _, _, by go_num, by omega, (by simp only [Hid, List.length_set]; exact hrl.out), hown2.out, hfin.out, hsp2.out, hb3.out⟩
        case measure => simp [intOf]; omega
    · as_aux_lemma =>
        go_wp2_with fail
        refine (Calls.mono (R := RetC 27 (encOf 2 (colT n f j)) W6) (by have := EncodeRLE (colT n f j) (some ⟨W.heap.size, 0, none⟩) n W6 hvi; rw [hcl.out] at this; exact this) ?_)
        rintro e v1 ⟨p1, p2, p3, p4, q1, q2, q3, q4, rfl, O1, x1⟩
        have zz1 := x1.size
        have ho1 := hide (hown6.out.ext x1)
        replace O1 := hide O1
        replace x1 := hide x1
        have hkr : j < rows.length := by have := hrl.out; omega
        replace hkr := hide hkr
        go_wp2_with (refine wpList_storeV rfl rfl (i := j) (k := 5) (vs := cellsC (encOf 2 (colT n f j)) p1 p2 p3 p4 q1 q2 q3 q4) (by rfl) (by rfl) ho1.out hkr.out size_col5 rfl (cellsC_one _ _ _ _ _ _ _ _ _) ?_; intro v2 hown2 hgr; replace hgr := hide hgr; replace hown2 := hide hown2)
        have b2 : But (fun q => q = Z3.heap.size) v1 v2 := But.of_grown hgr.out (fun q hq => by cases hq; rfl)
        have hfin := hide (hnew.out W6 v1 v2 p1 p2 p3 p4 q1 q2 q3 q4 hext2.out x1.out O1.out b2)
        have hsp2 : Hid (Spread (fun i => if i = j then W6.heap.size else lo i) (fun i => if i = j then v1.heap.size else hi i) Z3.heap.size (j + 1) v2.heap.size) := (hsp.out.step z46 zz1 (by omega)).mono b2.size
        have hb3 : Hid (But (fun q => q = Z3.heap.size) Wm v2) := ((hbut.out.trans (But.of_ext hext2.out)).trans (But.of_ext x1.out)).trans b2
        clear hgr b2 hnew ho1 O1 x1
        go_roundw
        case rel => exact ⟨j + 1, _, _, _, by go_num, by omega, (by simp only [Hid, List.length_set]; exact hrl.out), hown2.out, hfin.out, hsp2.out, hb3.out⟩
        case measure => simp [intOf]; omega
  obtain rfl : j = ks.length := by omega
  clear hlt hj
  have hbz := hide (hbut.out.blk hbZm.out (by omega))
  go_wp2_with (refine wpList_storeB (vs := tabCells n (some ⟨Z3.heap.size, 0, none⟩) ks.length ks.length) rfl rfl (by rfl) (by rfl) hbz.out size_tab rfl (tabCells_one _ _ _ _) ?_; intro w2 hb2 hgr; replace hgr := hide hgr; replace hb2 := hide hb2)
  refine bodyPost_ret (results_cell2 rfl (by rfl) hb2.out Yabn.underlying34 size_tab) rfl ?_
  have hx2 : Ext w w2 := hX.out.grown hgr.out (by intro k hk; cases hk; exact Nat.le_refl _)
  have bS : But (fun k => k = w.heap.size) W w2 := But.of_grown hgr.out (fun k hk => by cases hk; rfl)
  have hv2 : OwnV w2 w.heap.size 29 5 (.slice (some ⟨Z3.heap.size, 0, none⟩) ks.length ks.length) rows := OwnV.mono ⟨hown.out.1, bS.row hown.out.2 (fun k hk he => by have := hown.out.block k hk; omega)⟩ (by omega)
  have hr2 : TabRows w2 rows (colsT n f ks) lo hi 0 ks.length := hrows.out.but bS (fun i h1 h2 q h3 h4 h5 => by have := hsp.out.above i h2; omega) (fun i h1 h2 => rfl)
  have hz2 := bS.size
  have hcl := colsT_len n f ks
  refine .inl ⟨hok.out, some ⟨Z3.heap.size, 0, none⟩, ks.length, by rw [hcl]; rfl, ⟨rows, lo, hi, Z3.heap.size, by rw [hcl]; exact hv2, by rw [hcl]; exact hrl.out, by rw [hcl]; exact hr2, by rw [hcl]; exact hsp.out.mono hz2, fun q hq => ?_⟩, hx2⟩
  cases hq
  exact ⟨rfl, by simp only; omega⟩
end Go.Proofs.Ybyabw
