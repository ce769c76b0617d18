/- Walks: laws.cpTable, scTable -/
import Derived.Test.YbyabwTabL
namespace Go.Proofs.Ybyabw
open Go.RowKit
set_option maxRecDepth 100000
set_option linter.unusedVariables false

/-- From place k on the rows are the cells of the columns, each column in blocks of its own. -/
def TabRows (w : World) (rows : List (List Value)) (cs : List Col) (lo hi : Nat → Nat) (k m : Nat) : Prop :=
  ∀ i, k ≤ i → i < m → ∃ a1 a2 a3 a4 c1 c2 c3 c4, rows.getD i [] = cellsC (cs.getD i col0) a1 a2 a3 a4 c1 c2 c3 c4 ∧ OwnC 27 w (lo i) (hi i) (cs.getD i col0) a1 a2 a3 a4 c1 c2 c3 c4
theorem TabRows.ext {w w' : World} {rows : List (List Value)} {cs : List Col} {lo hi : Nat → Nat} {k m : Nat} (h : TabRows w rows cs lo hi k m) (he : Ext w w') : TabRows w' rows cs lo hi k m := fun i h1 h2 => by
  obtain ⟨a1, a2, a3, a4, c1, c2, c3, c4, e, ho⟩ := h i h1 h2
  exact ⟨a1, a2, a3, a4, c1, c2, c3, c4, e, ho.ext he⟩
theorem TabRows.but {S : Nat → Prop} {w w' : World} {rows rows' : List (List Value)} {cs : List Col} {lo hi : Nat → Nat} {k m : Nat} (h : TabRows w rows cs lo hi k m) (hb : But S w w') (hs : ∀ i, k ≤ i → i < m → ∀ q, lo i ≤ q → q < hi i → ¬ S q) (hr : ∀ i, k ≤ i → i < m → rows'.getD i [] = rows.getD i []) : TabRows w' rows' cs lo hi k m := fun i h1 h2 => by
  obtain ⟨a1, a2, a3, a4, c1, c2, c3, c4, e, ho⟩ := h i h1 h2
  exact ⟨a1, a2, a3, a4, c1, c2, c3, c4, (hr i h1 h2).trans e, ho.but hb (hs i h1 h2)⟩

structure Spread (lo hi : Nat → Nat) (g m T : Nat) : Prop where
  ord : ∀ i j, i < j → j < m → hi i ≤ lo j
  above : ∀ i, i < m → g < lo i
  below : ∀ i, i < m → hi i ≤ T
theorem Spread.step {lo hi : Nat → Nat} {g m T x y : Nat} (h : Spread lo hi g m T) (hx : T ≤ x) (hxy : x ≤ y) (hg : g < x) : Spread (fun i => if i = m then x else lo i) (fun i => if i = m then y else hi i) g (m + 1) y := by
  refine ⟨fun i j hij hj => ?_, fun i hi' => ?_, fun i hi' => ?_⟩
  · rw [if_neg (by omega)]
    by_cases e : j = m
    · rw [if_pos e]; have := h.below i (by omega); omega
    · rw [if_neg e]; exact h.ord i j hij (by omega)
  · by_cases e : i = m
    · rw [if_pos e]; exact hg
    · rw [if_neg e]; exact h.above i (by omega)
  · by_cases e : i = m
    · rw [if_pos e]; exact Nat.le_refl _
    · rw [if_neg e]; have := h.below i (by omega); omega
theorem Spread.mono {lo hi : Nat → Nat} {g m T T' : Nat} (h : Spread lo hi g m T) (ht : T ≤ T') : Spread lo hi g m T' := ⟨h.ord, h.above, fun i hi' => Nat.le_trans (h.below i hi') ht⟩

theorem getD_set_rows (rows : List (List Value)) (k : Nat) (y : List Value) (hk : k < rows.length) (i : Nat) : (rows.set k y).getD i [] = if i = k then y else rows.getD i [] := by
  simp only [List.getD_eq_getElem?_getD, List.getElem?_set]
  by_cases h : k = i
  · subst h; simp [hk]
  · rw [if_neg h, if_neg (fun e => h e.symm)]

/-- A table whose parts are all its own. -/
def OwnTab (w : World) (base : Nat) (a : Option Addr) (cap : Nat) (cs : List Col) : Prop :=
  (∃ rows lo hi g T, OwnV w base 29 5 (.slice a cs.length cap) rows ∧ rows.length = cs.length ∧ TabRows w rows cs lo hi 0 cs.length ∧ Spread lo hi g cs.length T ∧ T ≤ w.heap.size ∧ (Value.slice a cs.length cap).ownBlock = some g) ∨ (cs = [])
theorem OwnTab.ext {w w' : World} {base : Nat} {a : Option Addr} {cap : Nat} {cs : List Col} (h : OwnTab w base a cap cs) (he : Ext w w') : OwnTab w' base a cap cs := by
  rcases h with ⟨rows, lo, hi, g, T, h1, h2, h3, h4, h5, h6⟩ | h
  · exact .inl ⟨rows, lo, hi, g, T, h1.ext he, h2, h3.ext he, h4, by have := he.size; omega, h6⟩
  · exact .inr h
theorem OwnTab.at {w : World} {base : Nat} {a : Option Addr} {cap : Nat} {cs : List Col} (h : OwnTab w base a cap cs) (hl : ∀ i, i < cs.length → LenC (cs.getD i col0)) : ColsAt w a cs := by
  rcases h with ⟨rows, lo, hi, g, T, h1, h2, h3, h4, h5, h6⟩ | rfl
  · intro i hi'
    obtain ⟨a1, a2, a3, a4, c1, c2, c3, c4, e, ho⟩ := h3 i (Nat.zero_le _) hi'
    obtain ⟨g, off, ea, hc⟩ := h1.rows i (by omega)
    rw [e] at hc
    have hl' := hl i hi'
    exact ⟨g, off, a1, a2, a3, a4, c1, c2, c3, c4, ea, ⟨hc 0 _ rfl, hc 1 _ rfl, hc 2 _ rfl, hc 3 _ rfl, hc 4 _ rfl⟩, ho.colAt, ⟨by have := hl'.plain; omega, by have := hl'.dict; omega, by have := hl'.codes; omega, by have := hl'.runs; omega⟩⟩
  · intro i hi'; simp at hi'

def RetTabO (n : Int) (cs : List Col) (w : World) : Ending → World → Prop := fun en w' => ∃ a cap, en = .returned (.agg #[.int .i64 n, .slice a cs.length cap]) ∧ OwnTab w' w.heap.size a cap cs ∧ Ext w w'

section
variable {ops : Array Oper} {rest : List Oper} {o : Oper} {a : Act} {Q : Exit → Act → World → Prop} {w : World}
theorem mk_col (hg : o.guard = none) {l c : Operand} (hop : o.op = Op.makeSlice 31 l c)
    (n : Nat) (hl : a.eval l = .int .i64 n) (hc : a.eval c = .int .i64 n) (hb : n < 2 ^ 40) (N : Nat) (hN : w.heap.size = N)
    (hK : ∀ w', OwnV w' N 29 5 (.slice (some ⟨N, 0, none⟩) n n) (List.replicate n colZ5) → Ext w w' → w'.heap.size = N + 1 → wpList Yabn.prog ops Q rest (a.put o.dst (.slice (some ⟨N, 0, none⟩) n n)) w') :
    wpList Yabn.prog ops Q (o :: rest) a w := by
  obtain ⟨i, h2, h3, h4, h5⟩ := info_parts info_col
  exact wpList_mkV hg hop 29 Yabn.underlying31 h2 h3 h4 (by omega) rfl (by omega) n hl hc hb N hN hK
end

set_option maxHeartbeats 2000000 in
theorem cpTable_0 (n : Int) (a : Option Addr) (cap : Nat) (ne : Bool) (w : World) : Calls Yabn.prog 36 #[.agg #[.int .i64 n, .slice a 0 cap], .bool ne] w (RetTabO n [] w) := by
  have hbZ : Blk ((w.alloc (.cells #[.int .i64 n, .slice a 0 cap] 34)).alloc (.cells #[.int .i64 0, .slice none 0 0] 34)) (w.heap.size + 1) 34 (tabCells 0 none 0 0) := by
    have := Blk.new (w.alloc (.cells #[.int .i64 n, .slice a 0 cap] 34)) #[.int .i64 0, .slice none 0 0] 34
    simpa [tabCells] using this
  have hx0 : Ext w ((w.alloc (.cells #[.int .i64 n, .slice a 0 cap] 34)).alloc (.cells #[.int .i64 0, .slice none 0 0] 34)) := ((Ext.refl w).alloc _).alloc _
  replace hbZ := hide hbZ
  replace hx0 := hide hx0
  cases ne with
  | true =>
    go_enter Yabn.func36, Yabn.ntmps36
    go_wp2_with (refine wpList_storeB (vs := tabCells n none 0 0) rfl rfl (by rfl) (by rfl) hbZ.out size_tab rfl (tabCells_one _ _ _ _) ?_; intro w2 hb2 hgr; replace hgr := hide hgr; replace hb2 := hide hb2)
    refine bodyPost_ret (results_cell1 rfl (by rfl) hb2.out Yabn.underlying34 size_tab) rfl ?_
    exact ⟨none, 0, rfl, .inr rfl, hx0.out.grown hgr.out (by intro k hk; cases hk; omega)⟩
  | false =>
    have hbZ2 := hide (hbZ.out.alloc (.cells #[] 29))
    go_enter Yabn.func36, Yabn.ntmps36
    go_wp2_with (refine wpList_storeB (vs := tabCells n (some ⟨w.heap.size + 2, 0, none⟩) 0 0) rfl rfl (by rfl) (by rfl) hbZ2.out size_tab rfl (tabCells_one _ _ _ _) ?_; intro w2 hb2 hgr; replace hgr := hide hgr; replace hb2 := hide hb2)
    refine bodyPost_ret (results_cell1 rfl (by rfl) hb2.out Yabn.underlying34 size_tab) rfl ?_
    exact ⟨_, 0, rfl, .inr rfl, (hx0.out.alloc _).grown hgr.out (by intro k hk; cases hk; omega)⟩

set_option maxHeartbeats 8000000 in
theorem cpTable_1 (cs : List Col) (n : Int) (a : Option Addr) (cap : Nat) (ne : Bool) (w : World) (h : Hid (ColsAt w a cs)) (hl : Hid (∀ i, i < cs.length → LenC (cs.getD i col0))) (lc : cs.length < 2 ^ 39) (h0 : 0 < cs.length) :
    Calls Yabn.prog 36 #[.agg #[.int .i64 n, .slice a cs.length cap], .bool ne] w (RetTabO n cs w) := by
  have hbA : Box ((w.alloc (.cells #[.int .i64 n, .slice a cs.length cap] 34)).alloc (.cells #[.int .i64 0, .slice none 0 0] 34)) w.heap.size _ := (Box.new w _ _).alloc _
  have hbZ : Blk ((w.alloc (.cells #[.int .i64 n, .slice a cs.length cap] 34)).alloc (.cells #[.int .i64 0, .slice none 0 0] 34)) (w.heap.size + 1) 34 (tabCells 0 none 0 0) := by
    have := Blk.new (w.alloc (.cells #[.int .i64 n, .slice a cs.length cap] 34)) #[.int .i64 0, .slice none 0 0] 34
    simpa [tabCells] using this
  have hx0 : Ext w ((w.alloc (.cells #[.int .i64 n, .slice a cs.length cap] 34)).alloc (.cells #[.int .i64 0, .slice none 0 0] 34)) := ((Ext.refl w).alloc _).alloc _
  have hs0 : ((w.alloc (.cells #[.int .i64 n, .slice a cs.length cap] 34)).alloc (.cells #[.int .i64 0, .slice none 0 0] 34)).heap.size = w.heap.size + 2 := by simp
  have h0' : (0 : Int) < cs.length := by omega
  replace hbA := hide hbA
  replace hbZ := hide hbZ
  replace hx0 := hide hx0
  go_enter Yabn.func36, Yabn.ntmps36
  go_wp2_with (at_make; refine mk_col rfl rfl cs.length rfl rfl (by omega) (w.heap.size + 2) (by simp) ?_; intro w1 hown hx1 hsz; have X1 := hide (hx0.out.trans hx1); have hbA1 := hide (hbA.out.ext hx1); have hbZ1 := hide (hbZ.out.ext hx1); have m1 := hbA1.out 1 _ rfl; replace hown := hide hown; clear hx1)
  clear m1 hbA hbZ hx0 hs0
  go_loopw [6] (fun i wr => ∃ (k : Nat) (rows : List (List Value)) (lo hi : Nat → Nat), i = .int .i64 k ∧ k ≤ cs.length ∧ Hid (rows.length = cs.length) ∧ Hid (OwnV wr (w.heap.size + 2) 29 5 (.slice (some ⟨w.heap.size + 2, 0, none⟩) cs.length cs.length) rows) ∧ Hid (TabRows wr rows cs lo hi 0 k) ∧ Hid (Spread lo hi (w.heap.size + 2) k wr.heap.size) ∧ Hid (But (fun q => q = w.heap.size + 2) w1 wr)) (fun i _ => cs.length - (intOf i).toNat)
  case atStart => exact ⟨0, _, fun _ => 0, fun _ => 0, rfl, by omega, (by simp [Hid]), hown, fun i h1 h2 => by omega, ⟨fun i j h1 h2 => by omega, fun i h1 => by omega, fun i h1 => by omega⟩, But.refl _ _⟩
  clear hown
  obtain ⟨k, rows, lo, hi, rfl, hk, hrl, hown, hrows, hsp, hbut⟩ := hrel
  have zW := hbut.out.size
  have hX : Hid (Ext w wr) := But.ext ((But.of_ext X1.out).trans hbut.out) (fun q hq => by omega)
  have hbA2 := hide (hbut.out.box hbA1.out (by omega) (by omega))
  have m1 := hbA2.out 1 _ rfl
  by_cases hlt : k < cs.length
  · have hlt' : (k : Int) < cs.length := by omega
    obtain ⟨b, off, a1, a2, a3, a4, c1, c2, c3, c4, rfl, ⟨g0, g1, g2, g3, g4⟩, hca, _⟩ := (h.out.ext hX.out) k hlt
    have hlk := hide (hl.out k hlt)
    have hwb : b < wr.heap.size := cell_lt g0
    have hnew : ∀ (w1 w2 : World) p1 p2 p3 p4 q1 q2 q3 q4, Ext wr w1 → OwnC 27 w1 wr.heap.size w1.heap.size (cs.getD k col0) p1 p2 p3 p4 q1 q2 q3 q4 → But (fun q => q = w.heap.size + 2) w1 w2 →
        TabRows w2 (rows.set k (cellsC (cs.getD k col0) p1 p2 p3 p4 q1 q2 q3 q4)) cs (fun i => if i = k then wr.heap.size else lo i) (fun i => if i = k then w1.heap.size else hi i) 0 (k + 1) := by
      intro w1' w2' p1 p2 p3 p4 q1 q2 q3 q4 hx ho hb i h1 h2
      have hr := hrl.out
      by_cases e : i = k
      · subst e
        refine ⟨p1, p2, p3, p4, q1, q2, q3, q4, by rw [getD_set_rows _ _ _ (by omega), if_pos rfl], ?_⟩
        simp only [if_true]
        exact ho.but hb (fun q h3 h4 h5 => by omega)
      · obtain ⟨a1, a2, a3, a4, c1, c2, c3, c4, e1, ho1⟩ := hrows.out i h1 (by omega)
        refine ⟨a1, a2, a3, a4, c1, c2, c3, c4, by rw [getD_set_rows _ _ _ (by omega), if_neg e]; exact e1, ?_⟩
        simp only [if_neg e]
        have := hsp.out.above i (by omega)
        exact (ho1.ext hx).but hb (fun q h3 h4 h5 => by omega)
    replace hnew := hide hnew
    replace hca := hide hca
    generalize cs.getD k col0 = C at *
    obtain ⟨ck, cp, cd, cc, cr⟩ := C
    simp only at g0 g1 g2 g3 g4
    go_wp2_with fail
    refine (cpColumn ⟨ck, cp, cd, cc, cr⟩ a1 a2 a3 a4 c1 c2 c3 c4 ne wr hca hlk).mono ?_
    rintro e v1 ⟨p1, p2, p3, p4, q1, q2, q3, q4, rfl, O1, x1⟩
    have z1 := x1.size
    have ho1 := hide (hown.out.ext x1)
    replace O1 := hide O1
    replace x1 := hide x1
    clear m1 g0 g1 g2 g3 g4 hca
    have hkr : k < rows.length := by have := hrl.out; omega
    replace hkr := hide hkr
    go_wp2_with (refine wpList_storeV rfl rfl (i := k) (k := 5) (vs := cellsC ⟨ck, cp, cd, cc, cr⟩ p1 p2 p3 p4 q1 q2 q3 q4) (by rfl) (by rfl) ho1.out hkr.out size_col5 rfl (cellsC_one _ _ _ _ _ _ _ _ _) ?_; intro v2 hown2 hgr; replace hgr := hide hgr; replace hown2 := hide hown2)
    have b2 : But (fun q => q = w.heap.size + 2) v1 v2 := But.of_grown hgr.out (fun q hq => by cases hq; rfl)
    have hfin := hide (hnew.out v1 v2 p1 p2 p3 p4 q1 q2 q3 q4 x1.out O1.out b2)
    have hsp2 : Hid (Spread (fun i => if i = k then wr.heap.size else lo i) (fun i => if i = k then v1.heap.size else hi i) (w.heap.size + 2) (k + 1) v2.heap.size) := (hsp.out.step (Nat.le_refl _) z1 (by omega)).mono b2.size
    have hb3 : Hid (But (fun q => q = w.heap.size + 2) w1 v2) := (hbut.out.trans (But.of_ext x1.out)).trans b2
    clear hgr b2 hnew ho1 O1 x1
    go_roundw
    case rel => exact ⟨k + 1, _, _, _, by go_num, by omega, (by simp only [Hid, List.length_set]; exact hrl.out), hown2.out, hfin.out, hsp2.out, hb3.out⟩
    case measure => simp [intOf]; omega
  · obtain rfl : k = cs.length := by omega
    have m0 := hbA2.out 0 _ rfl
    have hbz := hide (hbut.out.blk hbZ1.out (by omega))
    clear hlt hk
    go_wp2_with (refine wpList_storeB (vs := tabCells n (some ⟨w.heap.size + 2, 0, none⟩) cs.length cs.length) rfl rfl (by rfl) (by rfl) hbz.out size_tab rfl (tabCells_one _ _ _ _) ?_; intro w2 hb2 hgr; replace hgr := hide hgr; replace hb2 := hide hb2)
    refine bodyPost_ret (results_cell1 rfl (by rfl) hb2.out Yabn.underlying34 size_tab) rfl ?_
    have hx2 : Ext w w2 := hX.out.grown hgr.out (by intro k hk; cases hk; omega)
    have bS : But (fun k => k = w.heap.size + 1) wr w2 := But.of_grown hgr.out (fun k hk => by cases hk; rfl)
    have hv2 : OwnV w2 w.heap.size 29 5 (.slice (some ⟨w.heap.size + 2, 0, none⟩) cs.length cs.length) rows := OwnV.mono ⟨hown.out.1, bS.row hown.out.2 (fun k hk he => by have := hown.out.block k hk; omega)⟩ (by omega)
    have hr2 : TabRows w2 rows cs lo hi 0 cs.length := hrows.out.but bS (fun i h1 h2 q h3 h4 h5 => by have := hsp.out.above i h2; omega) (fun i h1 h2 => rfl)
    exact ⟨_, _, rfl, .inl ⟨rows, lo, hi, w.heap.size + 2, wr.heap.size, hv2, hrl.out, hr2, hsp.out, bS.size, rfl⟩, hx2⟩

theorem cpTable (cs : List Col) (n : Int) (a : Option Addr) (cap : Nat) (ne : Bool) (w : World) (h : Hid (ColsAt w a cs)) (hl : Hid (∀ i, i < cs.length → LenC (cs.getD i col0))) (lc : cs.length < 2 ^ 39) :
    Calls Yabn.prog 36 #[.agg #[.int .i64 n, .slice a cs.length cap], .bool ne] w (RetTabO n cs w) := by
  by_cases h0 : 0 < cs.length
  · exact cpTable_1 cs n a cap ne w h hl lc h0
  · obtain rfl : cs = [] := List.eq_nil_of_length_eq_zero (by omega)
    exact cpTable_0 n a cap ne w

set_option maxHeartbeats 1000000 in
theorem scTable_0 (n : Int) (a : Option Addr) (cap base : Nat) (w : World) (hb : base ≤ w.heap.size) : Calls Yabn.prog 39 #[.agg #[.int .i64 n, .slice a 0 cap]] w (RetUnit base w) := by
  have hbA : Box (w.alloc (.cells #[.int .i64 n, .slice a 0 cap] 34)) w.heap.size _ := Box.new w _ _
  have hx0 : Ext w (w.alloc (.cells #[.int .i64 n, .slice a 0 cap] 34)) := (Ext.refl w).alloc _
  replace hbA := hide hbA
  replace hx0 := hide hx0
  go_enter Yabn.func39, Yabn.ntmps39
  go_wp2
  generalize (w.alloc (.cells #[.int .i64 n, .slice a 0 cap] 34)) = W at *
  go_loopw [2] (fun i wr => i = .int .i64 0 ∧ wr = W) (fun _ _ => 0)
  case atStart => exact ⟨rfl, rfl⟩
  obtain ⟨rfl, rfl⟩ := hrel
  have m1 := hbA.out 1 _ rfl
  go_wp2
  go_end0
  exact ⟨rfl, hx0.out.mono hb⟩

set_option maxHeartbeats 8000000 in
theorem scTable_1 (cs : List Col) (n : Int) (g cap base T : Nat) (rows : List (List Value)) (lo hi : Nat → Nat) (w : World) (hown0 : Hid (OwnV w base 29 5 (.slice (some ⟨g, 0, none⟩) cs.length cap) rows)) (hrl0 : Hid (rows.length = cs.length)) (hrows0 : Hid (TabRows w rows cs lo hi 0 cs.length)) (hsp : Hid (Spread lo hi g cs.length T)) (hT : T ≤ w.heap.size)
    (hl : Hid (∀ i, i < cs.length → LenC (cs.getD i col0))) (lc : cs.length < 2 ^ 39) :
    Calls Yabn.prog 39 #[.agg #[.int .i64 n, .slice (some ⟨g, 0, none⟩) cs.length cap]] w (RetUnit base w) := by
  have hg1 := (OwnV.lt hown0.out).1
  have hg2 := (OwnV.lt hown0.out).2
  have hbA : Box (w.alloc (.cells #[.int .i64 n, .slice (some ⟨g, 0, none⟩) cs.length cap] 34)) w.heap.size _ := Box.new w _ _
  have hx0 : Ext w (w.alloc (.cells #[.int .i64 n, .slice (some ⟨g, 0, none⟩) cs.length cap] 34)) := (Ext.refl w).alloc _
  have hs0 : (w.alloc (.cells #[.int .i64 n, .slice (some ⟨g, 0, none⟩) cs.length cap] 34)).heap.size = w.heap.size + 1 := by simp
  replace hbA := hide hbA
  replace hx0 := hide hx0
  go_enter Yabn.func39, Yabn.ntmps39
  go_wp2
  generalize (w.alloc (.cells #[.int .i64 n, .slice (some ⟨g, 0, none⟩) cs.length cap] 34)) = W at *
  go_loopw [2] (fun i wr => ∃ (k : Nat) (rows : List (List Value)), i = .int .i64 k ∧ k ≤ cs.length ∧ Hid (rows.length = cs.length) ∧ Hid (OwnV wr base 29 5 (.slice (some ⟨g, 0, none⟩) cs.length cap) rows) ∧ Hid (TabRows wr rows cs lo hi k cs.length) ∧ Hid (But (Rng base w.heap.size) W wr)) (fun i _ => cs.length - (intOf i).toNat)
  case atStart => exact ⟨0, rows, rfl, by omega, hrl0, hown0.out.ext hx0.out, hrows0.out.ext hx0.out, But.refl _ _⟩
  clear hown0 hrl0 hrows0 rows
  obtain ⟨k, rows, rfl, hk, hrl, hown, hrows, hbut⟩ := hrel
  have zW := hbut.out.size
  have hbM := hide (hbut.out.box hbA.out (by omega) (fun hr => by have := hr.2; omega))
  have m1 := hbM.out 1 _ rfl
  by_cases hlt : k < cs.length
  · have hlt' : (k : Int) < cs.length := by omega
    have hkr : k < rows.length := by have := hrl.out; omega
    obtain ⟨a1, a2, a3, a4, c1, c2, c3, c4, er, ho⟩ := hrows.out k (Nat.le_refl _) hlt
    obtain ⟨g', off, eg, hc⟩ := (OwnV.rows hown.out) k hkr
    cases eg
    rw [er] at hc
    have hlk := hide (hl.out k hlt)
    have habove := hsp.out.above k hlt
    have hbelow := hsp.out.below k hlt
    have g0 := hc 0 _ rfl
    have g1 := hc 1 _ rfl
    have g2 := hc 2 _ rfl
    have g3 := hc 3 _ rfl
    have g4 := hc 4 _ rfl
    simp only [Nat.zero_add, Nat.add_zero] at g0 g1 g2 g3 g4
    have hnx : ∀ (w1 w2 : World) (rows' : List (List Value)), But (Rng (lo k) (hi k)) wr w1 → But (fun q => q = g) w1 w2 → (∀ i, i ≠ k → rows'.getD i [] = rows.getD i []) → TabRows w2 rows' cs lo hi (k + 1) cs.length := by
      intro w1 w2 rows' b1 b2 hr
      have t1 : TabRows w1 rows cs lo hi (k + 1) cs.length := TabRows.but (fun i h1 h2 => hrows.out i (by omega) h2) b1 (fun i h1 h2 q h3 h4 h5 => by have := hsp.out.ord k i (by omega) h2; have := h5.2; omega) (fun i _ _ => rfl)
      exact t1.but b2 (fun i h1 h2 q h3 h4 h5 => by have := hsp.out.above i h2; omega) (fun i h1 _ => hr i (by omega))
    replace hnx := hide hnx
    replace ho := hide ho
    clear hc er
    generalize cs.getD k col0 = C at *
    obtain ⟨ck, cp, cd, cc, cr⟩ := C
    simp only at g0 g1 g2 g3 g4
    go_wp2_with fail
    refine (scColumn ⟨ck, cp, cd, cc, cr⟩ a1 a2 a3 a4 c1 c2 c3 c4 (lo k) (hi k) wr ho (by omega) hlk).mono ?_
    rintro e w1 ⟨rfl, b1⟩
    have z1 := b1.size
    have hown1 : OwnV w1 base 29 5 (.slice (some ⟨g, 0, none⟩) cs.length cap) rows := ⟨hown.out.1, b1.row hown.out.2 (fun q hq hr => by cases hq; have := hr.1; simp only at this; omega)⟩
    have hb1 := hide (b1.box hbM.out (by omega) (fun hr => by have := hr.2; omega))
    have m1' := hb1.out 1 _ rfl
    have ge := b1.cell g0 (fun hr => by have := hr.1; simp only at this; omega)
    have gf := OwnV.frozenAt hown1 (k * 5)
    have hst := fun u => OwnV.stored1 hown1 k 0 hkr (by omega) (.int .i64 u)
    have hgs := fun u : Int => grown_setCell w1 ⟨g, k * 5, none⟩ (.int .i64 u)
    replace hown1 := hide hown1
    replace hst := hide hst
    replace hgs := hide hgs
    replace b1 := hide b1
    replace hkr := hide hkr
    clear m1 g0 g1 g2 g3 g4 ho
    go_wp2
    refine Dr.region_text (by kernel_rfl) ?_
    go_wp2
    refine ⟨by rfl, ?_⟩
    go_wp2
    go_roundw
    case rel =>
      refine ⟨k + 1, _, by go_num, by omega, ?_, (hst.out _).drew, (hnx.out w1 _ _ b1.out (But.of_grown (hgs.out _) (fun q hq => by cases hq; rfl)) ?_).ext (Ext.refl _).drew, ?_⟩
      · simp only [Hid, List.length_set]; exact hrl.out
      · intro i hi'
        rw [getD_set_rows _ _ _ hkr.out, if_neg hi']
      · refine (hbut.out.trans (b1.out.mono ?_)).trans ((But.of_grown (S := Rng base w.heap.size) (hgs.out _) ?_).trans (But.of_ext (Ext.refl _).drew))
        · intro q hq; exact ⟨by have := hq.1; omega, by have := hq.2; omega⟩
        · intro q hq; cases hq; exact ⟨hg1, hg2⟩
    case measure => simp [intOf]; omega
  · obtain rfl : k = cs.length := by omega
    clear hlt hk
    have hfin : Hid (Below base w wr) := ((But.of_ext hx0.out).trans hbut.out).below (fun q hq => hq.1) (by omega)
    go_wp2
    go_end0
    exact ⟨rfl, hfin.out⟩

theorem scTable (cs : List Col) (n : Int) (a : Option Addr) (cap base : Nat) (w : World) (h : OwnTab w base a cap cs) (hb : base ≤ w.heap.size) (hl : Hid (∀ i, i < cs.length → LenC (cs.getD i col0))) (lc : cs.length < 2 ^ 39) :
    Calls Yabn.prog 39 #[.agg #[.int .i64 n, .slice a cs.length cap]] w (RetUnit base w) := by
  rcases h with ⟨rows, lo, hi, g, T, h1, h2, h3, h4, h5, h6⟩ | rfl
  · obtain ⟨p, q, e, hf⟩ := h1.form
    injection e with e1 e2 e3
    subst e1
    rcases hf with ⟨rfl, _⟩ | ⟨g', rfl⟩
    · cases h6
    · obtain rfl : g' = g := by simpa [Value.ownBlock] using h6
      exact scTable_1 cs n g' cap base T rows lo hi w h1 h2 h3 h4 h5 hl lc
  · exact scTable_0 n a cap base w hb
end Go.Proofs.Ybyabw
