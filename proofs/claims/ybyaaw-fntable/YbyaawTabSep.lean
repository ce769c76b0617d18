/- Walks: laws.prTable, sepTable (and cvTable once more, its answer the call's own) -/
import Derived.Test.YbyaawBldTab
import Derived.Test.YbyaawColSep
namespace Go.Proofs.Ybyaaw
open Go.RowKit
set_option maxRecDepth 100000
set_option linter.unusedVariables false

/-- A slice of columns that lie apart from each other and from the slice itself. -/
structure TG (er et : TypeId) (w : World) (base top : Nat) (v : Value) (rows : List (List Value)) (F : Nat → Col) (lo hi : Nat → Nat) (m : Nat) : Prop where
  own : OwnV w base et 5 v rows
  len : rows.length = m
  cols : ∀ i, i < m → ∃ a1 a2 a3 a4 c1 c2 c3 c4, rows.getD i [] = cellsC (F i) a1 a2 a3 a4 c1 c2 c3 c4 ∧ OwnC er w (lo i) (hi i) (F i) a1 a2 a3 a4 c1 c2 c3 c4
  ord : ∀ i j, i < j → j < m → hi i ≤ lo j
  low : ∀ i, i < m → base ≤ lo i
  up : ∀ i, i < m → hi i ≤ top
  out : ∀ q, v.ownBlock = some q → q < top ∧ ∀ i, i < m → ¬ (lo i ≤ q ∧ q < hi i)

section
variable {er et : TypeId} {w w' : World} {base top m : Nat} {v : Value} {rows : List (List Value)} {F F' : Nat → Col} {lo hi : Nat → Nat}
theorem TG.ext (h : TG er et w base top v rows F lo hi m) (he : Ext w w') : TG er et w' base top v rows F lo hi m :=
  ⟨h.own.ext he, h.len, fun i hi => by obtain ⟨a1, a2, a3, a4, c1, c2, c3, c4, e, ho⟩ := h.cols i hi; exact ⟨a1, a2, a3, a4, c1, c2, c3, c4, e, ho.ext he⟩, h.ord, h.low, h.up, h.out⟩
theorem TG.but {S : Nat → Prop} (h : TG er et w base top v rows F lo hi m) (hb : But S w w') (hs : ∀ q, base ≤ q → q < top → ¬ S q) : TG er et w' base top v rows F lo hi m :=
  ⟨⟨h.own.1, hb.row h.own.2 (fun q hq => hs q (h.own.block q hq) (h.out q hq).1)⟩, h.len, fun i hi => by
    obtain ⟨a1, a2, a3, a4, c1, c2, c3, c4, e, ho⟩ := h.cols i hi
    exact ⟨a1, a2, a3, a4, c1, c2, c3, c4, e, ho.but hb (fun q h1 h2 => hs q (by have := h.low i hi; omega) (by have := h.up i hi; omega))⟩, h.ord, h.low, h.up, h.out⟩
theorem TG.congr (h : TG er et w base top v rows F lo hi m) (hf : ∀ i, i < m → F i = F' i) : TG er et w base top v rows F' lo hi m :=
  ⟨h.own, h.len, fun i hi => by rw [← hf i hi]; exact h.cols i hi, h.ord, h.low, h.up, h.out⟩
/-- One column was changed. -/
theorem TG.step (h : TG er et w base top v rows F lo hi m) {k : Nat} (hk : k < m) (hb : But (Rng (lo k) (hi k)) w w') {a1 a2 a3 a4 : Option Addr} {c1 c2 c3 c4 : Nat} (he : rows.getD k [] = cellsC (F' k) a1 a2 a3 a4 c1 c2 c3 c4) (ho : OwnC er w' (lo k) (hi k) (F' k) a1 a2 a3 a4 c1 c2 c3 c4)
    (hf : ∀ i, i ≠ k → F' i = F i) : TG er et w' base top v rows F' lo hi m := by
  refine ⟨⟨h.own.1, hb.row h.own.2 (fun q hq hr => (h.out q hq).2 k hk hr)⟩, h.len, fun i hi' => ?_, h.ord, h.low, h.up, h.out⟩
  by_cases e : i = k
  · subst e; exact ⟨a1, a2, a3, a4, c1, c2, c3, c4, he, ho⟩
  · rw [hf i e]
    obtain ⟨a1, a2, a3, a4, c1, c2, c3, c4, e1, ho1⟩ := h.cols i hi'
    refine ⟨a1, a2, a3, a4, c1, c2, c3, c4, e1, ho1.but hb (fun q h1 h2 hr => ?_)⟩
    have s3 := hr.1
    have s4 := hr.2
    rcases Nat.lt_or_gt_of_ne e with hlt2 | hlt2
    · have := h.ord i k hlt2 hk; omega
    · have := h.ord k i hlt2 hi'; omega
theorem TG.at {a : Option Addr} {cap : Nat} {cs : List Col} (h : TG er et w base top (.slice a cs.length cap) rows (fun i => cs.getD i col0) lo hi cs.length) (hl : ∀ i, i < cs.length → LenC (cs.getD i col0)) : ColsAt w a cs := fun i hi => by
  obtain ⟨a1, a2, a3, a4, c1, c2, c3, c4, e, ho⟩ := h.cols i hi
  obtain ⟨g, off, ea, hc⟩ := h.own.rows i (by rw [h.len]; exact hi)
  rw [e] at hc
  have hl' := hl i hi
  exact ⟨g, off, a1, a2, a3, a4, c1, c2, c3, c4, ea, ⟨hc 0 _ rfl, hc 1 _ rfl, hc 2 _ rfl, hc 3 _ rfl, hc 4 _ rfl⟩, ho.colAt, ⟨by have := hl'.plain; omega, by have := hl'.dict; omega, by have := hl'.codes; omega, by have := hl'.runs; omega⟩⟩
end
theorem OwnTabP.tg {w : World} {base top : Nat} {a : Option Addr} {cap : Nat} {cs : List Col} (h : OwnTabP w base top a cap cs) : ∃ rows lo hi g, TG 63 51 w base top (.slice a cs.length cap) rows (fun i => cs.getD i col0) lo hi cs.length ∧ Spread lo hi g cs.length top ∧ ∀ q, (Value.slice a cs.length cap).ownBlock = some q → q = g ∧ q < top := by
  obtain ⟨rows, lo, hi, g, h1, h2, h3, h4, h5⟩ := h
  refine ⟨rows, lo, hi, g, ⟨h1, h2, fun i hi' => h3 i (Nat.zero_le _) hi', h4.ord, fun i hi' => ?_, h4.below, fun q hq => ⟨(h5 q hq).2, fun i hi' hr => ?_⟩⟩, h4, h5⟩
  · obtain ⟨p, q, e, hf⟩ := h1.form
    rcases hf with ⟨_, _, hn⟩ | ⟨g', rfl⟩
    · omega
    · injection e with e1
      subst e1
      have e2 := (h5 g' rfl).1
      have e3 := (OwnV.lt h1).1
      have e4 := h4.above i hi'
      omega
  · have e2 := (h5 q hq).1
    have e4 := h4.above i hi'
    omega
theorem TG.tabP {w : World} {base top : Nat} {a : Option Addr} {cap : Nat} {cs : List Col} {rows : List (List Value)} {lo hi : Nat → Nat} {g : Nat} (h : TG 63 51 w base top (.slice a cs.length cap) rows (fun i => cs.getD i col0) lo hi cs.length) (hs : Spread lo hi g cs.length top) (hq : ∀ q, (Value.slice a cs.length cap).ownBlock = some q → q = g ∧ q < top) : OwnTabP w base top a cap cs :=
  ⟨rows, lo, hi, g, h.own, h.len, fun i _ hi' => h.cols i hi', hs, hq⟩

def RetTG (n : Int) (cs : List Col) (w : World) : Ending → World → Prop := fun en w' => ∃ a cap rows lo hi, en = .returned (.agg #[.int .i64 n, .slice a cs.length cap]) ∧ TG 205 143 w' w.heap.size w'.heap.size (.slice a cs.length cap) rows (fun i => cs.getD i col0) lo hi cs.length ∧ Ext w w'

set_option maxHeartbeats 4000000 in
theorem cvTableG (cs : List Col) (n : Int) (a : Option Addr) (cap : Nat) (w : World) (h : Hid (ColsAt w a cs)) (hl : Hid (∀ i, i < cs.length → LenC (cs.getD i col0))) (lc : cs.length < 2 ^ 39) :
    Calls Yaan.prog 105 #[.agg #[.int .i64 n, .slice a cs.length cap]] w (RetTG n cs w) := by
  have hbA : Box ((w.alloc (.cells #[.int .i64 n, .slice a cs.length cap] 66)).alloc (.cells #[.int .i64 0, .slice none 0 0] 153)) w.heap.size _ := (Box.new w _ _).alloc _
  have hbZ : Blk ((w.alloc (.cells #[.int .i64 n, .slice a cs.length cap] 66)).alloc (.cells #[.int .i64 0, .slice none 0 0] 153)) (w.heap.size + 1) 153 (tabCells 0 none 0 0) := by
    have := Blk.new (w.alloc (.cells #[.int .i64 n, .slice a cs.length cap] 66)) #[.int .i64 0, .slice none 0 0] 153
    simpa [tabCells] using this
  have hx0 : Ext w ((w.alloc (.cells #[.int .i64 n, .slice a cs.length cap] 66)).alloc (.cells #[.int .i64 0, .slice none 0 0] 153)) := ((Ext.refl w).alloc _).alloc _
  have hs0 : ((w.alloc (.cells #[.int .i64 n, .slice a cs.length cap] 66)).alloc (.cells #[.int .i64 0, .slice none 0 0] 153)).heap.size = w.heap.size + 2 := by simp
  replace hbA := hide hbA
  replace hbZ := hide hbZ
  replace hx0 := hide hx0
  go_enter Yaan.func105, Yaan.ntmps105
  go_wp2
  generalize ((w.alloc (.cells #[.int .i64 n, .slice a cs.length cap] 66)).alloc (.cells #[.int .i64 0, .slice none 0 0] 153)) = W at *
  go_loopw [3, 4] (fun v i wr => ∃ (k : Nat) (rows : List (List Value)) (lo hi : Nat → Nat), i = .int .i64 k ∧ k ≤ cs.length ∧ Hid (TG 205 143 wr W.heap.size wr.heap.size v rows (fun i => cs.getD i col0) lo hi k) ∧ Hid (Ext W wr)) (fun _ i _ => cs.length - (intOf i).toNat)
  case atStart => exact ⟨0, [], fun _ => 0, fun _ => 0, rfl, by omega, ⟨OwnV.nil _ _ _ _, rfl, fun i hi => by omega, fun i j h1 h2 => by omega, fun i h1 => by omega, fun i h1 => by omega, fun q hq => by cases hq⟩, Ext.refl W⟩
  obtain ⟨k, rows, lo, hi, rfl, hk, hT, hext⟩ := hrel
  have zW := hext.out.size
  have m1 := (hbA.out.ext hext.out) 1 _ rfl
  have hrl : Hid (rows.length = k) := hT.out.len
  have hown := hide hT.out.own
  by_cases hlt : k < cs.length
  · have hlt' : (k : Int) < cs.length := by omega
    obtain ⟨b, off, a1, a2, a3, a4, c1, c2, c3, c4, rfl, ⟨g0, g1, g2, g3, g4⟩, hca, _⟩ := (h.out.ext (hx0.out.trans hext.out)) k hlt
    have hlk := hide (hl.out k hlt)
    have hvq : Hid (∀ q, u3.ownBlock = some q → q < wr.heap.size) := fun q hq => (hT.out.out q hq).1
    have hnew : ∀ (w1 w2 : World) (v2 : Value) p1 p2 p3 p4 q1 q2 q3 q4, Ext wr w1 → OwnC 205 w1 wr.heap.size w1.heap.size (cs.getD k col0) p1 p2 p3 p4 q1 q2 q3 q4 →
        (∀ o : Obj, o = .cells (cellsC (cs.getD k col0) p1 p2 p3 p4 q1 q2 q3 q4).toArray 143 → (w1.alloc o).grownBy w2 u3.ownBlock → OwnV w2 W.heap.size 143 5 v2 (rows ++ [cellsC (cs.getD k col0) p1 p2 p3 p4 q1 q2 q3 q4]) → (∀ q, v2.ownBlock = some q → u3.ownBlock = some q ∨ q = (w1.alloc o).heap.size) →
        TG 205 143 w2 W.heap.size w2.heap.size v2 (rows ++ [cellsC (cs.getD k col0) p1 p2 p3 p4 q1 q2 q3 q4]) (fun i => cs.getD i col0) (fun i => if i = k then wr.heap.size else lo i) (fun i => if i = k then w1.heap.size else hi i) (k + 1)) := by
      intro w1 w2 v2 p1 p2 p3 p4 q1 q2 q3 q4 hx ho o _ hg hov hq2
      have hr := hT.out.len
      have z1 := hx.size
      have z2 := hg.size
      have z3 : (w1.alloc o).heap.size = w1.heap.size + 1 := by simp
      have hv0 := OwnV.alloc (hown.out.ext hx) o
      refine ⟨hov, by simp [hr], fun i hi' => ?_, fun i j hij hj => ?_, fun i hi' => ?_, fun i hi' => ?_, fun q hq => ⟨?_, fun i hi' hr2 => ?_⟩⟩
      · by_cases e : i = k
        · subst e
          refine ⟨p1, p2, p3, p4, q1, q2, q3, q4, ?_, ?_⟩
          · rw [List.getD_eq_getElem?_getD, List.getElem?_append_right (by omega)]
            simp [hr]
          · simp only [if_true]
            exact (ho.ext ((Ext.refl w1).alloc o)).rowGrown hv0.2 hg (by decide) (by decide) (by decide)
        · obtain ⟨a1, a2, a3, a4, c1, c2, c3, c4, e1, ho1⟩ := hT.out.cols i (by omega)
          refine ⟨a1, a2, a3, a4, c1, c2, c3, c4, ?_, ?_⟩
          · rw [← e1, List.getD_eq_getElem?_getD, List.getElem?_append_left (by omega), ← List.getD_eq_getElem?_getD]
          · simp only [if_neg e]
            exact (ho1.ext (hx.alloc o)).rowGrown hv0.2 hg (by decide) (by decide) (by decide)
      · rw [if_neg (show ¬ i = k by omega)]
        by_cases e : j = k
        · rw [if_pos e]; exact hT.out.up i (by omega)
        · rw [if_neg e]; exact hT.out.ord i j hij (by omega)
      · by_cases e : i = k
        · rw [if_pos e]; exact zW
        · rw [if_neg e]; exact hT.out.low i (by omega)
      · by_cases e : i = k
        · rw [if_pos e]; omega
        · rw [if_neg e]; have := hT.out.up i (by omega); omega
      · exact (World.ownsRow.lt hov.2 q hq).2
      · rcases hq2 q hq with hh | hh
        · have hh2 := hT.out.out q hh
          by_cases e : i = k
          · rw [if_pos e] at hr2; omega
          · rw [if_neg e, if_neg e] at hr2; exact hh2.2 i (by omega) hr2
        · by_cases e : i = k
          · rw [if_pos e, if_pos e] at hr2; omega
          · rw [if_neg e, if_neg e] at hr2; have := hT.out.up i (by omega); omega
    replace hnew := hide hnew
    replace hca := hide hca
    have hwb : b < wr.heap.size := cell_lt g0
    generalize cs.getD k col0 = C at *
    obtain ⟨ck, cp, cd, cc, cr⟩ := C
    simp only at g0 g1 g2 g3 g4
    go_wp2_with fail
    refine (cvColumn ⟨ck, cp, cd, cc, cr⟩ a1 a2 a3 a4 c1 c2 c3 c4 wr hca hlk).mono ?_
    rintro e w1 ⟨p1, p2, p3, p4, q1, q2, q3, q4, rfl, O1, x1⟩
    have z1 := x1.size
    have ho1 := hide ((hown.out.ext x1).alloc (.cells (cellsC ⟨ck, cp, cd, cc, cr⟩ p1 p2 p3 p4 q1 q2 q3 q4).toArray 143))
    have X1 : Hid (Ext W (w1.alloc (.cells (cellsC ⟨ck, cp, cd, cc, cr⟩ p1 p2 p3 p4 q1 q2 q3 q4).toArray 143))) := (hext.out.trans x1).alloc _
    have hln : rows.length < 2 ^ 39 := by have := hrl.out; omega
    replace hln := hide hln
    replace O1 := hide O1
    replace x1 := hide x1
    clear m1 g0 g1 g2 g3 g4 hca
    simp only [cellsC]
    go_wp2_with (at_builtin; refine app_lcol rfl rfl W.heap.size (by simp; omega) _ rows (cellsC ⟨ck, cp, cd, cc, cr⟩ p1 p2 p3 p4 q1 q2 q3 q4) rfl ho1.out w1.heap.size 1 (by rfl) (heap_alloc_new w1 _) rfl (cellsC_one _ _ _ _ _ _ _ _ _) hln.out ?_; intro g cp2 w2 hown2 hgr hor hlt2; replace hgr := hide hgr; replace hown2 := hide hown2; replace hor := hide hor)
    have hfin := hide (hnew.out w1 w2 _ p1 p2 p3 p4 q1 q2 q3 q4 x1.out O1.out _ rfl hgr.out hown2.out (fun q hq => by cases hq; exact hor.out))
    have X2 : Hid (Ext W w2) := X1.out.grown hgr.out (fun q hq => hown.out.block q hq)
    clear ho1 X1 hnew hown2 O1 x1 hor hgr
    rw [show rows.length = k from hrl.out] at hfin ⊢
    go_wp2
    go_roundw
    case rel => exact ⟨k + 1, _, _, _, by go_num, by omega, hfin.out, X2.out⟩
    case measure => simp [intOf]; omega
  · obtain rfl : k = cs.length := by omega
    obtain ⟨p, q, rfl, _⟩ := hown.out.form
    have m0 := (hbA.out.ext hext.out) 0 _ rfl
    have hbz := hide (hbZ.out.ext hext.out)
    clear hlt hk
    rw [show rows.length = cs.length from hrl.out] at hown hT ⊢
    go_wp2_with (refine wpList_storeB (vs := tabCells n p cs.length q) rfl rfl (by rfl) (by rfl) hbz.out size_ltab rfl (tabCells_one _ _ _ _) ?_; intro w2 hb2 hgr; replace hgr := hide hgr; replace hb2 := hide hb2)
    refine bodyPost_ret (results_cell1 rfl (by rfl) hb2.out Yaan.underlying153 size_ltab) rfl ?_
    have hx2 : Ext w w2 := (hx0.out.trans hext.out).grown hgr.out (by intro k hk; cases hk; omega)
    have bS : But (fun k => k = w.heap.size + 1) wr w2 := But.of_grown hgr.out (fun k hk => by cases hk; rfl)
    have hz := bS.size
    have t2 := hT.out.but bS (fun q h1 h2 he => by omega)
    exact ⟨p, q, rows, lo, hi, rfl, ⟨t2.own.mono (by omega), t2.len, t2.cols, t2.ord, fun i hi => by have := t2.low i hi; omega, fun i hi => by have := t2.up i hi; omega, fun q hq => ⟨by have := (t2.out q hq).1; omega, (t2.out q hq).2⟩⟩, hx2⟩

section
variable {ops : Array Oper} {rest : List Oper} {o : Oper} {a : Act} {Q : Exit → Act → World → Prop} {w : World}
theorem prb_col (hg : o.guard = none) {s x : Operand} (ho : o.op = .call { callee := .builtin .append, args := #[s, x], argTypes := #[64, 64] })
    (base : Nat) (v : Value) (rows : List (List Value)) (y : List Value) (hs : a.eval s = v) (hown : OwnV w base 51 5 v rows)
    (B c : Nat) (hx : a.eval x = .slice (some ⟨B, 0, none⟩) 1 c) (hblk : w.heap[B]? = some (.cells y.toArray 51 (0, 0))) (hy : y.length = 5) (h1 : ∀ u ∈ y, u.oneCell' = true) (hb : rows.length < 2 ^ 39)
    (h : ∀ v' w', OwnV w' base 51 5 v rows → w.grownBy w' v.ownBlock → wpList Yaan.prog ops Q rest (a.put o.dst v') w') : wpList Yaan.prog ops Q (o :: rest) a w := by
  obtain ⟨i, h2, h3, h4, h5⟩ := info_parts info_col
  exact wpList_probeG hg ho 51 Yaan.underlying64 h2 h3 h4 h5 (by simp [Value.cells]) (by omega) base v rows.length rows.flatten hs hown.2 B c y hx hblk hy h1 (by simp only [maxLen]; omega) (by omega) (fun v' w' h' hg' => h v' w' ⟨hown.1, h'⟩ hg')
end

def RetTM (base top : Nat) (v : Value) (rows : List (List Value)) (F : Nat → Col) (lo hi : Nat → Nat) (m : Nat) (w : World) : Ending → World → Prop := fun en w' => en = .returned (.tuple #[]) ∧ TG 63 51 w' base top v rows F lo hi m ∧ But (Rng base top) w w'
def RetTS (base top : Nat) (v : Value) (rows : List (List Value)) (F : Nat → Col) (lo hi : Nat → Nat) (m : Nat) (w : World) : Ending → World → Prop := fun en w' => en = .returned (.bool true) ∧ TG 63 51 w' base top v rows F lo hi m ∧ But (Rng base top) w w'

set_option maxHeartbeats 4000000 in
theorem prTable (n : Nat) (N : Int) (F : Nat → Col) (rows : List (List Value)) (lo hi : Nat → Nat) (a : Option Addr) (cap base top : Nat) (m : Int) (m0 : 0 ≤ m) (m1 : m < 10) (w : World) (h : Hid (TG 63 51 w base top (.slice a n cap) rows F lo hi n)) (ht : top ≤ w.heap.size) (hl : Hid (∀ i, i < n → LenC (F i))) (ln : n < 2 ^ 39) :
    Calls Yaan.prog 107 #[.agg #[.int .i64 N, .slice a n cap], .int .i64 m] w (RetTM base top (.slice a n cap) rows F lo hi n w) := by
  have hbA : Box (w.alloc (.cells #[.int .i64 N, .slice a n cap] 66)) w.heap.size _ := Box.new w _ _
  have hx0 : Ext w (w.alloc (.cells #[.int .i64 N, .slice a n cap] 66)) := (Ext.refl w).alloc _
  have hs0 : (w.alloc (.cells #[.int .i64 N, .slice a n cap] 66)).heap.size = w.heap.size + 1 := by simp
  have hnb : Hid (¬ Rng base top w.heap.size) := fun hh => by have := hh.2; omega
  replace hbA := hide hbA
  replace hx0 := hide hx0
  go_enter Yaan.func107, Yaan.ntmps107
  go_wp2
  generalize (w.alloc (.cells #[.int .i64 N, .slice a n cap] 66)) = W at *
  go_loopw [4] (fun i wr => ∃ (k : Nat), i = .int .i64 k ∧ k ≤ n ∧ Hid (TG 63 51 wr base top (.slice a n cap) rows F lo hi n) ∧ Hid (But (Rng base top) W wr)) (fun i _ => n - (intOf i).toNat)
  case atStart => exact ⟨0, rfl, by omega, h.out.ext hx0.out, But.refl _ _⟩
  clear h
  obtain ⟨k, rfl, hk, hT, hbut⟩ := hrel
  have zW := hbut.out.size
  have hbM := hide (hbut.out.box hbA.out (by omega) hnb.out)
  have mm1 := hbM.out 1 _ rfl
  have hrl : Hid (rows.length = n) := hT.out.len
  by_cases hlt : k < n
  · have hlt' : (k : Int) < n := by omega
    obtain ⟨a1, a2, a3, a4, c1, c2, c3, c4, e, ho⟩ := hT.out.cols k hlt
    obtain ⟨g, off, ea, hc⟩ := hT.out.own.rows k (by rw [hrl.out]; exact hlt)
    rw [e] at hc
    have g0 := hc 0 _ rfl
    have g1 := hc 1 _ rfl
    have g2 := hc 2 _ rfl
    have g3 := hc 3 _ rfl
    have g4 := hc 4 _ rfl
    have hup := hT.out.up k hlt
    have hlw := hT.out.low k hlt
    have hlk := hide (hl.out k hlt)
    have hnx : ∀ w1, But (Rng (lo k) (hi k)) wr w1 → OwnC 63 w1 (lo k) (hi k) (F k) a1 a2 a3 a4 c1 c2 c3 c4 → TG 63 51 w1 base top (.slice a n cap) rows F lo hi n := fun w1 b1 o1 => hT.out.step hlt b1 e o1 (fun _ _ => rfl)
    replace hnx := hide hnx
    replace ho := hide ho
    clear hc e
    generalize F k = C at *
    obtain ⟨ck, cp, cd, cc, cr⟩ := C
    simp only [Nat.add_zero] at g0 g1 g2 g3 g4
    subst ea
    go_wp2_with fail
    refine (prColumn ⟨ck, cp, cd, cc, cr⟩ a1 a2 a3 a4 c1 c2 c3 c4 (lo k) (hi k) m m0 m1 wr ho (by omega) hlk).mono ?_
    rintro e w1 ⟨rfl, o1, b1⟩
    simp only [id] at o1
    have hT1 := hide (hnx.out w1 b1 o1)
    replace b1 := hide b1
    clear o1 hnx mm1 g0 g1 g2 g3 g4
    go_wp2
    go_roundw
    case rel => exact ⟨k + 1, by go_num, by omega, hT1.out, hbut.out.trans (b1.out.mono (fun z hz => ⟨by have := hz.1; omega, by have := hz.2; omega⟩))⟩
    case measure => simp [intOf]; omega
  · obtain rfl : k = n := by omega
    clear hlt hk
    have hv2 := hide (hT.out.own.alloc (.cells #[.int .i64 m, .slice none 0 0, .slice none 0 0, .slice none 0 0, .slice none 0 0] 51))
    have hT2 := hide (hT.out.ext ((Ext.refl wr).alloc (.cells #[.int .i64 m, .slice none 0 0, .slice none 0 0, .slice none 0 0, .slice none 0 0] 51)))
    have hln : Hid (rows.length < 2 ^ 39) := by simp only [Hid]; have := hrl.out; omega
    go_wp2_with (at_builtin; refine prb_col rfl rfl base _ rows [.int .i64 m, .slice none 0 0, .slice none 0 0, .slice none 0 0, .slice none 0 0] rfl hv2.out wr.heap.size 1 (by rfl) (heap_alloc_new wr (.cells #[.int .i64 m, .slice none 0 0, .slice none 0 0, .slice none 0 0, .slice none 0 0] 51)) rfl (by simp [Value.oneCell']) hln.out ?_; intro v' w' ho' hbl; replace ho' := hide ho'; replace hbl := hide hbl)
    go_end0
    have hbx : But (fun q => (Value.slice a k cap).ownBlock = some q) (wr.alloc (.cells #[.int .i64 m, .slice none 0 0, .slice none 0 0, .slice none 0 0, .slice none 0 0] 51)) w' := But.of_grown hbl.out (fun q hq => hq)
    refine ⟨rfl, ⟨ho'.out, hT2.out.len, fun i hi' => ?_, hT2.out.ord, hT2.out.low, hT2.out.up, hT2.out.out⟩, ((But.of_ext hx0.out).trans (hbut.out.trans (But.of_ext ((Ext.refl wr).alloc _)))).trans (hbx.mono ?_)⟩
    · obtain ⟨a1, a2, a3, a4, c1, c2, c3, c4, e, ho⟩ := hT2.out.cols i hi'
      exact ⟨a1, a2, a3, a4, c1, c2, c3, c4, e, ho.but hbx (fun q h1 h2 h3 => (hT2.out.out q h3).2 i hi' ⟨h1, h2⟩)⟩
    · intro q hq
      exact ⟨hT2.out.own.block q hq, (hT2.out.out q hq).1⟩

theorem incC_len (c : Col) : LenC c → LenC (incC c) := LenC.inc
theorem cells_inc (c : Col) (a1 a2 a3 a4 : Option Addr) (c1 c2 c3 c4 : Nat) : cellsC (incC c) a1 a2 a3 a4 c1 c2 c3 c4 = cellsC c a1 a2 a3 a4 c1 c2 c3 c4 := by simp [cellsC, incC]

theorem getD_map_inc (cs : List Col) (i : Nat) : (cs.map incC).getD i col0 = incC (cs.getD i col0) := by
  simp only [List.getD_eq_getElem?_getD, List.getElem?_map]
  cases cs[i]? with
  | none => rfl
  | some c => rfl

set_option maxHeartbeats 16000000 in
theorem sepTable (cs : List Col) (N : Int) (rows : List (List Value)) (lo hi : Nat → Nat) (a : Option Addr) (cap base top : Nat) (w : World) (h : Hid (TG 63 51 w base top (.slice a cs.length cap) rows (fun i => cs.getD i col0) lo hi cs.length)) (ht : top ≤ w.heap.size) (hl : Hid (∀ i, i < cs.length → LenC (cs.getD i col0))) (lc : cs.length < 2 ^ 39) :
    Calls Yaan.prog 45 #[.agg #[.int .i64 N, .slice a cs.length cap]] w (RetTS base top (.slice a cs.length cap) rows (fun i => (cs.map incC).getD i col0) lo hi cs.length w) := by
  have hbA : Box (w.alloc (.cells #[.int .i64 N, .slice a cs.length cap] 66)) w.heap.size _ := Box.new w _ _
  have hx0 : Ext w (w.alloc (.cells #[.int .i64 N, .slice a cs.length cap] 66)) := (Ext.refl w).alloc _
  have hs0 : (w.alloc (.cells #[.int .i64 N, .slice a cs.length cap] 66)).heap.size = w.heap.size + 1 := by simp
  replace hbA := hide hbA
  replace hx0 := hide hx0
  go_enter Yaan.func45, Yaan.ntmps45
  go_wp2_with fail
  generalize (w.alloc (.cells #[.int .i64 N, .slice a cs.length cap] 66)) = W at *
  have C0 := hide (h.out.ext hx0.out)
  refine (cvTableG cs N a cap W (C0.out.at hl.out) hl lc).mono ?_
  rintro e w1 ⟨pe, qe, rowsE, loE, hiE, rfl, E1, x1⟩
  have z1 := x1.size
  have hbE : Box (w1.alloc (.cells #[.int .i64 N, .slice pe cs.length qe] 153)) w1.heap.size _ := Box.new w1 _ _
  have xV : Ext w (w1.alloc (.cells #[.int .i64 N, .slice pe cs.length qe] 153)) := (hx0.out.trans x1).alloc _
  have xWV : Ext W (w1.alloc (.cells #[.int .i64 N, .slice pe cs.length qe] 153)) := x1.alloc _
  have hsV : (w1.alloc (.cells #[.int .i64 N, .slice pe cs.length qe] 153)).heap.size = w1.heap.size + 1 := by simp
  have T0 := E1.ext ((Ext.refl w1).alloc (.cells #[.int .i64 N, .slice pe cs.length qe] 153))
  replace hbE := hide hbE
  replace xV := hide xV
  replace xWV := hide xWV
  replace T0 := hide T0
  clear E1 x1
  go_wp2_with fail
  generalize (w1.alloc (.cells #[.int .i64 N, .slice pe cs.length qe] 153)) = V at *
  generalize w1.heap.size = E at *
  have nb1 : Hid (¬ Rng W.heap.size E E) := fun hh => by have := hh.2; omega
  go_loopw [4] (fun i wr => ∃ (k : Nat), i = .int .i64 k ∧ k ≤ cs.length ∧ Hid (TG 205 143 wr W.heap.size E (.slice pe cs.length qe) rowsE (fun i => if i < k then incC (cs.getD i col0) else cs.getD i col0) loE hiE cs.length) ∧ Hid (But (Rng W.heap.size E) V wr)) (fun i _ => cs.length - (intOf i).toNat)
  case atStart => exact ⟨0, rfl, by omega, T0.out.congr (fun i _ => by rw [if_neg (by omega)]), But.refl _ _⟩
  clear T0
  obtain ⟨k, rfl, hk, hT, hbut⟩ := hrel
  have zW := hbut.out.size
  have hbM := hide (hbut.out.box hbE.out (by omega) nb1.out)
  have mm1 := hbM.out 1 _ rfl
  have hrl : Hid (rowsE.length = cs.length) := hT.out.len
  by_cases hlt : k < cs.length
  · have hlt' : (k : Int) < cs.length := by omega
    obtain ⟨a1, a2, a3, a4, c1, c2, c3, c4, e, ho⟩ := hT.out.cols k hlt
    simp only [Nat.lt_irrefl, if_false] at e ho
    obtain ⟨g, off, ea, hc⟩ := hT.out.own.rows k (by rw [hrl.out]; exact hlt)
    rw [e] at hc
    have g0 := hc 0 _ rfl
    have g1 := hc 1 _ rfl
    have g2 := hc 2 _ rfl
    have g3 := hc 3 _ rfl
    have g4 := hc 4 _ rfl
    have hup := hT.out.up k hlt
    have hlw := hT.out.low k hlt
    have hlk := hide (hl.out k hlt)
    have hnx : ∀ w1, But (Rng (loE k) (hiE k)) wr w1 → OwnC 205 w1 (loE k) (hiE k) (incC (cs.getD k col0)) a1 a2 a3 a4 c1 c2 c3 c4 → TG 205 143 w1 W.heap.size E (.slice pe cs.length qe) rowsE (fun i => if i < k + 1 then incC (cs.getD i col0) else cs.getD i col0) loE hiE cs.length := fun w1 b1 o1 => by
      refine hT.out.step (F' := fun i => if i < k + 1 then incC (cs.getD i col0) else cs.getD i col0) hlt b1 (a1 := a1) (a2 := a2) (a3 := a3) (a4 := a4) (c1 := c1) (c2 := c2) (c3 := c3) (c4 := c4) ?_ ?_ (fun i hi' => ?_)
      · simp only [Nat.lt_succ_self, if_true, cells_inc]; exact e
      · simp only [Nat.lt_succ_self, if_true]; exact o1
      · by_cases hh : i < k
        · simp only [if_pos hh, if_pos (show i < k + 1 by omega)]
        · simp only [if_neg hh, if_neg (show ¬ i < k + 1 by omega)]
    replace hnx := hide hnx
    replace ho := hide ho
    clear hc e
    generalize cs.getD k col0 = C at *
    obtain ⟨ck, cp, cd, cc, cr⟩ := C
    simp only [Nat.add_zero] at g0 g1 g2 g3 g4
    subst ea
    go_wp2_with fail
    refine (incLColumn ⟨ck, cp, cd, cc, cr⟩ a1 a2 a3 a4 c1 c2 c3 c4 (loE k) (hiE k) wr ho (by omega) hlk).mono ?_
    rintro e w1 ⟨rfl, o1, b1⟩
    have hT1 := hide (hnx.out w1 b1 o1)
    replace b1 := hide b1
    clear o1 hnx mm1 g0 g1 g2 g3 g4
    go_wp2
    go_roundw
    case rel => exact ⟨k + 1, by go_num, by omega, hT1.out, hbut.out.trans (b1.out.mono (fun z hz => ⟨by have := hz.1; omega, by have := hz.2; omega⟩))⟩
    case measure => simp [intOf]; omega
  obtain rfl : k = cs.length := by omega
  clear hlt hk
  obtain ⟨w3, rfl⟩ : ∃ w3, w3 = wr := ⟨_, rfl⟩
  have E3 := hide (hT.out.congr (F' := fun i => (cs.map incC).getD i col0) (fun i hi' => by rw [if_pos hi', getD_map_inc]))
  have T0 := hide ((C0.out.ext xWV.out).but hbut.out (fun k h1 h2 hr => by have := hr.1; omega))
  have hbA3 := hide (hbut.out.box (hbA.out.ext xWV.out) (by have := xWV.out.size; omega) (fun hr => by have := hr.1; omega))
  have hbE3 := hide (hbut.out.box hbE.out (by omega) (fun hr => by have := hr.2; omega))
  have xw3 : Hid (Ext w w3) := But.ext ((But.of_ext xV.out).trans hbut.out) (fun k hr => by have := hr.1; omega)
  have z3 : E < w3.heap.size := by omega
  clear hT hbut hbE hbA C0 hbM hrl
  go_wp2_with fail
  clear mm1 zW
  have nb2 : Hid (¬ Rng base top w.heap.size) := fun hh => by have := hh.2; omega
  go_loopw [5] (fun i wr => ∃ (k : Nat), i = .int .i64 k ∧ k ≤ cs.length ∧ Hid (TG 63 51 wr base top (.slice a cs.length cap) rows (fun i => if i < k then incC (cs.getD i col0) else cs.getD i col0) lo hi cs.length) ∧ Hid (But (Rng base top) w3 wr)) (fun i _ => cs.length - (intOf i).toNat)
  case atStart => exact ⟨0, rfl, by omega, T0.out.congr (fun i _ => by rw [if_neg (by omega)]), But.refl _ _⟩
  clear T0
  obtain ⟨k, rfl, hk, hT, hbut⟩ := hrel
  have zW := hbut.out.size
  have hbM := hide (hbut.out.box hbA3.out (by omega) nb2.out)
  have mm1 := hbM.out 1 _ rfl
  have hrl : Hid (rows.length = cs.length) := hT.out.len
  by_cases hlt : k < cs.length
  · have hlt' : (k : Int) < cs.length := by omega
    obtain ⟨a1, a2, a3, a4, c1, c2, c3, c4, e, ho⟩ := hT.out.cols k hlt
    simp only [Nat.lt_irrefl, if_false] at e ho
    obtain ⟨g, off, ea, hc⟩ := hT.out.own.rows k (by rw [hrl.out]; exact hlt)
    rw [e] at hc
    have g0 := hc 0 _ rfl
    have g1 := hc 1 _ rfl
    have g2 := hc 2 _ rfl
    have g3 := hc 3 _ rfl
    have g4 := hc 4 _ rfl
    have hup := hT.out.up k hlt
    have hlw := hT.out.low k hlt
    have hlk := hide (hl.out k hlt)
    have hnx : ∀ w1, But (Rng (lo k) (hi k)) wr w1 → OwnC 63 w1 (lo k) (hi k) (incC (cs.getD k col0)) a1 a2 a3 a4 c1 c2 c3 c4 → TG 63 51 w1 base top (.slice a cs.length cap) rows (fun i => if i < k + 1 then incC (cs.getD i col0) else cs.getD i col0) lo hi cs.length := fun w1 b1 o1 => by
      refine hT.out.step (F' := fun i => if i < k + 1 then incC (cs.getD i col0) else cs.getD i col0) hlt b1 (a1 := a1) (a2 := a2) (a3 := a3) (a4 := a4) (c1 := c1) (c2 := c2) (c3 := c3) (c4 := c4) ?_ ?_ (fun i hi' => ?_)
      · simp only [Nat.lt_succ_self, if_true, cells_inc]; exact e
      · simp only [Nat.lt_succ_self, if_true]; exact o1
      · by_cases hh : i < k
        · simp only [if_pos hh, if_pos (show i < k + 1 by omega)]
        · simp only [if_neg hh, if_neg (show ¬ i < k + 1 by omega)]
    replace hnx := hide hnx
    replace ho := hide ho
    clear hc e
    generalize cs.getD k col0 = C at *
    obtain ⟨ck, cp, cd, cc, cr⟩ := C
    simp only [Nat.add_zero] at g0 g1 g2 g3 g4
    subst ea
    go_wp2_with fail
    refine (incColumn ⟨ck, cp, cd, cc, cr⟩ a1 a2 a3 a4 c1 c2 c3 c4 (lo k) (hi k) wr ho (by omega) hlk).mono ?_
    rintro e w1 ⟨rfl, o1, b1⟩
    have hT1 := hide (hnx.out w1 b1 o1)
    replace b1 := hide b1
    clear o1 hnx mm1 g0 g1 g2 g3 g4
    go_wp2
    go_roundw
    case rel => exact ⟨k + 1, by go_num, by omega, hT1.out, hbut.out.trans (b1.out.mono (fun z hz => ⟨by have := hz.1; omega, by have := hz.2; omega⟩))⟩
    case measure => simp [intOf]; omega
  obtain rfl : k = cs.length := by omega
  clear hlt hk
  obtain ⟨w4, rfl⟩ : ∃ w4, w4 = wr := ⟨_, rfl⟩
  have C4 := hide (hT.out.congr (F' := fun i => (cs.map incC).getD i col0) (fun i hi' => by rw [if_pos hi', getD_map_inc]))
  have E4 := hide (E3.out.but hbut.out (fun k h1 h2 hr => by have := hr.2; omega))
  have hbA4 := hide (hbut.out.box hbA3.out (by omega) (fun hr => by have := hr.2; omega))
  have hbE4 := hide (hbut.out.box hbE3.out (by omega) (fun hr => by have := hr.2; omega))
  have xw4 : Hid (But (Rng base top) w w4) := (But.of_ext xw3.out).trans hbut.out
  clear hT hbut E3 hbA3 hbE3 xw3 hbM hrl
  obtain ⟨ds, hds⟩ : ∃ ds, ds = cs.map incC := ⟨_, rfl⟩
  have hdl : ds.length = cs.length := by rw [hds]; simp
  have hl' : Hid (∀ i, i < ds.length → LenC (ds.getD i col0)) := fun i hi' => by rw [hds, getD_map_inc]; exact (hl.out i (by omega)).inc
  rw [← hds] at C4 E4
  replace hds := hide hds
  clear hl
  have lc' : ds.length < 2 ^ 39 := by omega
  have hcv := fun w (hc : ColsAt w a ds) => cvTable ds N a cap w hc hl' lc'
  have heq := fun r1 s1 w (hc : ColsAt w r1 ds) (hd : ColsAt w pe ds) => eqLTable ds N r1 pe s1 qe w hc hd hl' lc'
  have hpr := fun m m0 m1 w (hC : Hid (TG 63 51 w base top (.slice a ds.length cap) rows (fun i => ds.getD i col0) lo hi ds.length)) ht => prTable ds.length N _ rows lo hi a cap base top m m0 m1 w hC ht hl' lc'
  have hatA : ∀ w, TG 63 51 w base top (.slice a ds.length cap) rows (fun i => ds.getD i col0) lo hi ds.length → ColsAt w a ds := fun w h => h.at hl'.out
  have hatE : ∀ w, TG 205 143 w W.heap.size E (.slice pe ds.length qe) rowsE (fun i => ds.getD i col0) loE hiE ds.length → ColsAt w pe ds := fun w h => h.at hl'.out
  rw [hdl] at hcv heq hpr hatA hatE
  replace hcv := hide hcv
  replace heq := hide heq
  replace hpr := hide hpr
  replace hatA := hide hatA
  replace hatE := hide hatE
  replace hdl := hide hdl
  clear lc'
  go_wp2
  clear mm1
  have k0 := hbA4.out 0 _ rfl
  have k1 := hbA4.out 1 _ rfl
  refine Dr.region_held (fun b => b = E) [2] (by kernel_rfl) ?_
  refine Dr.held_q1 (by rfl) ?_
  go_wp2
  refine Dr.held_act (by rfl) (by rfl) ?_
  go_wp2_with fail
  refine (hcv.out _ ((hatA.out _ C4.out).ext (Ext.refl _).drew)).mono ?_
  rintro e w5 ⟨r1, s1, rfl, F5, x5⟩
  simp only [hdl.out]
  clear k0 k1
  have y5 : Hid (Ext w4 w5) := (Ext.refl _).drew.trans x5
  have z5 := y5.out.size
  refine ⟨fun b hb => x5.block b (by simp only at hb; simp only [World.drew]; omega), ?_⟩
  replace F5 := hide F5
  clear x5
  have k0 := (hbE4.out.ext y5.out) 0 _ rfl
  have k1 := (hbE4.out.ext y5.out) 1 _ rfl
  refine Dr.held_q1 (by rfl) ?_
  go_wp2
  refine Dr.held_act (by rfl) (by rfl) ?_
  go_wp2_with fail
  refine (heq.out r1 s1 w5 F5.out ((hatE.out _ E4.out).ext y5.out)).mono ?_
  rintro e w6 ⟨rfl, x6⟩
  refine ⟨fun b hb => x6.block b (by simp only at hb; omega), ?_⟩
  have k7 := x6.cell k0
  clear k0 k1 F5
  have y6 : Hid (Ext w4 w6) := y5.out.trans x6
  clear x6
  refine Dr.held_q1 (by rfl) ?_
  go_wp2
  refine Dr.held_nil (by rfl) ⟨fun _ => ⟨E, 0, rfl, rfl, Dr.isCells_of k7⟩, trivial⟩ ?_
  clear k7 z5 y5
  go_wp2
  go_loopw [6] (fun i wr => ∃ k : Nat, i = .int .i64 k ∧ k ≤ 2 ∧ Hid (TG 63 51 wr base top (.slice a cs.length cap) rows (fun i => ds.getD i col0) lo hi cs.length) ∧ Hid (But (Rng base top) w4 wr)) (fun i _ => 2 - (intOf i).toNat)
  case atStart => exact ⟨0, rfl, by omega, C4.out.ext y6.out, But.of_ext y6.out⟩
  clear y6
  obtain ⟨k, rfl, hk, C, B⟩ := hrel
  have hz := B.out.size
  by_cases hk2 : k < 2
  · have hk2' : (k : Int) < 2 := by omega
    have hbAr := hide (B.out.box hbA4.out (by omega) (fun hr => by have := hr.2; omega))
    have k0 := hbAr.out 0 _ rfl
    have k1 := hbAr.out 1 _ rfl
    go_wp2_with fail
    clear k0 k1 hbAr
    refine (hpr.out k (by omega) (by omega) wr C (by omega)).mono ?_
    rintro e w7 ⟨rfl, C7, B7⟩
    replace C7 := hide C7
    have B47 := hide (B.out.trans B7)
    have z7 := B47.out.size
    have hbA7 := hide (B47.out.box hbA4.out (by omega) (fun hr => by have := hr.2; omega))
    have hbE7 := hide (B47.out.box hbE4.out (by omega) (fun hr => by have := hr.2; omega))
    have E7 := hide (E4.out.but B47.out (fun k h1 h2 hr => by have := hr.2; omega))
    clear B7 C B
    go_wp2
    have k0 := hbA7.out 0 _ rfl
    have k1 := hbA7.out 1 _ rfl
    refine Dr.region_held (fun b => b = E) [2] (by kernel_rfl) ?_
    refine Dr.held_q1 (by rfl) ?_
    go_wp2
    refine Dr.held_act (by rfl) (by rfl) ?_
    go_wp2_with fail
    refine (hcv.out _ ((hatA.out _ C7.out).ext (Ext.refl _).drew)).mono ?_
    rintro e w5 ⟨r1, s1, rfl, F5, x5⟩
    simp only [hdl.out]
    clear k0 k1
    have y5 : Hid (Ext w7 w5) := (Ext.refl _).drew.trans x5
    have z5 := y5.out.size
    refine ⟨fun b hb => x5.block b (by simp only at hb; simp only [World.drew]; omega), ?_⟩
    replace F5 := hide F5
    clear x5
    have k0 := (hbE7.out.ext y5.out) 0 _ rfl
    have k1 := (hbE7.out.ext y5.out) 1 _ rfl
    refine Dr.held_q1 (by rfl) ?_
    go_wp2
    refine Dr.held_act (by rfl) (by rfl) ?_
    go_wp2_with fail
    refine (heq.out r1 s1 w5 F5.out ((hatE.out _ E7.out).ext y5.out)).mono ?_
    rintro e w6 ⟨rfl, x6⟩
    refine ⟨fun b hb => x6.block b (by simp only at hb; omega), ?_⟩
    have k7 := x6.cell k0
    clear k0 k1 F5
    have y6 : Hid (Ext w7 w6) := y5.out.trans x6
    clear x6
    refine Dr.held_q1 (by rfl) ?_
    go_wp2
    refine Dr.held_nil (by rfl) ⟨fun _ => ⟨E, 0, rfl, rfl, Dr.isCells_of k7⟩, trivial⟩ ?_
    clear k7 z5 y5
    go_wp2
    go_roundw
    case rel => exact ⟨k + 1, by go_num, by omega, C7.out.ext y6.out, B47.out.trans (But.of_ext y6.out)⟩
    case measure => simp [intOf]; omega
  · obtain rfl : k = 2 := by omega
    clear hk hk2
    go_wp2
    go_ret
    have hC := C.out
    rw [hds.out] at hC
    exact ⟨rfl, hC, xw4.out.trans B.out⟩
end Go.Proofs.Ybyaaw
