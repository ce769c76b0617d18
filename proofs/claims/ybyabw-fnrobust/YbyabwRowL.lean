/- Slices of slices of int64. Walks: laws.eqRows, cpRows, scRows -/
import Derived.Test.YbyabwTabM
namespace Go.Proofs.Ybyabw
open Go.RowKit
set_option maxRecDepth 100000
set_option linter.unusedVariables false

theorem info_row : (Yabn.prog.info? 23).map (fun i => (i.zero, i.size, i.bytes)) = some (some (.slice none 0 0), 1, 24) := by kernel_rfl
abbrev nilV : Value := .slice none 0 0
/-- n rows as they are read: row i is f i. -/
def IRows (w : World) (a : Option Addr) (n : Nat) (f : Nat → List Int) : Prop := ∀ i, i < n → ∃ b off a' c', a = some ⟨b, off, none⟩ ∧ w.cell? ⟨b, off + i, none⟩ = some (.slice a' (f i).length c') ∧ IntsAt w a' (f i)
theorem IRows.ext {w w' : World} {a : Option Addr} {n : Nat} {f : Nat → List Int} (h : IRows w a n f) (he : Ext w w') : IRows w' a n f := fun i hi => by
  obtain ⟨b, off, a', c', e, hc, hr⟩ := h i hi
  exact ⟨b, off, a', c', e, he.cell hc, hr.ext he⟩
theorem IRows.congr {w : World} {a : Option Addr} {n : Nat} {f f' : Nat → List Int} (h : IRows w a n f) (he : ∀ i, i < n → f i = f' i) : IRows w a n f' := fun i hi => by
  have := h i hi
  rwa [he i hi] at this

/-- From row k on: the rows, each in a block of its own. -/
def RowsF (w : World) (ss : List Value) (f : Nat → List Int) (lo hi : Nat → Nat) (k m : Nat) : Prop :=
  ∀ i, k ≤ i → i < m → ∃ a c, ss.getD i nilV = .slice a (f i).length c ∧ OwnI w (lo i) 2 (.slice a (f i).length c) (f i) ∧ ∀ q, (Value.slice a (f i).length c).ownBlock = some q → q < hi i
theorem RowsF.ext {w w' : World} {ss : List Value} {f : Nat → List Int} {lo hi : Nat → Nat} {k m : Nat} (h : RowsF w ss f lo hi k m) (he : Ext w w') : RowsF w' ss f lo hi k m := fun i h1 h2 => by
  obtain ⟨a, c, e, ho, ht⟩ := h i h1 h2
  exact ⟨a, c, e, ho.ext he, ht⟩
theorem RowsF.but {S : Nat → Prop} {w w' : World} {ss ss' : List Value} {f f' : Nat → List Int} {lo hi : Nat → Nat} {k m : Nat} (h : RowsF w ss f lo hi k m) (hb : But S w w') (hs : ∀ i, k ≤ i → i < m → ∀ q, lo i ≤ q → q < hi i → ¬ S q) (hr : ∀ i, k ≤ i → i < m → ss'.getD i nilV = ss.getD i nilV) (hf : ∀ i, k ≤ i → i < m → f' i = f i) : RowsF w' ss' f' lo hi k m := fun i h1 h2 => by
  obtain ⟨a, c, e, ho, ht⟩ := h i h1 h2
  rw [hf i h1 h2]
  exact ⟨a, c, (hr i h1 h2).trans e, ho.butS hb (fun q hq => hs i h1 h2 q (ho.block q hq) (ht q hq)), ht⟩
theorem RowsF.from {w : World} {ss : List Value} {f : Nat → List Int} {lo hi : Nat → Nat} {k k' m : Nat} (h : RowsF w ss f lo hi k m) (hk : k ≤ k') : RowsF w ss f lo hi k' m := fun i h1 h2 => h i (by omega) h2

/-- n rows that are the call's own: above base, below top. -/
def OwnRows (w : World) (base top : Nat) (a : Option Addr) (cap n : Nat) (f : Nat → List Int) : Prop :=
  ∃ ss lo hi g, w.ownsRow base 23 1 (.slice a n cap) n ss ∧ RowsF w ss f lo hi 0 n ∧ Spread lo hi g n top ∧ ∀ q, (Value.slice a n cap).ownBlock = some q → q = g ∧ q < top
theorem OwnRows.ext {w w' : World} {base top : Nat} {a : Option Addr} {cap n : Nat} {f : Nat → List Int} (h : OwnRows w base top a cap n f) (he : Ext w w') : OwnRows w' base top a cap n f := by
  obtain ⟨ss, lo, hi, g, h1, h2, h3, h4⟩ := h
  exact ⟨ss, lo, hi, g, ownsRow_ext h1 he, h2.ext he, h3, h4⟩
theorem OwnRows.mono {w : World} {base top base' top' : Nat} {a : Option Addr} {cap n : Nat} {f : Nat → List Int} (h : OwnRows w base top a cap n f) (hb : base' ≤ base) (ht : top ≤ top') : OwnRows w base' top' a cap n f := by
  obtain ⟨ss, lo, hi, g, h1, h2, h3, h4⟩ := h
  exact ⟨ss, lo, hi, g, ownsRow_mono h1 hb, h2, h3.mono ht, fun q hq => ⟨(h4 q hq).1, by have := (h4 q hq).2; omega⟩⟩
theorem OwnRows.but {S : Nat → Prop} {w w' : World} {base top : Nat} {a : Option Addr} {cap n : Nat} {f : Nat → List Int} (h : OwnRows w base top a cap n f) (hb : But S w w') (hs : ∀ q, base ≤ q → q < top → ¬ S q) : OwnRows w' base top a cap n f := by
  obtain ⟨ss, lo, hi, g, h1, h2, h3, h4⟩ := h
  refine ⟨ss, lo, hi, g, hb.row h1 (fun q hq => hs q (World.ownsRow.lt h1 q hq).1 (h4 q hq).2), ?_, h3, h4⟩
  refine h2.but hb (fun i k1 k2 q q1 q2 => hs q ?_ ?_) (fun _ _ _ => rfl) (fun _ _ _ => rfl)
  · have hn : 0 < n := by omega
    rcases h1.2 with ⟨_, e⟩ | ⟨g', cap', cur, hv, hg, _⟩
    · omega
    · have := (h4 g' (by rw [hv]; rfl)).1
      have := h3.above i k2
      omega
  · have := h3.below i k2; omega
theorem OwnRows.congr {w : World} {base top : Nat} {a : Option Addr} {cap n : Nat} {f f' : Nat → List Int} (h : OwnRows w base top a cap n f) (he : ∀ i, i < n → f i = f' i) : OwnRows w base top a cap n f' := by
  obtain ⟨ss, lo, hi, g, h1, h2, h3, h4⟩ := h
  refine ⟨ss, lo, hi, g, h1, fun i k1 k2 => ?_, h3, h4⟩
  have := h2 i k1 k2
  rwa [he i k2] at this
theorem ownsRow_cell {w : World} {base : Nat} {e : TypeId} {a : Option Addr} {n cap : Nat} {ss : List Value} (h : w.ownsRow base e 1 (.slice a n cap) n ss) (i : Nat) (hi : i < n) : ∃ g, a = some ⟨g, 0, none⟩ ∧ w.cell? ⟨g, i, none⟩ = some (ss.getD i nilV) := by
  rcases h.2 with ⟨hv, hn⟩ | ⟨g, cap', cur, hv, _⟩
  · omega
  · cases hv
    refine ⟨g, rfl, ?_⟩
    have hl : ss.length = n * 1 := h.1
    rw [World.ownsRow.cellAt h i (by omega), List.getD_eq_getElem?_getD, List.getElem?_eq_getElem (by omega)]
    rfl
theorem OwnRows.at {w : World} {base top : Nat} {a : Option Addr} {cap n : Nat} {f : Nat → List Int} (h : OwnRows w base top a cap n f) : IRows w a n f := by
  obtain ⟨ss, lo, hi, g, h1, h2, h3, h4⟩ := h
  intro i hi'
  obtain ⟨g', rfl, hc⟩ := ownsRow_cell h1 i hi'
  obtain ⟨a', c', e, ho, _⟩ := h2 i (Nat.zero_le _) hi'
  rw [e] at hc
  exact ⟨g', 0, a', c', rfl, by rw [Nat.zero_add]; exact hc, ho.ints⟩

set_option maxHeartbeats 4000000 in
theorem eqRows (n : Nat) (f : Nat → List Int) (a a' : Option Addr) (cap cap' : Nat) (w : World) (h : Hid (IRows w a n f)) (h' : Hid (IRows w a' n f)) (hl : Hid (∀ i, i < n → (f i).length < 2 ^ 39)) (ln : n < 2 ^ 39) :
    Calls Yabn.prog 45 #[.slice a n cap, .slice a' n cap'] w (RetTrue w) := by
  have hnn : ((n : Int) != n) = false := by simp
  go_enter Yabn.func45, Yabn.ntmps45
  go_wp2
  go_loopw [5] (fun i wr => ∃ k : Nat, i = .int .i64 k ∧ k ≤ n ∧ Hid (Ext w wr)) (fun i _ => n - (intOf i).toNat)
  case atStart => exact ⟨0, rfl, by omega, Ext.refl w⟩
  obtain ⟨k, rfl, hk, hext⟩ := hrel
  by_cases hlt : k < n
  · have hlt' : (k : Int) < n := by omega
    obtain ⟨b1, o1, p1, q1, rfl, g1, i1⟩ := (h.out.ext hext.out) k hlt
    obtain ⟨b2, o2, p2, q2, rfl, g2, i2⟩ := (h'.out.ext hext.out) k hlt
    have hlk := hide (hl.out k hlt)
    generalize f k = xs at *
    replace i1 := hide i1
    replace i2 := hide i2
    go_wp2
    refine Dr.region_text (by kernel_rfl) ?_
    go_wp2_with fail
    refine (eqI64 xs p1 p2 q1 q2 _ (i1.out.ext (Ext.refl _).drew) (i2.out.ext (Ext.refl _).drew) hlk.out).mono ?_
    rintro e w1 ⟨rfl, x1⟩
    have X1 : Hid (Ext w w1) := hext.out.drew.trans x1
    clear x1
    go_wp2
    refine ⟨by rfl, ?_⟩
    go_wp2
    go_roundw
    case rel => exact ⟨k + 1, by go_num, by omega, X1.out⟩
    case measure => simp [intOf]; omega
  · obtain rfl : k = n := by omega
    clear hlt hk
    go_wp2
    go_ret
    exact ⟨rfl, hext.out⟩

/-! ### make([][]int64, n) -/
section
variable {ops : Array Oper} {rest : List Oper} {o : Oper} {a : Act} {Q : Exit → Act → World → Prop} {w : World}
theorem mk_rows (hg : o.guard = none) {l c : Operand} (hop : o.op = Op.makeSlice 72 l c)
    (n : Nat) (hl : a.eval l = .int .i64 n) (hc : a.eval c = .int .i64 n) (hb : n < 2 ^ 40) (N : Nat) (hN : w.heap.size = N)
    (hK : ∀ w', w'.ownsRow N 23 1 (.slice (some ⟨N, 0, none⟩) n n) n (List.replicate n nilV) → Ext w w' → w'.heap.size = N + 1 → wpList Yabn.prog ops Q rest (a.put o.dst (.slice (some ⟨N, 0, none⟩) n n)) w') :
    wpList Yabn.prog ops Q (o :: rest) a w := by
  obtain ⟨i, h2, h3, h4, h5⟩ := info_parts info_row
  refine wpList_mkV hg hop 23 Yabn.underlying72 h2 h3 h4 (by omega) (by simp [Value.cells]) (by omega) n hl hc hb N hN fun w' ho hx hs => hK w' ?_ hx hs
  have := ho.2
  rw [List.length_replicate] at this
  have e : (List.replicate n (Value.slice none 0 0).cells.toList).flatten = List.replicate n nilV := by
    simp [Value.cells]
  rwa [e] at this
end

theorem getD_setV (ss : List Value) (k : Nat) (y : Value) (hk : k < ss.length) (i : Nat) : (ss.set k y).getD i nilV = if i = k then y else ss.getD i nilV := by
  simp only [List.getD_eq_getElem?_getD, List.getElem?_set]
  by_cases h : k = i
  · subst h; simp [hk]
  · rw [if_neg h, if_neg (fun e => h e.symm)]

def RetRows (n : Nat) (f : Nat → List Int) (w : World) : Ending → World → Prop := fun en w' => ∃ a cap, en = .returned (.slice a n cap) ∧ OwnRows w' w.heap.size w'.heap.size a cap n f ∧ Ext w w'

set_option maxHeartbeats 1000000 in
theorem cpRows_0 (a : Option Addr) (c : Nat) (ne : Bool) (f : Nat → List Int) (w : World) : Calls Yabn.prog 42 #[.slice a 0 c, .bool ne] w (RetRows 0 f w) := by
  cases ne with
  | true =>
    go_enter Yabn.func42, Yabn.ntmps42
    go_wp2
    go_ret
    exact ⟨none, 0, rfl, ⟨[], fun _ => 0, fun _ => 0, 0, World.ownsRow_nil _ _ _ _, fun i h1 h2 => by omega, ⟨fun i j h1 h2 => by omega, fun i h1 => by omega, fun i h1 => by omega⟩, fun q hq => by cases hq⟩, Ext.refl w⟩
  | false =>
    go_enter Yabn.func42, Yabn.ntmps42
    go_wp2
    go_ret
    exact ⟨some ⟨w.heap.size, 0, none⟩, 0, rfl, ⟨[], fun _ => 0, fun _ => 0, w.heap.size, ownsRow_empty w _ 1, fun i h1 h2 => by omega, ⟨fun i j h1 h2 => by omega, fun i h1 => by omega, fun i h1 => by omega⟩, fun q hq => by cases hq; exact ⟨rfl, by simp⟩⟩, (Ext.refl w).alloc _⟩

set_option maxHeartbeats 8000000 in
theorem cpRows_1 (n : Nat) (f : Nat → List Int) (a : Option Addr) (c : Nat) (ne : Bool) (w : World) (h : Hid (IRows w a n f)) (hl : Hid (∀ i, i < n → (f i).length < 2 ^ 39)) (ln : n < 2 ^ 39) (h0 : ((n : Int) == 0) = false) :
    Calls Yabn.prog 42 #[.slice a n c, .bool ne] w (RetRows n f w) := by
  go_enter Yabn.func42, Yabn.ntmps42
  go_wp2_with (at_make; refine mk_rows rfl rfl n rfl rfl (by omega) w.heap.size rfl ?_; intro w1 hown hx1 hsz; replace hown := hide hown; replace hx1 := hide hx1)
  go_loopw [6] (fun i wr => ∃ (k : Nat) (ss : List Value) (lo hi : Nat → Nat), i = .int .i64 k ∧ k ≤ n ∧ Hid (wr.ownsRow w.heap.size 23 1 (.slice (some ⟨w.heap.size, 0, none⟩) n n) n ss) ∧ Hid (RowsF wr ss f lo hi 0 k) ∧ Hid (Spread lo hi w.heap.size k wr.heap.size) ∧ Hid (But (fun q => q = w.heap.size) w1 wr)) (fun i _ => n - (intOf i).toNat)
  case atStart => exact ⟨0, _, fun _ => 0, fun _ => 0, rfl, by omega, hown, fun i h1 h2 => by omega, ⟨fun i j h1 h2 => by omega, fun i h1 => by omega, fun i h1 => by omega⟩, But.refl _ _⟩
  clear hown
  obtain ⟨k, ss, lo, hi, rfl, hk, hown, hrows, hsp, hbut⟩ := hrel
  have zW := hbut.out.size
  have hX : Hid (Ext w wr) := But.ext ((But.of_ext hx1.out).trans hbut.out) (fun q hq => by omega)
  have hsl : ss.length = n := by have := hown.out.1; omega
  by_cases hlt : k < n
  · have hlt' : (k : Int) < n := by omega
    obtain ⟨b, off, p, q, rfl, g1, i1⟩ := (h.out.ext hX.out) k hlt
    have hlk := hide (hl.out k hlt)
    have hwb : b < wr.heap.size := cell_lt g1
    obtain ⟨g', eg, gk⟩ := ownsRow_cell hown.out k hlt
    cases eg
    have fk := World.ownsRow.frozenAt hown.out k
    have hnew : ∀ (w1 : World) p q, Ext wr w1 → OwnI w1 wr.heap.size 2 (.slice p (f k).length q) (f k) →
        RowsF (w1.setCell ⟨w.heap.size, k, none⟩ (.slice p (f k).length q)) (ss.set k (.slice p (f k).length q)) f (fun i => if i = k then wr.heap.size else lo i) (fun i => if i = k then w1.heap.size else hi i) 0 (k + 1) := by
      intro w1' p q hx ho i h1 h2
      have b2 : But (fun q => q = w.heap.size) w1' (w1'.setCell ⟨w.heap.size, k, none⟩ (.slice p (f k).length q)) := But.of_grown (grown_setCell w1' ⟨w.heap.size, k, none⟩ _) (fun q hq => by cases hq; rfl)
      by_cases e : i = k
      · subst e
        refine ⟨p, q, by rw [getD_setV _ _ _ (by omega), if_pos rfl], ?_, ?_⟩
        · simp only [if_true]
          exact ho.butS b2 (fun z hz hh => by have := ho.block z hz; omega)
        · simp only [if_true]
          exact fun z hz => (World.ownsRow.lt ho z hz).2
      · obtain ⟨a1, c1, e1, ho1, ht1⟩ := hrows.out i h1 (by omega)
        refine ⟨a1, c1, by rw [getD_setV _ _ _ (by omega), if_neg e]; exact e1, ?_, ?_⟩
        · simp only [if_neg e]
          have := hsp.out.above i (by omega)
          exact (ho1.ext hx).butS b2 (fun z hz hh => by have := ho1.block z hz; omega)
        · simp only [if_neg e]; exact ht1
    replace hnew := hide hnew
    replace i1 := hide i1
    generalize hfk : f k = xs at *
    replace hfk := hide hfk
    generalize ss.getD k nilV = zk at gk
    replace hsl := hide hsl
    go_wp2_with fail
    refine (cpI64 xs p q ne wr i1 hlk.out).mono ?_
    rintro e v1 ⟨pc, qc, rfl, O1, x1⟩
    have z1 := x1.size
    have gk1 := x1.cell gk
    have fk1 : v1.frozen? ⟨w.heap.size, k, none⟩ = false := by
      rw [World.frozen?_of_block (x1.block _ (by simp only; omega))]
      exact fk
    have hfin := hide (hnew.out v1 pc qc x1 O1)
    have hst := hide ((World.ownsRow.stored (ownsRow_ext hown.out x1) k (.slice pc xs.length qc)).1)
    have hsp2 : Hid (Spread (fun i => if i = k then wr.heap.size else lo i) (fun i => if i = k then v1.heap.size else hi i) w.heap.size (k + 1) (v1.setCell ⟨w.heap.size, k, none⟩ (.slice pc xs.length qc)).heap.size) := by
      have := (hsp.out.step (Nat.le_refl _) z1 (by omega))
      simp only [Hid]
      simpa using this
    have hb3 : Hid (But (fun q => q = w.heap.size) w1 (v1.setCell ⟨w.heap.size, k, none⟩ (.slice pc xs.length qc))) := (hbut.out.trans (But.of_ext x1)).trans (But.of_grown (grown_setCell v1 ⟨w.heap.size, k, none⟩ _) (fun q hq => by cases hq; rfl))
    clear hnew O1 x1 gk fk
    go_wp2
    go_roundw
    case rel => exact ⟨k + 1, _, _, _, by go_num, by omega, hst.out, hfin.out, hsp2.out, hb3.out⟩
    case measure => simp [intOf]; omega
  · obtain rfl : k = n := by omega
    clear hlt hk
    go_wp2
    go_ret
    exact ⟨_, _, rfl, ⟨ss, lo, hi, w.heap.size, hown.out, hrows.out, hsp.out, fun q hq => by cases hq; exact ⟨rfl, by simp only; omega⟩⟩, hX.out⟩

theorem cpRows (n : Nat) (f : Nat → List Int) (a : Option Addr) (c : Nat) (ne : Bool) (w : World) (h : Hid (IRows w a n f)) (hl : Hid (∀ i, i < n → (f i).length < 2 ^ 39)) (ln : n < 2 ^ 39) :
    Calls Yabn.prog 42 #[.slice a n c, .bool ne] w (RetRows n f w) := by
  cases n with
  | zero => exact cpRows_0 a c ne f w
  | succ m => exact cpRows_1 (m + 1) f a c ne w h hl ln (by simp only [beq_eq_false_iff_ne]; omega)
end Go.Proofs.Ybyabw
