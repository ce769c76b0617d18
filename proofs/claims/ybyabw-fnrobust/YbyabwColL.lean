/- Walks: laws.cvColumn, eqLColumn, prColumn, scColumn, incColumn, incLColumn -/
import Derived.Test.YbyabwRuns1
import Derived.Test.YbyabwHeld
namespace Go.Proofs.Ybyabw
open Go.RowKit
set_option maxRecDepth 100000
set_option linter.unusedVariables false

/-- An operation that acts, by a law on lists of operations. -/
theorem held_act1 {P : Program} {ops : Array Oper} {S : Nat → Prop} {hl : List Nat} {K : Act → World → Prop} {a : Act} {w : World} {l : List Oper} {o : Oper} (hq : Dr.quietB o = false) (hw : Region.wanted o (yielded ops a.tmps) = true)
    (h : wpList P ops (Exit.then (fun a' w' => Dr.Kp S w w' ∧ Dr.wpH P ops S hl K l a' w') Dr.NoQ) [o] a w) : Dr.wpH P ops S hl K (o :: l) a w := by
  have := Dr.list_cons h
  rw [if_pos hw] at this
  exact Dr.held_act hq hw this

/-- A column whose rows are its own: above base, below top, the two rows of numbers apart. -/
structure OwnC (er : TypeId) (w : World) (base top : Nat) (c : Col) (a1 a2 a3 a4 : Option Addr) (c1 c2 c3 c4 : Nat) : Prop where
  plain : OwnI w base 2 (.slice a1 c.plain.length c1) c.plain
  dict : OwnI w base 2 (.slice a2 c.dict.length c2) c.dict
  codes : OwnI w base 3 (.slice a3 c.codes.length c3) c.codes
  runs : OwnP w base er (.slice a4 c.runs.length c4) c.runs
  sep : Apart (.slice a1 0 0) (.slice a2 0 0)
  t1 : ∀ p, a1 = some p → p.block < top
  t2 : ∀ p, a2 = some p → p.block < top
  t3 : ∀ p, a3 = some p → p.block < top
  t4 : ∀ p, a4 = some p → p.block < top

theorem ownBlock_slice {a : Option Addr} {n c k : Nat} (h : (Value.slice a n c).ownBlock = some k) : ∃ p, a = some p ∧ p.block = k := by
  cases a with
  | none => cases h
  | some p => exact ⟨p, rfl, by simpa [Value.ownBlock] using h⟩

section
variable {er : TypeId} {w w' : World} {base base' top top' : Nat} {c : Col} {a1 a2 a3 a4 : Option Addr} {c1 c2 c3 c4 : Nat}
theorem OwnC.colAt (h : OwnC er w base top c a1 a2 a3 a4 c1 c2 c3 c4) : ColAt w c a1 a2 a3 a4 := ⟨OwnI.ints h.plain, OwnI.ints h.dict, OwnI.ints h.codes, OwnP.pairs h.runs⟩
theorem OwnC.ext (h : OwnC er w base top c a1 a2 a3 a4 c1 c2 c3 c4) (he : Ext w w') : OwnC er w' base top c a1 a2 a3 a4 c1 c2 c3 c4 :=
  ⟨h.plain.ext he, h.dict.ext he, h.codes.ext he, h.runs.ext he, h.sep, h.t1, h.t2, h.t3, h.t4⟩
theorem OwnC.mono (h : OwnC er w base top c a1 a2 a3 a4 c1 c2 c3 c4) (hb : base' ≤ base) (ht : top ≤ top') : OwnC er w base' top' c a1 a2 a3 a4 c1 c2 c3 c4 :=
  ⟨h.plain.mono hb, h.dict.mono hb, h.codes.mono hb, h.runs.mono hb, h.sep, fun p hp => Nat.lt_of_lt_of_le (h.t1 p hp) ht, fun p hp => Nat.lt_of_lt_of_le (h.t2 p hp) ht, fun p hp => Nat.lt_of_lt_of_le (h.t3 p hp) ht, fun p hp => Nat.lt_of_lt_of_le (h.t4 p hp) ht⟩
theorem OwnC.but {S : Nat → Prop} (h : OwnC er w base top c a1 a2 a3 a4 c1 c2 c3 c4) (hb : But S w w') (hs : ∀ k, base ≤ k → k < top → ¬ S k) : OwnC er w' base top c a1 a2 a3 a4 c1 c2 c3 c4 := by
  refine ⟨h.plain.butS hb ?_, h.dict.butS hb ?_, h.codes.butS hb ?_, h.runs.butS hb ?_, h.sep, h.t1, h.t2, h.t3, h.t4⟩
  · intro k hk; obtain ⟨p, hp, rfl⟩ := ownBlock_slice hk; exact hs _ (h.plain.block _ hk) (h.t1 p hp)
  · intro k hk; obtain ⟨p, hp, rfl⟩ := ownBlock_slice hk; exact hs _ (h.dict.block _ hk) (h.t2 p hp)
  · intro k hk; obtain ⟨p, hp, rfl⟩ := ownBlock_slice hk; exact hs _ (h.codes.block _ hk) (h.t3 p hp)
  · intro k hk; obtain ⟨p, hp, rfl⟩ := ownBlock_slice hk; exact hs _ (h.runs.block _ hk) (h.t4 p hp)
/-- Rows that lie in the world, made into a column. -/
theorem OwnC.make (h1 : OwnI w base 2 (.slice a1 c.plain.length c1) c.plain) (h2 : OwnI w base 2 (.slice a2 c.dict.length c2) c.dict) (h3 : OwnI w base 3 (.slice a3 c.codes.length c3) c.codes) (h4 : OwnP w base er (.slice a4 c.runs.length c4) c.runs)
    (hs : Apart (.slice a1 0 0) (.slice a2 0 0)) (ht : w.heap.size ≤ top) : OwnC er w base top c a1 a2 a3 a4 c1 c2 c3 c4 :=
  ⟨h1, h2, h3, h4, hs, fun p hp => Nat.lt_of_lt_of_le (World.ownsRow.lt h1 p.block (by rw [hp]; rfl)).2 ht, fun p hp => Nat.lt_of_lt_of_le (World.ownsRow.lt h2 p.block (by rw [hp]; rfl)).2 ht,
    fun p hp => Nat.lt_of_lt_of_le (World.ownsRow.lt h3 p.block (by rw [hp]; rfl)).2 ht, fun p hp => Nat.lt_of_lt_of_le (World.ownsRow.lt h4 p.block (by rw [hp]; rfl)).2 ht⟩
end
theorem apart_len {a1 a2 : Option Addr} {n c n' c' m d m' d' : Nat} (h : Apart (.slice a1 n c) (.slice a2 n' c')) : Apart (.slice a1 m d) (.slice a2 m' d') := by
  unfold Apart at *
  cases a1 with
  | none => exact .inl rfl
  | some p =>
    cases a2 with
    | none => exact .inr (by simp [Value.ownBlock])
    | some q => simpa [Value.ownBlock] using h

theorem ColAt.extC {w w' : World} {c : Col} {a1 a2 a3 a4 : Option Addr} (h : ColAt w c a1 a2 a3 a4) (he : Ext w w') : ColAt w' c a1 a2 a3 a4 := ⟨h.plain.ext he, h.dict.ext he, h.codes.ext he, h.runs.ext he⟩
theorem size_lcol : (Yabn.prog.info? 58).map (·.size) = some 5 := by kernel_rfl
def colZ5 : List Value := [.int .i64 0, .slice none 0 0, .slice none 0 0, .slice none 0 0, .slice none 0 0]
/-- The cells of a column. -/
def cellsC (c : Col) (a1 a2 a3 a4 : Option Addr) (c1 c2 c3 c4 : Nat) : List Value := [.int .i64 c.kind, .slice a1 c.plain.length c1, .slice a2 c.dict.length c2, .slice a3 c.codes.length c3, .slice a4 c.runs.length c4]
theorem cellsC_one (c : Col) (a1 a2 a3 a4 : Option Addr) (c1 c2 c3 c4 : Nat) : ∀ u ∈ cellsC c a1 a2 a3 a4 c1 c2 c3 c4, u.oneCell' = true := by simp [cellsC, Value.oneCell']
structure LenC (c : Col) : Prop where
  plain : c.plain.length < 2 ^ 39
  dict : c.dict.length < 2 ^ 39
  codes : c.codes.length < 2 ^ 39
  runs : c.runs.length < 2 ^ 39

/-- A call that hands back a new column. -/
def RetC (er : TypeId) (c : Col) (w : World) : Ending → World → Prop := fun e w' => ∃ a1 a2 a3 a4 c1 c2 c3 c4, e = .returned (.agg (cellsC c a1 a2 a3 a4 c1 c2 c3 c4).toArray) ∧ OwnC er w' w.heap.size w'.heap.size c a1 a2 a3 a4 c1 c2 c3 c4 ∧ Ext w w'

set_option maxHeartbeats 4000000 in
theorem cvColumn (c : Col) (a1 a2 a3 a4 : Option Addr) (c1 c2 c3 c4 : Nat) (w : World) (h : Hid (ColAt w c a1 a2 a3 a4)) (hl : Hid (LenC c)) :
    Calls Yabn.prog 31 #[.agg (cellsC c a1 a2 a3 a4 c1 c2 c3 c4).toArray] w (RetC 185 c w) := by
  obtain ⟨kind, pl, di, co, ru⟩ := c
  have hbA : Box ((w.alloc (.cells #[.int .i64 kind, .slice a1 pl.length c1, .slice a2 di.length c2, .slice a3 co.length c3, .slice a4 ru.length c4] 29)).alloc (.cells #[.int .i64 0, .slice none 0 0, .slice none 0 0, .slice none 0 0, .slice none 0 0] 58)) w.heap.size _ := (Box.new w _ _).alloc _
  have hbZ : Blk ((w.alloc (.cells #[.int .i64 kind, .slice a1 pl.length c1, .slice a2 di.length c2, .slice a3 co.length c3, .slice a4 ru.length c4] 29)).alloc (.cells #[.int .i64 0, .slice none 0 0, .slice none 0 0, .slice none 0 0, .slice none 0 0] 58)) (w.heap.size + 1) 58 colZ5 := by
    have := Blk.new (w.alloc (.cells #[.int .i64 kind, .slice a1 pl.length c1, .slice a2 di.length c2, .slice a3 co.length c3, .slice a4 ru.length c4] 29)) #[.int .i64 0, .slice none 0 0, .slice none 0 0, .slice none 0 0, .slice none 0 0] 58
    simpa [colZ5] using this
  have hx0 : Ext w ((w.alloc (.cells #[.int .i64 kind, .slice a1 pl.length c1, .slice a2 di.length c2, .slice a3 co.length c3, .slice a4 ru.length c4] 29)).alloc (.cells #[.int .i64 0, .slice none 0 0, .slice none 0 0, .slice none 0 0, .slice none 0 0] 58)) := ((Ext.refl w).alloc _).alloc _
  have hs0 : ((w.alloc (.cells #[.int .i64 kind, .slice a1 pl.length c1, .slice a2 di.length c2, .slice a3 co.length c3, .slice a4 ru.length c4] 29)).alloc (.cells #[.int .i64 0, .slice none 0 0, .slice none 0 0, .slice none 0 0, .slice none 0 0] 58)).heap.size = w.heap.size + 2 := by simp
  have hl1 := hl.out.plain
  have hl2 := hl.out.dict
  have hl3 := hl.out.codes
  have hl4 := hl.out.runs
  simp only at hl1 hl2 hl3 hl4
  have hc1 : Hid (IntsAt w a1 pl) := h.out.plain
  have hc2 : Hid (IntsAt w a2 di) := h.out.dict
  have hc3 : Hid (IntsAt w a3 co) := h.out.codes
  have hc4 : Hid (PairsAt w a4 ru) := h.out.runs
  clear h hl
  simp only [cellsC]
  go_enter Yabn.func31, Yabn.ntmps31
  go_wp2
  generalize ((w.alloc (.cells #[.int .i64 kind, .slice a1 pl.length c1, .slice a2 di.length c2, .slice a3 co.length c3, .slice a4 ru.length c4] 29)).alloc (.cells #[.int .i64 0, .slice none 0 0, .slice none 0 0, .slice none 0 0, .slice none 0 0] 58)) = W at *
  have m0 := hbA 0 _ rfl
  have m1 := hbA 1 _ rfl
  replace hbA := hide hbA
  replace hbZ := hide hbZ
  replace hx0 := hide hx0
  refine Dr.region_held (fun b => b = w.heap.size) [1, 3, 6, 9, 12] (by kernel_rfl) ?_
  refine Dr.held_q4 (by rfl) ?_
  go_wp2
  refine Dr.held_act (by rfl) (by rfl) ?_
  go_wp2_with (go_at_call 82; refine (cpI64 pl a1 c1 true _ (hc1.out.ext hx0.out.drew) hl1).mono ?_; rintro e w1 ⟨p1, q1, rfl, o1, x1⟩)
  refine ⟨fun b hb => x1.block b (by simp; omega), ?_⟩
  have X1 : Hid (Ext W w1) := (Ext.refl W).drew.trans x1
  have z1 := X1.out.size
  have m2 := (hbA.out.ext X1.out) 2 _ rfl
  replace o1 := hide o1
  clear x1 m0 m1
  refine Dr.held_q2 (by rfl) ?_
  go_wp2
  refine Dr.held_act (by rfl) (by rfl) ?_
  go_wp2_with (go_at_call 82; refine (cpI64 di a2 c2 true _ (hc2.out.ext (hx0.out.trans X1.out)) hl2).mono ?_; rintro e w2 ⟨p2, q2, rfl, o2, x2⟩)
  refine ⟨fun b hb => x2.block b (by simp only at hb; omega), ?_⟩
  have X2 : Hid (Ext W w2) := X1.out.trans x2
  have z2 := X2.out.size
  have m3 := (hbA.out.ext X2.out) 3 _ rfl
  have hsep := hide (apart_base o1.out o2 (Nat.le_refl _))
  replace o1 := hide (o1.out.ext x2)
  replace o2 := hide (o2.mono z1)
  clear x2 m2
  refine Dr.held_q2 (by rfl) ?_
  go_wp2
  refine Dr.held_act (by rfl) (by rfl) ?_
  go_wp2_with (go_at_call 43; refine (cpInt co a3 c3 true _ (hc3.out.ext (hx0.out.trans X2.out)) hl3).mono ?_; rintro e w3 ⟨p3, q3, rfl, o3, x3⟩)
  refine ⟨fun b hb => x3.block b (by simp only at hb; omega), ?_⟩
  have X3 : Hid (Ext W w3) := X2.out.trans x3
  have z3 := X3.out.size
  have m4 := (hbA.out.ext X3.out) 4 _ rfl
  replace o1 := hide (o1.out.ext x3)
  replace o2 := hide (o2.out.ext x3)
  replace o3 := hide (o3.mono z2)
  clear x3 m3
  refine Dr.held_q2 (by rfl) ?_
  go_wp2
  refine Dr.held_act (by rfl) (by rfl) ?_
  go_wp2_with (go_at_call 89; refine (cvRuns ru a4 c4 _ (hc4.out.ext (hx0.out.trans X3.out)) hl4).mono ?_; rintro e w4 ⟨p4, q4, rfl, o4, x4⟩)
  refine ⟨fun b hb => x4.block b (by simp only at hb; omega), ?_⟩
  have X4 : Hid (Ext W w4) := X3.out.trans x4
  have z4 := X4.out.size
  replace o1 := hide (o1.out.ext x4)
  replace o2 := hide (o2.out.ext x4)
  replace o3 := hide (o3.out.ext x4)
  replace o4 := hide (o4.mono z3)
  clear x4 m4
  refine Dr.held_act (by rfl) (by rfl) ?_
  go_wp2
  refine ⟨fun b hb => rfl, ?_⟩
  refine held_act1 (by rfl) (by rfl) ?_
  refine wpList_storeB (vs := cellsC ⟨kind, pl, di, co, ru⟩ p1 p2 p3 p4 q1 q2 q3 q4) rfl rfl (by rfl) (by rfl) (hbZ.out.ext X4.out) size_lcol rfl (cellsC_one _ _ _ _ _ _ _ _ _) ?_
  intro w5 hb5 hg5
  refine ⟨fun b hb => hg5.block b (by simp only at hb; omega) (by simp only at hb; simp; omega), ?_⟩
  have hk : ∀ i v, [Value.int .i64 kind, Value.slice a1 pl.length c1, Value.slice a2 di.length c2, Value.slice a3 co.length c3, Value.slice a4 ru.length c4][i]? = some v → w5.cell? ⟨w.heap.size, i, none⟩ = some v := fun i v hv => (Box.grown (hbA.out.ext X4.out) hg5 (by simp)) i v hv
  replace hb5 := hide hb5
  refine Dr.held_nil (by rfl) ⟨fun _ => ⟨w.heap.size, 0, rfl, rfl, Dr.isCells_of (hk 0 _ rfl)⟩, fun _ => ⟨w.heap.size, 1, rfl, rfl, Dr.isCells_of (hk 0 _ rfl)⟩, fun _ => ⟨w.heap.size, 2, rfl, rfl, Dr.isCells_of (hk 0 _ rfl)⟩, fun _ => ⟨w.heap.size, 3, rfl, rfl, Dr.isCells_of (hk 0 _ rfl)⟩, fun _ => ⟨w.heap.size, 4, rfl, rfl, Dr.isCells_of (hk 0 _ rfl)⟩, trivial⟩ ?_
  clear hk
  have hx5 : Ext w w5 := (hx0.out.trans X4.out).grown hg5 (by intro k hk; cases hk; omega)
  have hW : w.heap.size ≤ W.heap.size := by omega
  have r1 := (o1.out.kept hg5 (by simp only [World.drew]; omega)).mono (base' := w.heap.size) (by simp only [World.drew]; omega)
  have r2 := (o2.out.kept hg5 (by omega)).mono (base' := w.heap.size) (by omega)
  have r3 := (o3.out.kept hg5 (by omega)).mono (base' := w.heap.size) (by omega)
  have r4 := (o4.out.kept hg5 (by omega)).mono (base' := w.heap.size) (by omega)
  replace r1 := hide r1
  replace r2 := hide r2
  replace r3 := hide r3
  replace r4 := hide r4
  replace hx5 := hide hx5
  clear o1 o2 o3 o4 hg5
  go_wp2
  refine bodyPost_ret (results_cell1 rfl (by rfl) hb5.out Yabn.underlying58 size_lcol) rfl ?_
  exact ⟨p1, p2, p3, p4, q1, q2, q3, q4, rfl, OwnC.make r1.out r2.out r3.out r4.out (apart_len hsep.out) (Nat.le_refl _), hx5.out⟩

set_option maxHeartbeats 4000000 in
theorem eqLColumn (c : Col) (a1 a2 a3 a4 b1 b2 b3 b4 : Option Addr) (c1 c2 c3 c4 d1 d2 d3 d4 : Nat) (w : World) (h1 : Hid (ColAt w c a1 a2 a3 a4)) (h2 : Hid (ColAt w c b1 b2 b3 b4)) (hl : Hid (LenC c)) :
    Calls Yabn.prog 30 #[.agg (cellsC c a1 a2 a3 a4 c1 c2 c3 c4).toArray, .agg (cellsC c b1 b2 b3 b4 d1 d2 d3 d4).toArray] w (RetTrue w) := by
  obtain ⟨kind, pl, di, co, ru⟩ := c
  have hbA : Box ((w.alloc (.cells #[.int .i64 kind, .slice a1 pl.length c1, .slice a2 di.length c2, .slice a3 co.length c3, .slice a4 ru.length c4] 58)).alloc (.cells #[.int .i64 kind, .slice b1 pl.length d1, .slice b2 di.length d2, .slice b3 co.length d3, .slice b4 ru.length d4] 58)) w.heap.size _ := (Box.new w _ _).alloc _
  have hbB : Box ((w.alloc (.cells #[.int .i64 kind, .slice a1 pl.length c1, .slice a2 di.length c2, .slice a3 co.length c3, .slice a4 ru.length c4] 58)).alloc (.cells #[.int .i64 kind, .slice b1 pl.length d1, .slice b2 di.length d2, .slice b3 co.length d3, .slice b4 ru.length d4] 58)) (w.heap.size + 1) [.int .i64 kind, .slice b1 pl.length d1, .slice b2 di.length d2, .slice b3 co.length d3, .slice b4 ru.length d4] := by
    have := Box.new (w.alloc (.cells #[.int .i64 kind, .slice a1 pl.length c1, .slice a2 di.length c2, .slice a3 co.length c3, .slice a4 ru.length c4] 58)) #[.int .i64 kind, .slice b1 pl.length d1, .slice b2 di.length d2, .slice b3 co.length d3, .slice b4 ru.length d4] 58
    simpa using this
  have hx0 : Ext w ((w.alloc (.cells #[.int .i64 kind, .slice a1 pl.length c1, .slice a2 di.length c2, .slice a3 co.length c3, .slice a4 ru.length c4] 58)).alloc (.cells #[.int .i64 kind, .slice b1 pl.length d1, .slice b2 di.length d2, .slice b3 co.length d3, .slice b4 ru.length d4] 58)) := ((Ext.refl w).alloc _).alloc _
  have hl1 := hl.out.plain
  have hl2 := hl.out.dict
  have hl3 := hl.out.codes
  have hl4 := hl.out.runs
  simp only at hl1 hl2 hl3 hl4
  have hkk : (kind == kind) = true := by simp
  replace hbA := hide hbA
  replace hbB := hide hbB
  replace hx0 := hide hx0
  simp only [cellsC]
  go_enter Yabn.func30, Yabn.ntmps30
  go_wp2_with fail
  generalize ((w.alloc (.cells #[.int .i64 kind, .slice a1 pl.length c1, .slice a2 di.length c2, .slice a3 co.length c3, .slice a4 ru.length c4] 58)).alloc (.cells #[.int .i64 kind, .slice b1 pl.length d1, .slice b2 di.length d2, .slice b3 co.length d3, .slice b4 ru.length d4] 58)) = W at *
  refine (eqI64 pl a1 b1 c1 d1 W (h1.out.plain.ext hx0.out) (h2.out.plain.ext hx0.out) hl1).mono ?_
  rintro e w1 ⟨rfl, x1⟩
  have mA := (hbA.out.ext x1) 2 _ rfl
  have mB := (hbB.out.ext x1) 2 _ rfl
  have X1 : Hid (Ext W w1) := x1
  clear x1
  go_wp2_with fail
  refine (eqI64 di a2 b2 c2 d2 w1 (h1.out.dict.ext (hx0.out.trans X1.out)) (h2.out.dict.ext (hx0.out.trans X1.out)) hl2).mono ?_
  rintro e w2 ⟨rfl, x2⟩
  clear mA mB
  have X2 : Hid (Ext W w2) := X1.out.trans x2
  have mA := (hbA.out.ext X2.out) 3 _ rfl
  have mB := (hbB.out.ext X2.out) 3 _ rfl
  clear x2
  go_wp2_with fail
  refine (eqInt co a3 b3 c3 d3 w2 (h1.out.codes.ext (hx0.out.trans X2.out)) (h2.out.codes.ext (hx0.out.trans X2.out)) hl3).mono ?_
  rintro e w3 ⟨rfl, x3⟩
  clear mA mB
  have X3 : Hid (Ext W w3) := X2.out.trans x3
  have mA := (hbA.out.ext X3.out) 4 _ rfl
  have mB := (hbB.out.ext X3.out) 4 _ rfl
  clear x3
  go_wp2_with fail
  refine (eqLRuns ru a4 b4 c4 d4 w3 (h1.out.runs.ext (hx0.out.trans X3.out)) (h2.out.runs.ext (hx0.out.trans X3.out)) hl4).mono ?_
  rintro e w4 ⟨rfl, x4⟩
  clear mA mB
  have X4 : Hid (Ext w w4) := (hx0.out.trans X3.out).trans x4
  clear x4
  go_wp2
  go_ret
  exact ⟨rfl, X4.out⟩

/-! ### calls that write into the four rows -/
section
variable {er : TypeId} {w w' : World} {base top : Nat} {kind : Int} {pl di co : List Int} {ru : List (Int × Int)} {a1 a2 a3 a4 : Option Addr} {c1 c2 c3 c4 : Nat}
theorem OwnC.in1 (h : OwnC er w base top ⟨kind, pl, di, co, ru⟩ a1 a2 a3 a4 c1 c2 c3 c4) {n : Nat} : ∀ k, (Value.slice a1 n c1).ownBlock = some k → Rng base top k := fun k hk => by
  obtain ⟨p, hp, rfl⟩ := ownBlock_slice hk
  exact ⟨h.plain.block _ (by rw [hp]; rfl), h.t1 p hp⟩
theorem OwnC.in2 (h : OwnC er w base top ⟨kind, pl, di, co, ru⟩ a1 a2 a3 a4 c1 c2 c3 c4) {n : Nat} : ∀ k, (Value.slice a2 n c2).ownBlock = some k → Rng base top k := fun k hk => by
  obtain ⟨p, hp, rfl⟩ := ownBlock_slice hk
  exact ⟨h.dict.block _ (by rw [hp]; rfl), h.t2 p hp⟩
theorem OwnC.in3 (h : OwnC er w base top ⟨kind, pl, di, co, ru⟩ a1 a2 a3 a4 c1 c2 c3 c4) {n : Nat} : ∀ k, (Value.slice a3 n c3).ownBlock = some k → Rng base top k := fun k hk => by
  obtain ⟨p, hp, rfl⟩ := ownBlock_slice hk
  exact ⟨h.codes.block _ (by rw [hp]; rfl), h.t3 p hp⟩
theorem OwnC.in4 (h : OwnC er w base top ⟨kind, pl, di, co, ru⟩ a1 a2 a3 a4 c1 c2 c3 c4) {n : Nat} : ∀ k, (Value.slice a4 n c4).ownBlock = some k → Rng base top k := fun k hk => by
  obtain ⟨p, hp, rfl⟩ := ownBlock_slice hk
  exact ⟨h.runs.block _ (by rw [hp]; rfl), h.t4 p hp⟩
/-- One row has turned: the column of the rows as they are now. -/
theorem OwnC.put1 (h : OwnC er w base top ⟨kind, pl, di, co, ru⟩ a1 a2 a3 a4 c1 c2 c3 c4) (he : er ≠ 2) {ys : List Int} (hl : ys.length = pl.length) (ho : OwnI w' base 2 (.slice a1 pl.length c1) ys) (hg : w.grownBy w' (Value.slice a1 pl.length c1).ownBlock) :
    OwnC er w' base top ⟨kind, ys, di, co, ru⟩ a1 a2 a3 a4 c1 c2 c3 c4 :=
  ⟨by simp only [hl]; exact ho, h.dict.but hg (apart_len h.sep.symm), h.codes.but hg (apart_types h.codes h.plain (by decide)), h.runs.but hg (apart_types h.runs h.plain he), h.sep, h.t1, h.t2, h.t3, h.t4⟩
theorem OwnC.put2 (h : OwnC er w base top ⟨kind, pl, di, co, ru⟩ a1 a2 a3 a4 c1 c2 c3 c4) (he : er ≠ 2) {ys : List Int} (hl : ys.length = di.length) (ho : OwnI w' base 2 (.slice a2 di.length c2) ys) (hg : w.grownBy w' (Value.slice a2 di.length c2).ownBlock) :
    OwnC er w' base top ⟨kind, pl, ys, co, ru⟩ a1 a2 a3 a4 c1 c2 c3 c4 :=
  ⟨h.plain.but hg (apart_len h.sep), by simp only [hl]; exact ho, h.codes.but hg (apart_types h.codes h.dict (by decide)), h.runs.but hg (apart_types h.runs h.dict he), h.sep, h.t1, h.t2, h.t3, h.t4⟩
theorem OwnC.put3 (h : OwnC er w base top ⟨kind, pl, di, co, ru⟩ a1 a2 a3 a4 c1 c2 c3 c4) (he : er ≠ 3) {ys : List Int} (hl : ys.length = co.length) (ho : OwnI w' base 3 (.slice a3 co.length c3) ys) (hg : w.grownBy w' (Value.slice a3 co.length c3).ownBlock) :
    OwnC er w' base top ⟨kind, pl, di, ys, ru⟩ a1 a2 a3 a4 c1 c2 c3 c4 :=
  ⟨h.plain.but hg (apart_types h.plain h.codes (by decide)), h.dict.but hg (apart_types h.dict h.codes (by decide)), by simp only [hl]; exact ho, h.runs.but hg (apart_types h.runs h.codes he), h.sep, h.t1, h.t2, h.t3, h.t4⟩
theorem OwnC.put4 (h : OwnC er w base top ⟨kind, pl, di, co, ru⟩ a1 a2 a3 a4 c1 c2 c3 c4) (h1 : er ≠ 2) (h2 : er ≠ 3) {ys : List (Int × Int)} (hl : ys.length = ru.length) (ho : OwnP w' base er (.slice a4 ru.length c4) ys) (hg : w.grownBy w' (Value.slice a4 ru.length c4).ownBlock) :
    OwnC er w' base top ⟨kind, pl, di, co, ys⟩ a1 a2 a3 a4 c1 c2 c3 c4 :=
  ⟨h.plain.but hg (apart_types h.plain h.runs h1.symm), h.dict.but hg (apart_types h.dict h.runs h1.symm), h.codes.but hg (apart_types h.codes h.runs h2.symm), by simp only [hl]; exact ho, h.sep, h.t1, h.t2, h.t3, h.t4⟩
end
end Go.Proofs.Ybyabw
