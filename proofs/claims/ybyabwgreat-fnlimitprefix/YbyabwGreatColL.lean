/- Walks: laws.cvColumn, eqLColumn, prColumn, scColumn, incColumn, incLColumn -/
import Derived.Test.YbyabwGreatRuns1
import Derived.Test.YbyabwGreatHeld
namespace Go.Proofs.YbyabwGreat
open Go.RowKit
set_option maxRecDepth 100000
set_option linter.unusedVariables false

/-- An operation that acts, by a law on lists of operations. -/
theorem held_act1 {P : Program} {ops : Array Oper} {S : Nat → Prop} {hl : List Nat} {K : Act → World → Prop} {a : Act} {w : World} {l : List Oper} {o : Oper} (hq : Dr.quietB o = false) (hw : Region.wanted o (yielded ops a.tmps) = true)
    (h : wpList P ops (Exit.then (fun a' w' => Dr.Kp S w w' ∧ Dr.wpH P ops S hl K l a' w') Dr.NoQ) [o] a w) : Dr.wpH P ops S hl K (o :: l) a w := by
  have := Dr.list_cons h
  rw [if_pos hw] at this
  exact Dr.held_act hq hw this

/-- A column whose rows are its own: above base, below top, the two rows of numbers apart. -/
structure OwnC (er : TypeId) (w : World) (base top : Nat) (c : Col) (a1 a2 a3 a4 : Option Addr) (c1 c2 c3 c4 : Nat) : Prop where
  plain : OwnI w base 2 (.slice a1 c.plain.length c1) c.plain
  dict : OwnI w base 2 (.slice a2 c.dict.length c2) c.dict
  codes : OwnI w base 3 (.slice a3 c.codes.length c3) c.codes
  runs : OwnP w base er (.slice a4 c.runs.length c4) c.runs
  sep : Apart (.slice a1 0 0) (.slice a2 0 0)
  t1 : ∀ p, a1 = some p → p.block < top
  t2 : ∀ p, a2 = some p → p.block < top
  t3 : ∀ p, a3 = some p → p.block < top
  t4 : ∀ p, a4 = some p → p.block < top

theorem ownBlock_slice {a : Option Addr} {n c k : Nat} (h : (Value.slice a n c).ownBlock = some k) : ∃ p, a = some p ∧ p.block = k := by
  cases a with
  | none => cases h
  | some p => exact ⟨p, rfl, by simpa [Value.ownBlock] using h⟩

section
variable {er : TypeId} {w w' : World} {base base' top top' : Nat} {c : Col} {a1 a2 a3 a4 : Option Addr} {c1 c2 c3 c4 : Nat}
theorem OwnC.colAt (h : OwnC er w base top c a1 a2 a3 a4 c1 c2 c3 c4) : ColAt w c a1 a2 a3 a4 := ⟨OwnI.ints h.plain, OwnI.ints h.dict, OwnI.ints h.codes, OwnP.pairs h.runs⟩
theorem OwnC.ext (h : OwnC er w base top c a1 a2 a3 a4 c1 c2 c3 c4) (he : Ext w w') : OwnC er w' base top c a1 a2 a3 a4 c1 c2 c3 c4 :=
  ⟨h.plain.ext he, h.dict.ext he, h.codes.ext he, h.runs.ext he, h.sep, h.t1, h.t2, h.t3, h.t4⟩
theorem OwnC.mono (h : OwnC er w base top c a1 a2 a3 a4 c1 c2 c3 c4) (hb : base' ≤ base) (ht : top ≤ top') : OwnC er w base' top' c a1 a2 a3 a4 c1 c2 c3 c4 :=
  ⟨h.plain.mono hb, h.dict.mono hb, h.codes.mono hb, h.runs.mono hb, h.sep, fun p hp => Nat.lt_of_lt_of_le (h.t1 p hp) ht, fun p hp => Nat.lt_of_lt_of_le (h.t2 p hp) ht, fun p hp => Nat.lt_of_lt_of_le (h.t3 p hp) ht, fun p hp => Nat.lt_of_lt_of_le (h.t4 p hp) ht⟩
theorem OwnC.but {S : Nat → Prop} (h : OwnC er w base top c a1 a2 a3 a4 c1 c2 c3 c4) (hb : But S w w') (hs : ∀ k, base ≤ k → k < top → ¬ S k) : OwnC er w' base top c a1 a2 a3 a4 c1 c2 c3 c4 := by
  refine ⟨h.plain.butS hb ?_, h.dict.butS hb ?_, h.codes.butS hb ?_, h.runs.butS hb ?_, h.sep, h.t1, h.t2, h.t3, h.t4⟩
  · intro k hk; obtain ⟨p, hp, rfl⟩ := ownBlock_slice hk; exact hs _ (h.plain.block _ hk) (h.t1 p hp)
  · intro k hk; obtain ⟨p, hp, rfl⟩ := ownBlock_slice hk; exact hs _ (h.dict.block _ hk) (h.t2 p hp)
  · intro k hk; obtain ⟨p, hp, rfl⟩ := ownBlock_slice hk; exact hs _ (h.codes.block _ hk) (h.t3 p hp)
  · intro k hk; obtain ⟨p, hp, rfl⟩ := ownBlock_slice hk; exact hs _ (h.runs.block _ hk) (h.t4 p hp)
/-- Rows that lie in the world, made into a column. -/
theorem OwnC.make (h1 : OwnI w base 2 (.slice a1 c.plain.length c1) c.plain) (h2 : OwnI w base 2 (.slice a2 c.dict.length c2) c.dict) (h3 : OwnI w base 3 (.slice a3 c.codes.length c3) c.codes) (h4 : OwnP w base er (.slice a4 c.runs.length c4) c.runs)
    (hs : Apart (.slice a1 0 0) (.slice a2 0 0)) (ht : w.heap.size ≤ top) : OwnC er w base top c a1 a2 a3 a4 c1 c2 c3 c4 :=
  ⟨h1, h2, h3, h4, hs, fun p hp => Nat.lt_of_lt_of_le (World.ownsRow.lt h1 p.block (by rw [hp]; rfl)).2 ht, fun p hp => Nat.lt_of_lt_of_le (World.ownsRow.lt h2 p.block (by rw [hp]; rfl)).2 ht,
    fun p hp => Nat.lt_of_lt_of_le (World.ownsRow.lt h3 p.block (by rw [hp]; rfl)).2 ht, fun p hp => Nat.lt_of_lt_of_le (World.ownsRow.lt h4 p.block (by rw [hp]; rfl)).2 ht⟩
end
theorem apart_len {a1 a2 : Option Addr} {n c n' c' m d m' d' : Nat} (h : Apart (.slice a1 n c) (.slice a2 n' c')) : Apart (.slice a1 m d) (.slice a2 m' d') := by
  unfold Apart at *
  cases a1 with
  | none => exact .inl rfl
  | some p =>
    cases a2 with
    | none => exact .inr (by simp [Value.ownBlock])
    | some q => simpa [Value.ownBlock] using h

theorem ColAt.extC {w w' : World} {c : Col} {a1 a2 a3 a4 : Option Addr} (h : ColAt w c a1 a2 a3 a4) (he : Ext w w') : ColAt w' c a1 a2 a3 a4 := ⟨h.plain.ext he, h.dict.ext he, h.codes.ext he, h.runs.ext he⟩
def colZ5 : List Value := [.int .i64 0, .slice none 0 0, .slice none 0 0, .slice none 0 0, .slice none 0 0]
/-- The cells of a column. -/
def cellsC (c : Col) (a1 a2 a3 a4 : Option Addr) (c1 c2 c3 c4 : Nat) : List Value := [.int .i64 c.kind, .slice a1 c.plain.length c1, .slice a2 c.dict.length c2, .slice a3 c.codes.length c3, .slice a4 c.runs.length c4]
theorem cellsC_one (c : Col) (a1 a2 a3 a4 : Option Addr) (c1 c2 c3 c4 : Nat) : ∀ u ∈ cellsC c a1 a2 a3 a4 c1 c2 c3 c4, u.oneCell' = true := by simp [cellsC, Value.oneCell']
structure LenC (c : Col) : Prop where
  plain : c.plain.length < 2 ^ 39
  dict : c.dict.length < 2 ^ 39
  codes : c.codes.length < 2 ^ 39
  runs : c.runs.length < 2 ^ 39

/-- A call that hands back a new column. -/
def RetC (er : TypeId) (c : Col) (w : World) : Ending → World → Prop := fun e w' => ∃ a1 a2 a3 a4 c1 c2 c3 c4, e = .returned (.agg (cellsC c a1 a2 a3 a4 c1 c2 c3 c4).toArray) ∧ OwnC er w' w.heap.size w'.heap.size c a1 a2 a3 a4 c1 c2 c3 c4 ∧ Ext w w'

section
variable {er : TypeId} {w w' : World} {base top : Nat} {kind : Int} {pl di co : List Int} {ru : List (Int × Int)} {a1 a2 a3 a4 : Option Addr} {c1 c2 c3 c4 : Nat}
theorem OwnC.in1 (h : OwnC er w base top ⟨kind, pl, di, co, ru⟩ a1 a2 a3 a4 c1 c2 c3 c4) {n : Nat} : ∀ k, (Value.slice a1 n c1).ownBlock = some k → Rng base top k := fun k hk => by
  obtain ⟨p, hp, rfl⟩ := ownBlock_slice hk
  exact ⟨h.plain.block _ (by rw [hp]; rfl), h.t1 p hp⟩
theorem OwnC.in2 (h : OwnC er w base top ⟨kind, pl, di, co, ru⟩ a1 a2 a3 a4 c1 c2 c3 c4) {n : Nat} : ∀ k, (Value.slice a2 n c2).ownBlock = some k → Rng base top k := fun k hk => by
  obtain ⟨p, hp, rfl⟩ := ownBlock_slice hk
  exact ⟨h.dict.block _ (by rw [hp]; rfl), h.t2 p hp⟩
theorem OwnC.in3 (h : OwnC er w base top ⟨kind, pl, di, co, ru⟩ a1 a2 a3 a4 c1 c2 c3 c4) {n : Nat} : ∀ k, (Value.slice a3 n c3).ownBlock = some k → Rng base top k := fun k hk => by
  obtain ⟨p, hp, rfl⟩ := ownBlock_slice hk
  exact ⟨h.codes.block _ (by rw [hp]; rfl), h.t3 p hp⟩
theorem OwnC.in4 (h : OwnC er w base top ⟨kind, pl, di, co, ru⟩ a1 a2 a3 a4 c1 c2 c3 c4) {n : Nat} : ∀ k, (Value.slice a4 n c4).ownBlock = some k → Rng base top k := fun k hk => by
  obtain ⟨p, hp, rfl⟩ := ownBlock_slice hk
  exact ⟨h.runs.block _ (by rw [hp]; rfl), h.t4 p hp⟩
/-- One row has turned: the column of the rows as they are now. -/
theorem OwnC.put1 (h : OwnC er w base top ⟨kind, pl, di, co, ru⟩ a1 a2 a3 a4 c1 c2 c3 c4) (he : er ≠ 2) {ys : List Int} (hl : ys.length = pl.length) (ho : OwnI w' base 2 (.slice a1 pl.length c1) ys) (hg : w.grownBy w' (Value.slice a1 pl.length c1).ownBlock) :
    OwnC er w' base top ⟨kind, ys, di, co, ru⟩ a1 a2 a3 a4 c1 c2 c3 c4 :=
  ⟨by simp only [hl]; exact ho, h.dict.but hg (apart_len h.sep.symm), h.codes.but hg (apart_types h.codes h.plain (by decide)), h.runs.but hg (apart_types h.runs h.plain he), h.sep, h.t1, h.t2, h.t3, h.t4⟩
theorem OwnC.put2 (h : OwnC er w base top ⟨kind, pl, di, co, ru⟩ a1 a2 a3 a4 c1 c2 c3 c4) (he : er ≠ 2) {ys : List Int} (hl : ys.length = di.length) (ho : OwnI w' base 2 (.slice a2 di.length c2) ys) (hg : w.grownBy w' (Value.slice a2 di.length c2).ownBlock) :
    OwnC er w' base top ⟨kind, pl, ys, co, ru⟩ a1 a2 a3 a4 c1 c2 c3 c4 :=
  ⟨h.plain.but hg (apart_len h.sep), by simp only [hl]; exact ho, h.codes.but hg (apart_types h.codes h.dict (by decide)), h.runs.but hg (apart_types h.runs h.dict he), h.sep, h.t1, h.t2, h.t3, h.t4⟩
theorem OwnC.put3 (h : OwnC er w base top ⟨kind, pl, di, co, ru⟩ a1 a2 a3 a4 c1 c2 c3 c4) (he : er ≠ 3) {ys : List Int} (hl : ys.length = co.length) (ho : OwnI w' base 3 (.slice a3 co.length c3) ys) (hg : w.grownBy w' (Value.slice a3 co.length c3).ownBlock) :
    OwnC er w' base top ⟨kind, pl, di, ys, ru⟩ a1 a2 a3 a4 c1 c2 c3 c4 :=
  ⟨h.plain.but hg (apart_types h.plain h.codes (by decide)), h.dict.but hg (apart_types h.dict h.codes (by decide)), by simp only [hl]; exact ho, h.runs.but hg (apart_types h.runs h.codes he), h.sep, h.t1, h.t2, h.t3, h.t4⟩
theorem OwnC.put4 (h : OwnC er w base top ⟨kind, pl, di, co, ru⟩ a1 a2 a3 a4 c1 c2 c3 c4) (h1 : er ≠ 2) (h2 : er ≠ 3) {ys : List (Int × Int)} (hl : ys.length = ru.length) (ho : OwnP w' base er (.slice a4 ru.length c4) ys) (hg : w.grownBy w' (Value.slice a4 ru.length c4).ownBlock) :
    OwnC er w' base top ⟨kind, pl, di, co, ys⟩ a1 a2 a3 a4 c1 c2 c3 c4 :=
  ⟨h.plain.but hg (apart_types h.plain h.runs h1.symm), h.dict.but hg (apart_types h.dict h.runs h1.symm), h.codes.but hg (apart_types h.codes h.runs h2.symm), by simp only [hl]; exact ho, h.sep, h.t1, h.t2, h.t3, h.t4⟩
end
end Go.Proofs.YbyabwGreat
