/- Walks: laws.prColumn, scColumn, incColumn, incLColumn, sepColumn -/
import Derived.Test.YbyabwColL
namespace Go.Proofs.Ybyabw
open Go.RowKit
set_option maxRecDepth 100000
set_option linter.unusedVariables false

/-- A call that changes rows of a column alone. -/
def RetM (er : TypeId) (base top : Nat) (c : Col) (a1 a2 a3 a4 : Option Addr) (c1 c2 c3 c4 : Nat) (w : World) : Ending → World → Prop := fun en w' => en = .returned (.tuple #[]) ∧ OwnC er w' base top c a1 a2 a3 a4 c1 c2 c3 c4 ∧ But (Rng base top) w w'
def RetB (base top : Nat) (w : World) : Ending → World → Prop := fun en w' => en = .returned (.tuple #[]) ∧ But (Rng base top) w w'

set_option maxHeartbeats 4000000 in
theorem prColumn (c : Col) (a1 a2 a3 a4 : Option Addr) (c1 c2 c3 c4 base top : Nat) (m : Int) (m0 : 0 ≤ m) (m1 : m < 10) (w : World) (h : Hid (OwnC 27 w base top c a1 a2 a3 a4 c1 c2 c3 c4)) (ht : top ≤ w.heap.size) (hl : Hid (LenC c)) :
    Calls Yabn.prog 84 #[.agg (cellsC c a1 a2 a3 a4 c1 c2 c3 c4).toArray, .int .i64 m] w (RetM 27 base top ⟨c.kind, id c.plain, id c.dict, id c.codes, id c.runs⟩ a1 a2 a3 a4 c1 c2 c3 c4 w) := by
  obtain ⟨kind, pl, di, co, ru⟩ := c
  have hbA : Box (w.alloc (.cells #[.int .i64 kind, .slice a1 pl.length c1, .slice a2 di.length c2, .slice a3 co.length c3, .slice a4 ru.length c4] 29)) w.heap.size _ := Box.new w _ _
  have hx0 : Ext w (w.alloc (.cells #[.int .i64 kind, .slice a1 pl.length c1, .slice a2 di.length c2, .slice a3 co.length c3, .slice a4 ru.length c4] 29)) := (Ext.refl w).alloc _
  have hs0 : (w.alloc (.cells #[.int .i64 kind, .slice a1 pl.length c1, .slice a2 di.length c2, .slice a3 co.length c3, .slice a4 ru.length c4] 29)).heap.size = w.heap.size + 1 := by simp
  have hl1 := hl.out.plain
  have hl2 := hl.out.dict
  have hl3 := hl.out.codes
  have hl4 := hl.out.runs
  simp only at hl1 hl2 hl3 hl4
  have hnb : Hid (¬ Rng base top w.heap.size) := fun hh => by have := hh.2; omega
  replace hbA := hide hbA
  replace hx0 := hide hx0
  simp only [cellsC]
  go_enter Yabn.func84, Yabn.ntmps84
  go_wp2_with fail
  generalize (w.alloc (.cells #[.int .i64 kind, .slice a1 pl.length c1, .slice a2 di.length c2, .slice a3 co.length c3, .slice a4 ru.length c4] 29)) = W at *
  have C0 := hide (h.out.ext hx0.out)
  refine (prI64 pl a1 c1 base m W C0.out.plain hl1 m0 m1).mono ?_
  rintro e w1 ⟨rfl, o1, g1⟩
  have C1 := hide (C0.out.put1 (by decide) rfl o1 g1)
  have B1 : Hid (But (Rng base top) W w1) := But.of_grown g1 C0.out.in1
  have m2 := (B1.out.box hbA.out (by omega) hnb.out) 2 _ rfl
  clear o1 g1 C0
  go_wp2_with fail
  refine (prI64 di a2 c2 base m w1 C1.out.dict hl2 m0 m1).mono ?_
  rintro e w2 ⟨rfl, o2, g2⟩
  have C2 := hide (C1.out.put2 (by decide) rfl o2 g2)
  have B2 : Hid (But (Rng base top) W w2) := B1.out.trans (But.of_grown g2 C1.out.in2)
  have m3 := (B2.out.box hbA.out (by omega) hnb.out) 3 _ rfl
  clear o2 g2 C1 m2 B1
  go_wp2_with fail
  refine (prInt co a3 c3 base m w2 C2.out.codes hl3 m0 m1).mono ?_
  rintro e w3 ⟨rfl, o3, g3⟩
  have C3 := hide (C2.out.put3 (by decide) rfl o3 g3)
  have B3 : Hid (But (Rng base top) W w3) := B2.out.trans (But.of_grown g3 C2.out.in3)
  have m4 := (B3.out.box hbA.out (by omega) hnb.out) 4 _ rfl
  clear o3 g3 C2 m3 B2
  go_wp2_with fail
  refine (prRuns ru a4 c4 base m w3 C3.out.runs hl4 m0 m1).mono ?_
  rintro e w4 ⟨rfl, o4, g4⟩
  have C4 := hide (C3.out.put4 (by decide) (by decide) rfl o4 g4)
  have B4 : Hid (But (Rng base top) W w4) := B3.out.trans (But.of_grown g4 C3.out.in4)
  clear o4 g4 C3 m4 B3
  go_wp2
  go_end0
  exact ⟨rfl, C4.out, (But.of_ext hx0.out).trans B4.out⟩

set_option maxHeartbeats 4000000 in
theorem incColumn (c : Col) (a1 a2 a3 a4 : Option Addr) (c1 c2 c3 c4 base top : Nat)  (w : World) (h : Hid (OwnC 27 w base top c a1 a2 a3 a4 c1 c2 c3 c4)) (ht : top ≤ w.heap.size) (hl : Hid (LenC c)) :
    Calls Yabn.prog 95 #[.agg (cellsC c a1 a2 a3 a4 c1 c2 c3 c4).toArray] w (RetM 27 base top ⟨c.kind, List.map inc1 c.plain, List.map inc1 c.dict, List.map inc1 c.codes, List.map incP c.runs⟩ a1 a2 a3 a4 c1 c2 c3 c4 w) := by
  obtain ⟨kind, pl, di, co, ru⟩ := c
  have hbA : Box (w.alloc (.cells #[.int .i64 kind, .slice a1 pl.length c1, .slice a2 di.length c2, .slice a3 co.length c3, .slice a4 ru.length c4] 29)) w.heap.size _ := Box.new w _ _
  have hx0 : Ext w (w.alloc (.cells #[.int .i64 kind, .slice a1 pl.length c1, .slice a2 di.length c2, .slice a3 co.length c3, .slice a4 ru.length c4] 29)) := (Ext.refl w).alloc _
  have hs0 : (w.alloc (.cells #[.int .i64 kind, .slice a1 pl.length c1, .slice a2 di.length c2, .slice a3 co.length c3, .slice a4 ru.length c4] 29)).heap.size = w.heap.size + 1 := by simp
  have hl1 := hl.out.plain
  have hl2 := hl.out.dict
  have hl3 := hl.out.codes
  have hl4 := hl.out.runs
  simp only at hl1 hl2 hl3 hl4
  have hnb : Hid (¬ Rng base top w.heap.size) := fun hh => by have := hh.2; omega
  replace hbA := hide hbA
  replace hx0 := hide hx0
  simp only [cellsC]
  go_enter Yabn.func95, Yabn.ntmps95
  go_wp2_with fail
  generalize (w.alloc (.cells #[.int .i64 kind, .slice a1 pl.length c1, .slice a2 di.length c2, .slice a3 co.length c3, .slice a4 ru.length c4] 29)) = W at *
  have C0 := hide (h.out.ext hx0.out)
  refine (incI64 pl a1 c1 base  W C0.out.plain hl1 ).mono ?_
  rintro e w1 ⟨rfl, o1, g1⟩
  have C1 := hide (C0.out.put1 (by decide) (by simp) o1 g1)
  have B1 : Hid (But (Rng base top) W w1) := But.of_grown g1 C0.out.in1
  have m2 := (B1.out.box hbA.out (by omega) hnb.out) 2 _ rfl
  clear o1 g1 C0
  go_wp2_with fail
  refine (incI64 di a2 c2 base  w1 C1.out.dict hl2 ).mono ?_
  rintro e w2 ⟨rfl, o2, g2⟩
  have C2 := hide (C1.out.put2 (by decide) (by simp) o2 g2)
  have B2 : Hid (But (Rng base top) W w2) := B1.out.trans (But.of_grown g2 C1.out.in2)
  have m3 := (B2.out.box hbA.out (by omega) hnb.out) 3 _ rfl
  clear o2 g2 C1 m2 B1
  go_wp2_with fail
  refine (incInt co a3 c3 base  w2 C2.out.codes hl3 ).mono ?_
  rintro e w3 ⟨rfl, o3, g3⟩
  have C3 := hide (C2.out.put3 (by decide) (by simp) o3 g3)
  have B3 : Hid (But (Rng base top) W w3) := B2.out.trans (But.of_grown g3 C2.out.in3)
  have m4 := (B3.out.box hbA.out (by omega) hnb.out) 4 _ rfl
  clear o3 g3 C2 m3 B2
  go_wp2_with fail
  refine (incRuns ru a4 c4 base  w3 C3.out.runs hl4 ).mono ?_
  rintro e w4 ⟨rfl, o4, g4⟩
  have C4 := hide (C3.out.put4 (by decide) (by decide) (by simp) o4 g4)
  have B4 : Hid (But (Rng base top) W w4) := B3.out.trans (But.of_grown g4 C3.out.in4)
  clear o4 g4 C3 m4 B3
  go_wp2
  go_end0
  exact ⟨rfl, C4.out, (But.of_ext hx0.out).trans B4.out⟩

set_option maxHeartbeats 4000000 in
theorem incLColumn (c : Col) (a1 a2 a3 a4 : Option Addr) (c1 c2 c3 c4 base top : Nat)  (w : World) (h : Hid (OwnC 185 w base top c a1 a2 a3 a4 c1 c2 c3 c4)) (ht : top ≤ w.heap.size) (hl : Hid (LenC c)) :
    Calls Yabn.prog 94 #[.agg (cellsC c a1 a2 a3 a4 c1 c2 c3 c4).toArray] w (RetM 185 base top ⟨c.kind, List.map inc1 c.plain, List.map inc1 c.dict, List.map inc1 c.codes, List.map incP c.runs⟩ a1 a2 a3 a4 c1 c2 c3 c4 w) := by
  obtain ⟨kind, pl, di, co, ru⟩ := c
  have hbA : Box (w.alloc (.cells #[.int .i64 kind, .slice a1 pl.length c1, .slice a2 di.length c2, .slice a3 co.length c3, .slice a4 ru.length c4] 58)) w.heap.size _ := Box.new w _ _
  have hx0 : Ext w (w.alloc (.cells #[.int .i64 kind, .slice a1 pl.length c1, .slice a2 di.length c2, .slice a3 co.length c3, .slice a4 ru.length c4] 58)) := (Ext.refl w).alloc _
  have hs0 : (w.alloc (.cells #[.int .i64 kind, .slice a1 pl.length c1, .slice a2 di.length c2, .slice a3 co.length c3, .slice a4 ru.length c4] 58)).heap.size = w.heap.size + 1 := by simp
  have hl1 := hl.out.plain
  have hl2 := hl.out.dict
  have hl3 := hl.out.codes
  have hl4 := hl.out.runs
  simp only at hl1 hl2 hl3 hl4
  have hnb : Hid (¬ Rng base top w.heap.size) := fun hh => by have := hh.2; omega
  replace hbA := hide hbA
  replace hx0 := hide hx0
  simp only [cellsC]
  go_enter Yabn.func94, Yabn.ntmps94
  go_wp2_with fail
  generalize (w.alloc (.cells #[.int .i64 kind, .slice a1 pl.length c1, .slice a2 di.length c2, .slice a3 co.length c3, .slice a4 ru.length c4] 58)) = W at *
  have C0 := hide (h.out.ext hx0.out)
  refine (incI64 pl a1 c1 base  W C0.out.plain hl1 ).mono ?_
  rintro e w1 ⟨rfl, o1, g1⟩
  have C1 := hide (C0.out.put1 (by decide) (by simp) o1 g1)
  have B1 : Hid (But (Rng base top) W w1) := But.of_grown g1 C0.out.in1
  have m2 := (B1.out.box hbA.out (by omega) hnb.out) 2 _ rfl
  clear o1 g1 C0
  go_wp2_with fail
  refine (incI64 di a2 c2 base  w1 C1.out.dict hl2 ).mono ?_
  rintro e w2 ⟨rfl, o2, g2⟩
  have C2 := hide (C1.out.put2 (by decide) (by simp) o2 g2)
  have B2 : Hid (But (Rng base top) W w2) := B1.out.trans (But.of_grown g2 C1.out.in2)
  have m3 := (B2.out.box hbA.out (by omega) hnb.out) 3 _ rfl
  clear o2 g2 C1 m2 B1
  go_wp2_with fail
  refine (incInt co a3 c3 base  w2 C2.out.codes hl3 ).mono ?_
  rintro e w3 ⟨rfl, o3, g3⟩
  have C3 := hide (C2.out.put3 (by decide) (by simp) o3 g3)
  have B3 : Hid (But (Rng base top) W w3) := B2.out.trans (But.of_grown g3 C2.out.in3)
  have m4 := (B3.out.box hbA.out (by omega) hnb.out) 4 _ rfl
  clear o3 g3 C2 m3 B2
  go_wp2_with fail
  refine (incLRuns ru a4 c4 base  w3 C3.out.runs hl4 ).mono ?_
  rintro e w4 ⟨rfl, o4, g4⟩
  have C4 := hide (C3.out.put4 (by decide) (by decide) (by simp) o4 g4)
  have B4 : Hid (But (Rng base top) W w4) := B3.out.trans (But.of_grown g4 C3.out.in4)
  clear o4 g4 C3 m4 B3
  go_wp2
  go_end0
  exact ⟨rfl, C4.out, (But.of_ext hx0.out).trans B4.out⟩

set_option maxHeartbeats 4000000 in
theorem scColumn (c : Col) (a1 a2 a3 a4 : Option Addr) (c1 c2 c3 c4 base top : Nat) (w : World) (h : Hid (OwnC 27 w base top c a1 a2 a3 a4 c1 c2 c3 c4)) (ht : top ≤ w.heap.size) (hl : Hid (LenC c)) :
    Calls Yabn.prog 33 #[.agg (cellsC c a1 a2 a3 a4 c1 c2 c3 c4).toArray] w (RetB base top w) := by
  obtain ⟨kind, pl, di, co, ru⟩ := c
  have hbA : Box (w.alloc (.cells #[.int .i64 kind, .slice a1 pl.length c1, .slice a2 di.length c2, .slice a3 co.length c3, .slice a4 ru.length c4] 29)) w.heap.size _ := Box.new w _ _
  have hx0 : Ext w (w.alloc (.cells #[.int .i64 kind, .slice a1 pl.length c1, .slice a2 di.length c2, .slice a3 co.length c3, .slice a4 ru.length c4] 29)) := (Ext.refl w).alloc _
  have hs0 : (w.alloc (.cells #[.int .i64 kind, .slice a1 pl.length c1, .slice a2 di.length c2, .slice a3 co.length c3, .slice a4 ru.length c4] 29)).heap.size = w.heap.size + 1 := by simp
  have hl1 := hl.out.plain
  have hl2 := hl.out.dict
  have hl3 := hl.out.codes
  have hl4 := hl.out.runs
  simp only at hl1 hl2 hl3 hl4
  have hnb : Hid (¬ Rng base top w.heap.size) := fun hh => by have := hh.2; omega
  replace hbA := hide hbA
  replace hx0 := hide hx0
  simp only [cellsC]
  go_enter Yabn.func33, Yabn.ntmps33
  go_wp2_with fail
  generalize (w.alloc (.cells #[.int .i64 kind, .slice a1 pl.length c1, .slice a2 di.length c2, .slice a3 co.length c3, .slice a4 ru.length c4] 29)) = W at *
  have C0 := hide (h.out.ext hx0.out)
  have ap31 := apart_types C0.out.codes C0.out.plain (by decide)
  have ap41 := apart_types C0.out.runs C0.out.plain (by decide)
  have ap32 := apart_types C0.out.codes C0.out.dict (by decide)
  have ap42 := apart_types C0.out.runs C0.out.dict (by decide)
  have ap43 := apart_types C0.out.runs C0.out.codes (by decide)
  replace ap31 := hide ap31
  replace ap41 := hide ap41
  replace ap32 := hide ap32
  replace ap42 := hide ap42
  replace ap43 := hide ap43
  refine (scI64 pl a1 c1 base W C0.out.plain hl1).mono ?_
  rintro e w1 ⟨rfl, g1⟩
  have D1 : Hid (OwnI w1 base 2 (.slice a2 di.length c2) di) := C0.out.dict.but g1 (apart_len C0.out.sep.symm)
  have K1 : Hid (OwnI w1 base 3 (.slice a3 co.length c3) co) := C0.out.codes.but g1 ap31.out
  have R1 : Hid (OwnP w1 base 27 (.slice a4 ru.length c4) ru) := C0.out.runs.but g1 ap41.out
  have B1 : Hid (But (Rng base top) W w1) := But.of_grown g1 C0.out.in1
  have m2 := (B1.out.box hbA.out (by omega) hnb.out) 2 _ rfl
  clear g1
  go_wp2_with fail
  refine (scI64 di a2 c2 base w1 D1 hl2).mono ?_
  rintro e w2 ⟨rfl, g2⟩
  have K2 : Hid (OwnI w2 base 3 (.slice a3 co.length c3) co) := K1.out.but g2 ap32.out
  have R2 : Hid (OwnP w2 base 27 (.slice a4 ru.length c4) ru) := R1.out.but g2 ap42.out
  have B2 : Hid (But (Rng base top) W w2) := B1.out.trans (But.of_grown g2 C0.out.in2)
  have m3 := (B2.out.box hbA.out (by omega) hnb.out) 3 _ rfl
  clear g2 D1 K1 R1 m2 B1
  go_wp2_with fail
  refine (scInt co a3 c3 base w2 K2 hl3).mono ?_
  rintro e w3 ⟨rfl, g3⟩
  have R3 : Hid (OwnP w3 base 27 (.slice a4 ru.length c4) ru) := R2.out.but g3 ap43.out
  have B3 : Hid (But (Rng base top) W w3) := B2.out.trans (But.of_grown g3 C0.out.in3)
  have m4 := (B3.out.box hbA.out (by omega) hnb.out) 4 _ rfl
  clear g3 K2 R2 m3 B2
  go_wp2_with fail
  refine (scRuns ru a4 c4 base w3 R3 hl4).mono ?_
  rintro e w4 ⟨rfl, g4⟩
  have B4 : Hid (But (Rng base top) W w4) := B3.out.trans (But.of_grown g4 C0.out.in4)
  clear g4 R3 m4 B3
  go_wp2
  go_end0
  exact ⟨rfl, (But.of_ext hx0.out).trans B4.out⟩
end Go.Proofs.Ybyabw
