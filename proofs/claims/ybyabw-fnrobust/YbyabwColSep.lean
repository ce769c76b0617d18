/- Walk: laws.sepColumn -/
import Derived.Test.YbyabwColM
namespace Go.Proofs.Ybyabw
open Go.RowKit
set_option maxRecDepth 100000
set_option linter.unusedVariables false

def incC (c : Col) : Col := ⟨c.kind, c.plain.map inc1, c.dict.map inc1, c.codes.map inc1, c.runs.map incP⟩
def RetSep (er : TypeId) (base top : Nat) (c : Col) (a1 a2 a3 a4 : Option Addr) (c1 c2 c3 c4 : Nat) (w : World) : Ending → World → Prop := fun en w' => en = .returned (.bool true) ∧ OwnC er w' base top c a1 a2 a3 a4 c1 c2 c3 c4 ∧ But (Rng base top) w w'

theorem LenC.inc {c : Col} (h : LenC c) : LenC (incC c) := ⟨by simpa [incC] using h.plain, by simpa [incC] using h.dict, by simpa [incC] using h.codes, by simpa [incC] using h.runs⟩


set_option maxHeartbeats 8000000 in
theorem sepColumn (c : Col) (a1 a2 a3 a4 : Option Addr) (c1 c2 c3 c4 base top : Nat) (w : World) (h : Hid (OwnC 27 w base top c a1 a2 a3 a4 c1 c2 c3 c4)) (ht : top ≤ w.heap.size) (hl : Hid (LenC c)) :
    Calls Yabn.prog 85 #[.agg (cellsC c a1 a2 a3 a4 c1 c2 c3 c4).toArray] w (RetSep 27 base top (incC c) a1 a2 a3 a4 c1 c2 c3 c4 w) := by
  obtain ⟨kind, pl, di, co, ru⟩ := c
  have hbA : Box (w.alloc (.cells #[.int .i64 kind, .slice a1 pl.length c1, .slice a2 di.length c2, .slice a3 co.length c3, .slice a4 ru.length c4] 29)) w.heap.size _ := Box.new w _ _
  have hx0 : Ext w (w.alloc (.cells #[.int .i64 kind, .slice a1 pl.length c1, .slice a2 di.length c2, .slice a3 co.length c3, .slice a4 ru.length c4] 29)) := (Ext.refl w).alloc _
  have hs0 : (w.alloc (.cells #[.int .i64 kind, .slice a1 pl.length c1, .slice a2 di.length c2, .slice a3 co.length c3, .slice a4 ru.length c4] 29)).heap.size = w.heap.size + 1 := by simp
  replace hbA := hide hbA
  replace hx0 := hide hx0
  simp only [cellsC]
  go_enter Yabn.func85, Yabn.ntmps85
  go_wp2_with fail
  generalize (w.alloc (.cells #[.int .i64 kind, .slice a1 pl.length c1, .slice a2 di.length c2, .slice a3 co.length c3, .slice a4 ru.length c4] 29)) = W at *
  have C0 := hide (h.out.ext hx0.out)
  refine (cvColumn ⟨kind, pl, di, co, ru⟩ a1 a2 a3 a4 c1 c2 c3 c4 W C0.out.colAt hl).mono ?_
  rintro e w1 ⟨p1, p2, p3, p4, q1, q2, q3, q4, rfl, E1, x1⟩
  simp only [cellsC]
  have z1 := x1.size
  have hbE : Box (w1.alloc (.cells #[.int .i64 kind, .slice p1 pl.length q1, .slice p2 di.length q2, .slice p3 co.length q3, .slice p4 ru.length q4] 58)) w1.heap.size _ := Box.new w1 _ _
  have xV : Ext w (w1.alloc (.cells #[.int .i64 kind, .slice p1 pl.length q1, .slice p2 di.length q2, .slice p3 co.length q3, .slice p4 ru.length q4] 58)) := (hx0.out.trans x1).alloc _
  have xWV : Ext W (w1.alloc (.cells #[.int .i64 kind, .slice p1 pl.length q1, .slice p2 di.length q2, .slice p3 co.length q3, .slice p4 ru.length q4] 58)) := x1.alloc _
  have hsV : (w1.alloc (.cells #[.int .i64 kind, .slice p1 pl.length q1, .slice p2 di.length q2, .slice p3 co.length q3, .slice p4 ru.length q4] 58)).heap.size = w1.heap.size + 1 := by simp
  have EV := E1.ext ((Ext.refl w1).alloc (.cells #[.int .i64 kind, .slice p1 pl.length q1, .slice p2 di.length q2, .slice p3 co.length q3, .slice p4 ru.length q4] 58))
  replace hbE := hide hbE
  replace xV := hide xV
  replace xWV := hide xWV
  replace EV := hide EV
  clear E1 x1
  go_wp2_with fail
  generalize (w1.alloc (.cells #[.int .i64 kind, .slice p1 pl.length q1, .slice p2 di.length q2, .slice p3 co.length q3, .slice p4 ru.length q4] 58)) = V at *
  generalize w1.heap.size = E at *
  refine (incLColumn ⟨kind, pl, di, co, ru⟩ p1 p2 p3 p4 q1 q2 q3 q4 W.heap.size E V EV (by omega) hl).mono ?_
  rintro e w3 ⟨rfl, E3, B3⟩
  have C3 := hide ((C0.out.ext xWV.out).but B3 (fun k h1 h2 hr => by have := hr.1; omega))
  have hbA3 := hide (B3.box (hbA.out.ext xWV.out) (by have := xWV.out.size; omega) (fun hr => by have := hr.1; omega))
  have hbE3 := hide (B3.box hbE.out (by omega) (fun hr => by have := hr.2; omega))
  have xw3 : Hid (Ext w w3) := But.ext ((But.of_ext xV.out).trans B3) (fun k hr => by have := hr.1; omega)
  have z3 := B3.size
  replace E3 := hide E3
  clear B3 EV hbE hbA C0
  simp only at E3
  have k0 := hbA3.out 0 _ rfl
  have k1 := hbA3.out 1 _ rfl
  have k2 := hbA3.out 2 _ rfl
  have k3 := hbA3.out 3 _ rfl
  have k4 := hbA3.out 4 _ rfl
  go_wp2_with fail
  clear k0 k1 k2 k3 k4
  refine (incColumn ⟨kind, pl, di, co, ru⟩ a1 a2 a3 a4 c1 c2 c3 c4 base top w3 C3 (by omega) hl).mono ?_
  rintro e w4 ⟨rfl, C4, B4⟩
  have E4 := hide (E3.out.but B4 (fun k h1 h2 hr => by have := hr.2; omega))
  have hbA4 := hide (B4.box hbA3.out (by omega) (fun hr => by have := hr.2; omega))
  have hbE4 := hide (B4.box hbE3.out (by omega) (fun hr => by have := hr.2; omega))
  have z4 := B4.size
  have xw4 : Hid (But (Rng base top) w w4) := (But.of_ext xw3.out).trans B4
  replace C4 := hide C4
  clear B4 E3 hbA3 hbE3 C3 xw3
  simp only at C4
  have hl' := hl.out.inc
  simp only [incC] at hl'
  have e1 : Hid ((pl.map inc1).length = pl.length) := by simp [Hid]
  have e2 : Hid ((di.map inc1).length = di.length) := by simp [Hid]
  have e3 : Hid ((co.map inc1).length = co.length) := by simp [Hid]
  have e4 : Hid ((ru.map incP).length = ru.length) := by simp [Hid]
  generalize hg1 : pl.map inc1 = pl' at *
  generalize hg2 : di.map inc1 = di' at *
  generalize hg3 : co.map inc1 = co' at *
  generalize hg4 : ru.map incP = ru' at *
  have hinc : Hid (incC ⟨kind, pl, di, co, ru⟩ = ⟨kind, pl', di', co', ru'⟩) := by simp only [incC, hg1, hg2, hg3, hg4, Hid]
  clear hg1 hg2 hg3 hg4
  have hcv := fun w (hc : ColAt w ⟨kind, pl', di', co', ru'⟩ a1 a2 a3 a4) => cvColumn ⟨kind, pl', di', co', ru'⟩ a1 a2 a3 a4 c1 c2 c3 c4 w hc hl'
  have heq := fun r1 r2 r3 r4 s1 s2 s3 s4 w (hc : Hid (ColAt w ⟨kind, pl', di', co', ru'⟩ r1 r2 r3 r4)) (hd : ColAt w ⟨kind, pl', di', co', ru'⟩ p1 p2 p3 p4) => eqLColumn ⟨kind, pl', di', co', ru'⟩ r1 r2 r3 r4 p1 p2 p3 p4 s1 s2 s3 s4 q1 q2 q3 q4 w hc hd hl'
  have hpr := fun m (m0 : 0 ≤ m) (m1 : m < 10) w (hC : Hid (OwnC 27 w base top ⟨kind, pl', di', co', ru'⟩ a1 a2 a3 a4 c1 c2 c3 c4)) ht => prColumn ⟨kind, pl', di', co', ru'⟩ a1 a2 a3 a4 c1 c2 c3 c4 base top m m0 m1 w hC ht hl'
  simp only [cellsC, e1.out, e2.out, e3.out, e4.out] at hcv heq hpr
  replace hcv := hide hcv
  replace heq := hide heq
  replace hpr := hide hpr
  go_wp2
  have k0 := hbA4.out 0 _ rfl
  have k1 := hbA4.out 1 _ rfl
  have k2 := hbA4.out 2 _ rfl
  have k3 := hbA4.out 3 _ rfl
  have k4 := hbA4.out 4 _ rfl
  refine Dr.region_held (fun b => b = E) [2] (by kernel_rfl) ?_
  refine Dr.held_q1 (by rfl) ?_
  go_wp2
  refine Dr.held_act (by rfl) (by rfl) ?_
  go_wp2_with fail
  refine (hcv.out _ (C4.out.colAt.extC (Ext.refl _).drew)).mono ?_
  rintro e w5 ⟨r1, r2, r3, r4, s1, s2, s3, s4, rfl, F5, x5⟩
  clear k0 k1 k2 k3 k4
  have y5 : Hid (Ext w4 w5) := (Ext.refl _).drew.trans x5
  have z5 := y5.out.size
  refine ⟨fun b hb => x5.block b (by simp only at hb; simp only [World.drew]; omega), ?_⟩
  simp only [cellsC, e1.out, e2.out, e3.out, e4.out]
  have f5 := hide F5.colAt
  clear F5 x5
  have k0 := (hbE4.out.ext y5.out) 0 _ rfl
  have k1 := (hbE4.out.ext y5.out) 1 _ rfl
  have k2 := (hbE4.out.ext y5.out) 2 _ rfl
  have k3 := (hbE4.out.ext y5.out) 3 _ rfl
  have k4 := (hbE4.out.ext y5.out) 4 _ rfl
  refine Dr.held_q1 (by rfl) ?_
  go_wp2
  refine Dr.held_act (by rfl) (by rfl) ?_
  go_wp2_with fail
  refine (heq.out r1 r2 r3 r4 s1 s2 s3 s4 w5 f5 (E4.out.colAt.extC y5.out)).mono ?_
  rintro e w6 ⟨rfl, x6⟩
  refine ⟨fun b hb => x6.block b (by simp only at hb; omega), ?_⟩
  have k7 := x6.cell k0
  clear k0 k1 k2 k3 k4 f5
  have y6 : Hid (Ext w4 w6) := y5.out.trans x6
  clear x6
  refine Dr.held_q1 (by rfl) ?_
  go_wp2
  refine Dr.held_nil (by rfl) ⟨fun _ => ⟨E, 0, rfl, rfl, Dr.isCells_of k7⟩, trivial⟩ ?_
  clear k7 z5 y5
  go_wp2
  go_loopw [4] (fun i wr => ∃ k : Nat, i = .int .i64 k ∧ k ≤ 2 ∧ Hid (OwnC 27 wr base top ⟨kind, pl', di', co', ru'⟩ a1 a2 a3 a4 c1 c2 c3 c4) ∧ Hid (But (Rng base top) w4 wr)) (fun i _ => 2 - (intOf i).toNat)
  case atStart => exact ⟨0, rfl, by omega, C4.out.ext y6.out, But.of_ext y6.out⟩
  clear y6
  obtain ⟨k, rfl, hk, C, B⟩ := hrel
  have hz := B.out.size
  by_cases hk2 : k < 2
  · have hk2' : (k : Int) < 2 := by omega
    have hbAr := hide (B.out.box hbA4.out (by omega) (fun hr => by have := hr.2; omega))
    have k0 := hbAr.out 0 _ rfl
    have k1 := hbAr.out 1 _ rfl
    have k2 := hbAr.out 2 _ rfl
    have k3 := hbAr.out 3 _ rfl
    have k4 := hbAr.out 4 _ rfl
    go_wp2_with fail
    clear k0 k1 k2 k3 k4 hbAr
    refine (hpr.out k (by omega) (by omega) wr C (by omega)).mono ?_
    rintro e w7 ⟨rfl, C7, B7⟩
    replace C7 := hide C7
    have B47 := hide (B.out.trans B7)
    have z7 := B47.out.size
    have hbA7 := hide (B47.out.box hbA4.out (by omega) (fun hr => by have := hr.2; omega))
    have hbE7 := hide (B47.out.box hbE4.out (by omega) (fun hr => by have := hr.2; omega))
    have E7 := hide (E4.out.but B47.out (fun k h1 h2 hr => by have := hr.2; omega))
    clear B7 C B
    simp only [id] at C7
    go_wp2
    have k0 := hbA7.out 0 _ rfl
    have k1 := hbA7.out 1 _ rfl
    have k2 := hbA7.out 2 _ rfl
    have k3 := hbA7.out 3 _ rfl
    have k4 := hbA7.out 4 _ rfl
    refine Dr.region_held (fun b => b = E) [2] (by kernel_rfl) ?_
    refine Dr.held_q1 (by rfl) ?_
    go_wp2
    refine Dr.held_act (by rfl) (by rfl) ?_
    go_wp2_with fail
    refine (hcv.out _ (C7.out.colAt.extC (Ext.refl _).drew)).mono ?_
    rintro e w5 ⟨r1, r2, r3, r4, s1, s2, s3, s4, rfl, F5, x5⟩
    clear k0 k1 k2 k3 k4
    have y5 : Hid (Ext w7 w5) := (Ext.refl _).drew.trans x5
    have z5 := y5.out.size
    refine ⟨fun b hb => x5.block b (by simp only at hb; simp only [World.drew]; omega), ?_⟩
    simp only [cellsC, e1.out, e2.out, e3.out, e4.out]
    have f5 := hide F5.colAt
    clear F5 x5
    have k0 := (hbE7.out.ext y5.out) 0 _ rfl
    have k1 := (hbE7.out.ext y5.out) 1 _ rfl
    have k2 := (hbE7.out.ext y5.out) 2 _ rfl
    have k3 := (hbE7.out.ext y5.out) 3 _ rfl
    have k4 := (hbE7.out.ext y5.out) 4 _ rfl
    refine Dr.held_q1 (by rfl) ?_
    go_wp2
    refine Dr.held_act (by rfl) (by rfl) ?_
    go_wp2_with fail
    refine (heq.out r1 r2 r3 r4 s1 s2 s3 s4 w5 f5 (E7.out.colAt.extC y5.out)).mono ?_
    rintro e w6 ⟨rfl, x6⟩
    refine ⟨fun b hb => x6.block b (by simp only at hb; omega), ?_⟩
    have k7 := x6.cell k0
    clear k0 k1 k2 k3 k4 f5
    have y6 : Hid (Ext w7 w6) := y5.out.trans x6
    clear x6
    refine Dr.held_q1 (by rfl) ?_
    go_wp2
    refine Dr.held_nil (by rfl) ⟨fun _ => ⟨E, 0, rfl, rfl, Dr.isCells_of k7⟩, trivial⟩ ?_
    clear k7 z5 y5
    go_wp2
    go_roundw
    case rel => exact ⟨k + 1, by go_num, by omega, C7.out.ext y6.out, B47.out.trans (But.of_ext y6.out)⟩
    case measure => simp [intOf]; omega
  · obtain rfl : k = 2 := by omega
    clear hk hk2
    go_wp2
    go_ret
    exact ⟨rfl, by rw [hinc.out]; exact C.out, xw4.out.trans B.out⟩
end Go.Proofs.Ybyabw
