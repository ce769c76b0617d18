/- Walk: laws.FnExactColumnSelect -/
import Derived.Test.YbyacwCpRun
import Derived.Test.YbyacwSel1
namespace Go.Proofs.Ybyacw
open Go.RowKit
set_option maxRecDepth 100000
set_option linter.unusedVariables false
def TrueE (w : World) : Ending → World → Prop := fun e w' => e = .returned (.bool true) ∧ Ext w w'
def RetDV (e : TypeId) (xs : List Int) (b : Bool) (w : World) : Ending → World → Prop := fun en w' => ∃ a cap, en = .returned (.tuple #[.slice a xs.length cap, .bool b]) ∧ OwnI w' w.heap.size e (.slice a xs.length cap) xs ∧ Ext w w'
set_option maxHeartbeats 16000000 in
theorem fnExactColumnSelect_main (ck : Int) (cp cd cc : List Int) (cr : List (Int × Int)) (a1 a2 a3 a4 : Option Addr) (c1 c2 c3 c4 : Nat) (n : Int) (ox kx : Int) (w : World) (h : Hid (ColAt w ⟨ck, cp, cd, cc, cr⟩ a1 a2 a3 a4)) (hsum : cp.length + cd.length + cc.length + cr.length ≤ 1048576)
    (XS : List Int) (b : Bool) (hX : XS.length < 2 ^ 39)
    (hI : Hid (∀ a1 a2 a3 a4 c1 c2 c3 c4 w, ColAt w ⟨ck, cp, cd, cc, cr⟩ a1 a2 a3 a4 → Calls Yacn.prog 38 #[.agg (cellsC ⟨ck, cp, cd, cc, cr⟩ a1 a2 a3 a4 c1 c2 c3 c4).toArray, .int .i64 n, .int .i64 ox, .int .i64 kx] w (RetDV 3 XS b w)))
    (hS : Hid (∀ a1 a2 a3 a4 c1 c2 c3 c4 w, ColAt w ⟨ck, cp, cd, cc, cr⟩ a1 a2 a3 a4 → Calls Yacn.prog 36 #[.agg (cellsC ⟨ck, cp, cd, cc, cr⟩ a1 a2 a3 a4 c1 c2 c3 c4).toArray, .int .i64 n, .int .i64 ox, .int .i64 kx] w (RetDV 3 XS b w))) :
    Calls Yacn.prog 6 #[.agg (cellsC ⟨ck, cp, cd, cc, cr⟩ a1 a2 a3 a4 c1 c2 c3 c4).toArray, .int .i64 n, .int .i64 ox, .int .i64 kx] w (TrueE w) := by
  have hl : Hid (LenC ⟨ck, cp, cd, cc, cr⟩) := ⟨by simp only; omega, by simp only; omega, by simp only; omega, by simp only; omega⟩
  have hbX0 : Box (w.alloc (.cells #[.int .i64 ck, .slice a1 cp.length c1, .slice a2 cd.length c2, .slice a3 cc.length c3, .slice a4 cr.length c4] 63)) w.heap.size _ := Box.new w _ _
  have xX : Ext w (w.alloc (.cells #[.int .i64 ck, .slice a1 cp.length c1, .slice a2 cd.length c2, .slice a3 cc.length c3, .slice a4 cr.length c4] 63)) := (Ext.refl w).alloc _
  have hsX : (w.alloc (.cells #[.int .i64 ck, .slice a1 cp.length c1, .slice a2 cd.length c2, .slice a3 cc.length c3, .slice a4 cr.length c4] 63)).heap.size = w.heap.size + 1 := by simp
  have m1 : cp.length ≤ 1048576 := by omega
  have m2 : cd.length ≤ 1048576 := by omega
  have m3 : cc.length ≤ 1048576 := by omega
  have m4 : cr.length ≤ 1048576 := by omega
  have hsI : ¬ 1048576 < (cp.length : Int) + cd.length + cc.length + cr.length := by omega
  have hbb : (b != b) = false := by simp
  replace hbX0 := hide hbX0
  replace xX := hide xX
  simp only [cellsC] at hI hS ⊢
  go_enter Yacn.func6, Yacn.ntmps6
  go_wp2_with fail
  generalize (w.alloc (.cells #[.int .i64 ck, .slice a1 cp.length c1, .slice a2 cd.length c2, .slice a3 cc.length c3, .slice a4 cr.length c4] 63)) = X at *
  refine (szColumn ⟨ck, cp, cd, cc, cr⟩ a1 a2 a3 a4 c1 c2 c3 c4 X hsum).mono ?_
  rintro e w1 ⟨rfl, x1⟩
  have hb1 := hide (hbX0.out.ext x1)
  have X1 : Hid (Ext w w1) := xX.out.trans x1
  clear x1
  have k0 := hb1.out 0 _ rfl
  have k1 := hb1.out 1 _ rfl
  have k2 := hb1.out 2 _ rfl
  have k3 := hb1.out 3 _ rfl
  have k4 := hb1.out 4 _ rfl
  go_wp2_with fail
  clear k0 k1 k2 k3 k4
  refine (cpColumn ⟨ck, cp, cd, cc, cr⟩ a1 a2 a3 a4 c1 c2 c3 c4 false w1 (h.out.extC X1.out) hl).mono ?_
  rintro e w2 ⟨j1, j2, j3, j4, i1, i2, i3, i4, rfl, OC, x2⟩
  simp only [cellsC]
  have hc2 := hide OC.colAt
  have hb2 := hide (hb1.out.ext x2)
  have X2 : Hid (Ext w w2) := X1.out.trans x2
  clear OC x2 X1 hb1
  go_wp2_with fail
  refine (hS.out j1 j2 j3 j4 i1 i2 i3 i4 w2 hc2.out).mono ?_
  rintro e V ⟨pw, qw, rfl, ow, x3⟩
  have hbV := hide (hb2.out.ext x3)
  have xV : Hid (Ext w V) := X2.out.trans x3
  have iV := hide ow.ints
  have zV : w.heap.size < V.heap.size := by have := x3.size; have := X2.out.size; have := cell_lt (hb2.out 0 _ rfl); simp only at this; omega
  clear ow x3 X2 hb2 hc2 hbX0 xX hsX hS
  go_wp2_with fail
  go_loopw [12] (fun i wr => ∃ k : Nat, i = .int .i64 k ∧ k ≤ 2 ∧ Hid (Ext V wr)) (fun i _ => 2 - (intOf i).toNat)
  case atStart => exact ⟨0, rfl, by omega, Ext.refl V⟩
  obtain ⟨k, rfl, hk, XW⟩ := hrel
  by_cases hk2 : k < 2
  · have hk2' : (k : Int) < 2 := by omega
    generalize hne : ((k : Int) == 1) = ne
    replace hne := hide hne
    obtain ⟨W, rfl⟩ : ∃ W, W = wr := ⟨_, rfl⟩
    have hbW := hide (hbV.out.ext XW.out)
    have iW := hide (iV.out.ext XW.out)
    have hcW := hide (h.out.extC (xV.out.trans XW.out))
    have zW := XW.out.size
    have k0 := hbW.out 0 _ rfl
    have k1 := hbW.out 1 _ rfl
    have k2 := hbW.out 2 _ rfl
    have k3 := hbW.out 3 _ rfl
    have k4 := hbW.out 4 _ rfl
    go_wp2_with fail
    rw [hne.out]
    clear k0 k1 k2 k3 k4
    refine (cpColumn ⟨ck, cp, cd, cc, cr⟩ a1 a2 a3 a4 c1 c2 c3 c4 ne W hcW hl).mono ?_
    rintro e w1 ⟨p1, p2, p3, p4, q1, q2, q3, q4, rfl, OC, x1⟩
    simp only [cellsC]
    have z1 := x1.size
    have hbU : Box (w1.alloc (.cells #[.int .i64 ck, .slice p1 cp.length q1, .slice p2 cd.length q2, .slice p3 cc.length q3, .slice p4 cr.length q4] 63)) w1.heap.size _ := Box.new w1 _ _
    have xWU : Ext W (w1.alloc (.cells #[.int .i64 ck, .slice p1 cp.length q1, .slice p2 cd.length q2, .slice p3 cc.length q3, .slice p4 cr.length q4] 63)) := x1.alloc _
    have hsU : (w1.alloc (.cells #[.int .i64 ck, .slice p1 cp.length q1, .slice p2 cd.length q2, .slice p3 cc.length q3, .slice p4 cr.length q4] 63)).heap.size = w1.heap.size + 1 := by simp
    have OU := OC.ext ((Ext.refl w1).alloc (.cells #[.int .i64 ck, .slice p1 cp.length q1, .slice p2 cd.length q2, .slice p3 cc.length q3, .slice p4 cr.length q4] 63))
    replace hbU := hide hbU
    replace xWU := hide xWU
    replace OU := hide OU
    clear OC x1
    go_wp2_with fail
    generalize (w1.alloc (.cells #[.int .i64 ck, .slice p1 cp.length q1, .slice p2 cd.length q2, .slice p3 cc.length q3, .slice p4 cr.length q4] 63)) = U at *
    generalize w1.heap.size = A at *
    have hcU := hide OU.out.colAt
    refine (hI.out p1 p2 p3 p4 q1 q2 q3 q4 U hcU.out).mono ?_
    rintro e w2 ⟨pg, qg, rfl, og, xU⟩
    have hbX := hide (hbW.out.ext xWU.out)
    have iU := hide (iW.out.ext xWU.out)
    have hcX := hide (hcW.out.extC xWU.out)
    have z2 := xU.size
    replace og := hide og
    replace xU := hide xU
    go_wp2
    refine Dr.region_held (fun b => b = w.heap.size) [12] (by kernel_rfl) ?_
    refine Dr.held_q6 (by rfl) ?_
    go_wp2
    refine Dr.held_act (by rfl) (by rfl) ?_
    go_wp2_with fail
    refine (eqInt XS pg pw qg qw _ (og.out.ints.ext (Ext.refl _).drew) (iU.out.ext xU.out.drew) hX).mono ?_
    rintro e v1 ⟨rfl, x2⟩
    refine ⟨fun b hb => x2.block b (by simp only at hb; simp only [World.drew]; omega), ?_⟩
    have y1 : Hid (Ext w2 v1) := (Ext.refl w2).drew.trans x2
    clear x2
    have k0 := (hbU.out.ext (xU.out.trans y1.out)) 0 _ rfl
    have k1 := (hbU.out.ext (xU.out.trans y1.out)) 1 _ rfl
    have k2 := (hbU.out.ext (xU.out.trans y1.out)) 2 _ rfl
    have k3 := (hbU.out.ext (xU.out.trans y1.out)) 3 _ rfl
    have k4 := (hbU.out.ext (xU.out.trans y1.out)) 4 _ rfl
    refine Dr.held_q4 (by rfl) ?_
    go_wp2
    refine Dr.held_act (by rfl) (by rfl) ?_
    go_wp2_with fail
    refine (cvColumn ⟨ck, cp, cd, cc, cr⟩ p1 p2 p3 p4 q1 q2 q3 q4 v1 (hcU.out.extC (xU.out.trans y1.out)) hl).mono ?_
    rintro e v2 ⟨r1, r2, r3, r4, s1, s2, s3, s4, rfl, F2, x2⟩
    clear k0 k1 k2 k3 k4
    have zv1 := y1.out.size
    have zv0 := xU.out.size
    refine ⟨fun b hb => x2.block b (by simp only at hb; omega), ?_⟩
    simp only [cellsC]
    have f2 := hide F2.colAt
    have y2 := hide (y1.out.trans x2)
    clear F2 x2 y1 zv1
    have k0 := (hbX.out.ext (xU.out.trans y2.out)) 0 _ rfl
    have k1 := (hbX.out.ext (xU.out.trans y2.out)) 1 _ rfl
    have k2 := (hbX.out.ext (xU.out.trans y2.out)) 2 _ rfl
    have k3 := (hbX.out.ext (xU.out.trans y2.out)) 3 _ rfl
    have k4 := (hbX.out.ext (xU.out.trans y2.out)) 4 _ rfl
    refine Dr.held_q1 (by rfl) ?_
    go_wp2
    refine Dr.held_act (by rfl) (by rfl) ?_
    go_wp2_with fail
    refine (cvColumn ⟨ck, cp, cd, cc, cr⟩ a1 a2 a3 a4 c1 c2 c3 c4 v2 (hcX.out.extC (xU.out.trans y2.out)) hl).mono ?_
    rintro e v3 ⟨t1, t2, t3, t4, u1, u2, u3, u4, rfl, F3, x3⟩
    have zv2 := y2.out.size
    have kk := x3.cell k0
    clear k0 k1 k2 k3 k4
    refine ⟨fun b hb => x3.block b (by simp only at hb; omega), ?_⟩
    simp only [cellsC]
    have f3 := hide F3.colAt
    replace f2 := hide (f2.out.extC x3)
    have y3 := hide (y2.out.trans x3)
    clear F3 x3 y2 zv2
    refine Dr.held_act (by rfl) (by rfl) ?_
    go_wp2_with fail
    refine (eqLColumn ⟨ck, cp, cd, cc, cr⟩ r1 r2 r3 r4 t1 t2 t3 t4 s1 s2 s3 s4 u1 u2 u3 u4 v3 f2 f3 hl).mono ?_
    rintro e v4 ⟨rfl, x4⟩
    have zv3 := y3.out.size
    refine ⟨fun b hb => x4.block b (by simp only at hb; omega), ?_⟩
    have k9 := x4.cell kk
    have y4 := hide (y3.out.trans x4)
    clear f2 f3 x4 y3 kk zv3 zv0
    refine Dr.held_q2 (by rfl) ?_
    go_wp2
    refine Dr.held_nil (by rfl) ⟨fun _ => ⟨w.heap.size, 0, rfl, rfl, Dr.isCells_of k9⟩, trivial⟩ ?_
    clear k9
    go_wp2
    have oG := hide (og.out.ext y4.out)
    have bG : Hid (But (Rng U.heap.size w2.heap.size) w2 v4) := But.of_ext y4.out
    clear y4
    go_loopw [17] (fun i wr => ∃ m : Nat, i = .int .i64 m ∧ m ≤ 2 ∧ Hid (OwnI wr U.heap.size 3 (.slice pg XS.length qg) XS) ∧ Hid (But (Rng U.heap.size w2.heap.size) w2 wr)) (fun i _ => 2 - (intOf i).toNat)
    case atStart => exact ⟨0, rfl, by omega, oG, bG⟩
    clear oG bG
    obtain ⟨m, rfl, hm, oM, bM⟩ := hrel
    have zM := bM.out.size
    have xM : Hid (Ext U wr) := But.ext ((But.of_ext xU.out).trans bM.out) (fun k hr => hr.1)
    by_cases hm2 : m < 2
    · have hm2' : (m : Int) < 2 := by omega
      go_wp2_with fail
      refine (prInt XS pg qg U.heap.size m wr oM hX (by omega) (by omega)).mono ?_
      rintro e w3 ⟨rfl, o3, g3⟩
      have b3 : Hid (But (Rng U.heap.size w2.heap.size) w2 w3) := bM.out.trans (But.of_grown g3 (fun k hk => ⟨og.out.block k hk, (World.ownsRow.lt og.out k hk).2⟩))
      have x3 : Hid (Ext U w3) := But.ext ((But.of_ext xU.out).trans b3.out) (fun k hr => hr.1)
      replace o3 := hide o3
      clear g3 oM bM xM xU
      have xU := x3
      have z3 := xU.out.size
      go_wp2
      refine Dr.region_held (fun b => b = w.heap.size) [7] (by kernel_rfl) ?_
      refine Dr.held_q2 (by rfl) ?_
      go_wp2
      refine Dr.held_act (by rfl) (by rfl) ?_
      go_wp2_with fail
      refine (eqInt XS pg pw qg qw _ (o3.out.ints.ext (Ext.refl _).drew) (iU.out.ext xU.out.drew) hX).mono ?_
      rintro e v1 ⟨rfl, x2⟩
      refine ⟨fun b hb => x2.block b (by simp only at hb; simp only [World.drew]; omega), ?_⟩
      have y1 : Hid (Ext w3 v1) := (Ext.refl w3).drew.trans x2
      clear x2
      have k0 := (hbU.out.ext (xU.out.trans y1.out)) 0 _ rfl
      have k1 := (hbU.out.ext (xU.out.trans y1.out)) 1 _ rfl
      have k2 := (hbU.out.ext (xU.out.trans y1.out)) 2 _ rfl
      have k3 := (hbU.out.ext (xU.out.trans y1.out)) 3 _ rfl
      have k4 := (hbU.out.ext (xU.out.trans y1.out)) 4 _ rfl
      refine Dr.held_q3 (by rfl) ?_
      go_wp2
      refine Dr.held_act (by rfl) (by rfl) ?_
      go_wp2_with fail
      refine (cvColumn ⟨ck, cp, cd, cc, cr⟩ p1 p2 p3 p4 q1 q2 q3 q4 v1 (hcU.out.extC (xU.out.trans y1.out)) hl).mono ?_
      rintro e v2 ⟨r1, r2, r3, r4, s1, s2, s3, s4, rfl, F2, x2⟩
      clear k0 k1 k2 k3 k4
      have zv1 := y1.out.size
      have zv0 := xU.out.size
      refine ⟨fun b hb => x2.block b (by simp only at hb; omega), ?_⟩
      simp only [cellsC]
      have f2 := hide F2.colAt
      have y2 := hide (y1.out.trans x2)
      clear F2 x2 y1 zv1
      have k0 := (hbX.out.ext (xU.out.trans y2.out)) 0 _ rfl
      have k1 := (hbX.out.ext (xU.out.trans y2.out)) 1 _ rfl
      have k2 := (hbX.out.ext (xU.out.trans y2.out)) 2 _ rfl
      have k3 := (hbX.out.ext (xU.out.trans y2.out)) 3 _ rfl
      have k4 := (hbX.out.ext (xU.out.trans y2.out)) 4 _ rfl
      refine Dr.held_q1 (by rfl) ?_
      go_wp2
      refine Dr.held_act (by rfl) (by rfl) ?_
      go_wp2_with fail
      refine (cvColumn ⟨ck, cp, cd, cc, cr⟩ a1 a2 a3 a4 c1 c2 c3 c4 v2 (hcX.out.extC (xU.out.trans y2.out)) hl).mono ?_
      rintro e v3 ⟨t1, t2, t3, t4, u1, u2, u3, u4, rfl, F3, x3⟩
      have zv2 := y2.out.size
      have kk := x3.cell k0
      clear k0 k1 k2 k3 k4
      refine ⟨fun b hb => x3.block b (by simp only at hb; omega), ?_⟩
      simp only [cellsC]
      have f3 := hide F3.colAt
      replace f2 := hide (f2.out.extC x3)
      have y3 := hide (y2.out.trans x3)
      clear F3 x3 y2 zv2
      refine Dr.held_act (by rfl) (by rfl) ?_
      go_wp2_with fail
      refine (eqLColumn ⟨ck, cp, cd, cc, cr⟩ r1 r2 r3 r4 t1 t2 t3 t4 s1 s2 s3 s4 u1 u2 u3 u4 v3 f2 f3 hl).mono ?_
      rintro e v4 ⟨rfl, x4⟩
      have zv3 := y3.out.size
      refine ⟨fun b hb => x4.block b (by simp only at hb; omega), ?_⟩
      have k9 := x4.cell kk
      have y4 := hide (y3.out.trans x4)
      clear f2 f3 x4 y3 kk zv3 zv0
      refine Dr.held_q2 (by rfl) ?_
      go_wp2
      refine Dr.held_nil (by rfl) ⟨fun _ => ⟨w.heap.size, 0, rfl, rfl, Dr.isCells_of k9⟩, trivial⟩ ?_
      clear k9
      go_wp2
      go_roundw
      case rel => exact ⟨m + 1, by go_num, by omega, o3.out.ext y4.out, b3.out.trans (But.of_ext y4.out)⟩
      case measure => simp [intOf]; omega
    · obtain rfl : m = 2 := by omega
      clear hm hm2
      have k0 := (hbU.out.ext xM.out) 0 _ rfl
      have k1 := (hbU.out.ext xM.out) 1 _ rfl
      have k2 := (hbU.out.ext xM.out) 2 _ rfl
      have k3 := (hbU.out.ext xM.out) 3 _ rfl
      have k4 := (hbU.out.ext xM.out) 4 _ rfl
      go_wp2_with fail
      clear k0 k1 k2 k3 k4
      refine (scColumn ⟨ck, cp, cd, cc, cr⟩ p1 p2 p3 p4 q1 q2 q3 q4 W.heap.size A wr (OU.out.ext xM.out) (by omega) hl).mono ?_
      rintro e w3 ⟨rfl, b3⟩
      have o3 := hide (oM.out.butS b3 (fun k hk hr => by have := oM.out.block k hk; have := hr.2; omega))
      have xW3 : Hid (Ext W w3) := But.ext ((But.of_ext (xWU.out.trans xM.out)).trans b3) (fun k hr => hr.1)
      have z3 := b3.size
      clear b3 oM bM xM
      go_wp2_with fail
      refine (eqInt XS pg pw qg qw w3 o3.out.ints (iW.out.ext xW3.out) hX).mono ?_
      rintro e w4 ⟨rfl, x4⟩
      have o4 := hide (o3.out.ext x4)
      have xW4 : Hid (Ext W w4) := xW3.out.trans x4
      clear o3 xW3 x4
      go_wp2_with fail
      refine (scInt XS pg qg U.heap.size w4 o4 hX).mono ?_
      rintro e w5 ⟨rfl, g5⟩
      have xW5 : Hid (Ext W w5) := xW4.out.grown g5 (fun k hk => by have := o4.out.block k hk; omega)
      clear g5 o4 xW4
      have k0 := (hbW.out.ext xW5.out) 0 _ rfl
      have k1 := (hbW.out.ext xW5.out) 1 _ rfl
      have k2 := (hbW.out.ext xW5.out) 2 _ rfl
      have k3 := (hbW.out.ext xW5.out) 3 _ rfl
      have k4 := (hbW.out.ext xW5.out) 4 _ rfl
      go_wp2_with fail
      clear k0 k1 k2 k3 k4
      refine (cpColumn ⟨ck, cp, cd, cc, cr⟩ a1 a2 a3 a4 c1 c2 c3 c4 ne w5 (hcW.out.extC xW5.out) hl).mono ?_
      rintro e w6 ⟨r1, r2, r3, r4, s1, s2, s3, s4, rfl, OC, x6⟩
      simp only [cellsC]
      have hc6 := hide OC.colAt
      replace x6 := hide x6
      clear OC
      go_wp2_with fail
      refine (hI.out r1 r2 r3 r4 s1 s2 s3 s4 w6 hc6.out).mono ?_
      rintro e w7 ⟨pz, qz, rfl, oz, x7⟩
      have xW7 : Hid (Ext W w7) := (xW5.out.trans x6.out).trans x7
      have iz := hide oz.ints
      clear oz x7 x6 hc6
      go_wp2_with fail
      refine (eqInt XS pz pw qz qw w7 iz.out (iW.out.ext xW7.out) hX).mono ?_
      rintro e w8 ⟨rfl, x8⟩
      have xV8 : Hid (Ext V w8) := (XW.out.trans xW7.out).trans x8
      clear x8 iz xW7
      go_wp2
      go_roundw
      case rel => exact ⟨k + 1, by go_num, by omega, xV8.out⟩
      case measure => simp [intOf]; omega
  · obtain rfl : k = 2 := by omega
    clear hk hk2
    go_wp2
    go_ret
    exact ⟨rfl, xV.out.trans XW.out⟩

set_option maxHeartbeats 2000000 in
theorem fnExactColumnSelect_big (ck : Int) (cp cd cc : List Int) (cr : List (Int × Int)) (a1 a2 a3 a4 : Option Addr) (c1 c2 c3 c4 : Nat) (n : Int) (ox kx : Int) (w : World) (l1 : cp.length < 2 ^ 45) (l2 : cd.length < 2 ^ 45) (l3 : cc.length < 2 ^ 45) (l4 : cr.length < 2 ^ 45)
    (hsum : 1048576 < (cp.length : Int) + cd.length + cc.length + cr.length) :
    Calls Yacn.prog 6 #[.agg (cellsC ⟨ck, cp, cd, cc, cr⟩ a1 a2 a3 a4 c1 c2 c3 c4).toArray, .int .i64 n, .int .i64 ox, .int .i64 kx] w (TrueE w) := by
  simp only [cellsC]
  go_enter Yacn.func6, Yacn.ntmps6
  go_wp2
  go_ret
  exact ⟨rfl, (Ext.refl w).alloc _⟩


theorem fnExactColumnSelect_walk (ck : Int) (cp cd cc : List Int) (cr : List (Int × Int)) (a1 a2 a3 a4 : Option Addr) (c1 c2 c3 c4 : Nat) (n ox kx : Int) (w : World) (h : ColAt w ⟨ck, cp, cd, cc, cr⟩ a1 a2 a3 a4) (l1 : cp.length < 2 ^ 45) (l2 : cd.length < 2 ^ 45) (l3 : cc.length < 2 ^ 45) (l4 : cr.length < 2 ^ 45) :
    Calls Yacn.prog 6 #[.agg (cellsC ⟨ck, cp, cd, cc, cr⟩ a1 a2 a3 a4 c1 c2 c3 c4).toArray, .int .i64 n, .int .i64 ox, .int .i64 kx] w (TrueE w) := by
  by_cases hsum : 1048576 < (cp.length : Int) + cd.length + cc.length + cr.length
  · exact fnExactColumnSelect_big ck cp cd cc cr a1 a2 a3 a4 c1 c2 c3 c4 n ox kx w l1 l2 l3 l4 hsum
  · by_cases hV : Valid ⟨ck, cp, cd, cc, cr⟩ n ∧ 7 ≤ ox ∧ ox ≤ 12
    · obtain ⟨hV, h7, h12⟩ := hV
      have hdl := dec_len _ _ hV
      have hn := hV.2.1
      have hsl := selTo_len ox kx (dec ⟨ck, cp, cd, cc, cr⟩) (dec ⟨ck, cp, cd, cc, cr⟩).length
      refine fnExactColumnSelect_main ck cp cd cc cr a1 a2 a3 a4 c1 c2 c3 c4 n ox kx w h (by omega) (selTo ox kx (dec ⟨ck, cp, cd, cc, cr⟩) (dec ⟨ck, cp, cd, cc, cr⟩).length) true (by omega) ?_ ?_
      · intro a1 a2 a3 a4 c1 c2 c3 c4 w hc
        exact ColumnSelect_yes ck n ox kx cp cd cc cr a1 a2 a3 a4 c1 c2 c3 c4 w hc (by omega) (by omega) (by omega) hV h7 h12
      · intro a1 a2 a3 a4 c1 c2 c3 c4 w hc
        exact RefColumnSelect_yes ck n ox kx cp cd cc cr a1 a2 a3 a4 c1 c2 c3 c4 w hc (by omega) (by omega) (by omega) hV (by omega) (by omega)
    · have hno : ¬ Valid ⟨ck, cp, cd, cc, cr⟩ n ∨ ox < 7 ∨ 12 < ox := by
        by_cases hv : Valid ⟨ck, cp, cd, cc, cr⟩ n
        · right
          have : ¬ (7 ≤ ox ∧ ox ≤ 12) := fun hh => hV ⟨hv, hh⟩
          omega
        · exact .inl hv
      refine fnExactColumnSelect_main ck cp cd cc cr a1 a2 a3 a4 c1 c2 c3 c4 n ox kx w h (by omega) [] false (by simp) ?_ ?_
      · intro a1 a2 a3 a4 c1 c2 c3 c4 w hc
        refine (ColumnSelect_no ck n ox kx cp cd cc cr a1 a2 a3 a4 c1 c2 c3 c4 w hc (by omega) (by omega) (by omega) hno).mono ?_
        rintro e w' ⟨rfl, hx⟩
        exact ⟨none, 0, rfl, OwnI.nil _ _ _, hx⟩
      · intro a1 a2 a3 a4 c1 c2 c3 c4 w hc
        refine (RefColumnSelect_no ck n ox kx cp cd cc cr a1 a2 a3 a4 c1 c2 c3 c4 w hc (by omega) (by omega) (by omega) hno).mono ?_
        rintro e w' ⟨rfl, hx⟩
        exact ⟨none, 0, rfl, OwnI.nil _ _ _, hx⟩
end Go.Proofs.Ybyacw
