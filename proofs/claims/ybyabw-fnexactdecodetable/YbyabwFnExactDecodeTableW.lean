/- Walk: laws.FnExactDecodeTable -/
import Derived.Test.YbyabwTabN
import Derived.Test.YbyabwRowM
import Derived.Test.YbyabwRefDecTab
namespace Go.Proofs.Ybyabw
open Go.RowKit
set_option maxRecDepth 100000
set_option linter.unusedVariables false

def TrueE (w : World) : Ending → World → Prop := fun e w' => e = .returned (.bool true) ∧ Ext w w'

set_option maxHeartbeats 1000000 in
theorem fnExactDecodeTable_big (cs : List Col) (n : Int) (a : Option Addr) (cap : Nat) (w : World) (lc : cs.length < 2 ^ 45) (hb : 1048576 < (cs.length : Int)) :
    Calls Yabn.prog 11 #[.agg #[.int .i64 n, .slice a cs.length cap]] w (TrueE w) := by
  go_enter Yabn.func11, Yabn.ntmps11
  go_wp2
  go_ret
  exact ⟨rfl, (Ext.refl w).alloc _⟩

set_option maxHeartbeats 16000000 in
theorem fnExactDecodeTable_main (cs : List Col) (n : Int) (a : Option Addr) (cap : Nat) (w : World) (hW0 : Hid (ColsAtW w a cs)) (lc : (cs.length : Int) ≤ 1048576)
    (N : Nat) (F : Nat → List Int) (B : Bool) (hN : N < 2 ^ 39) (hF : Hid (∀ i, i < N → (F i).length < 2 ^ 39))
    (hI : Hid (∀ a cap w, ColsAt w a cs → Calls Yabn.prog 52 #[.agg #[.int .i64 n, .slice a cs.length cap]] w (RetRV N F B w)))
    (hS : Hid (∀ a cap w, ColsAt w a cs → Calls Yabn.prog 51 #[.agg #[.int .i64 n, .slice a cs.length cap]] w (RetRI N F B w))) :
    Calls Yabn.prog 11 #[.agg #[.int .i64 n, .slice a cs.length cap]] w (TrueE w) := by
  have hbX : Box (w.alloc (.cells #[.int .i64 n, .slice a cs.length cap] 34)) w.heap.size _ := Box.new w _ _
  have xX : Ext w (w.alloc (.cells #[.int .i64 n, .slice a cs.length cap] 34)) := (Ext.refl w).alloc _
  replace hbX := hide hbX
  replace xX := hide xX
  go_enter Yabn.func11, Yabn.ntmps11
  go_wp2
  generalize (w.alloc (.cells #[.int .i64 n, .slice a cs.length cap] 34)) = X at *
  go_loopw [3, 4] (fun s i wr => ∃ (k t : Nat), s = .int .i64 t ∧ i = .int .i64 k ∧ k ≤ cs.length ∧ Hid (t = cs.length + szTo cs k) ∧ t ≤ 1048576 ∧ Hid (Ext X wr)) (fun _ i _ => cs.length - (intOf i).toNat)
  case atStart => exact ⟨0, cs.length, by go_num, rfl, by omega, (by simp [Hid, szTo]), by omega, Ext.refl X⟩
  obtain ⟨k, t, rfl, rfl, hk, ht, htb, hext⟩ := hrel
  have k0 := (hbX.out.ext hext.out) 0 _ rfl
  have k1 := (hbX.out.ext hext.out) 1 _ rfl
  have htI : (t : Int) ≤ 1048576 := by omega
  by_cases hlt : k < cs.length
  · have hlt' : (k : Int) < cs.length := by omega
    obtain ⟨b, off, a1, a2, a3, a4, c1, c2, c3, c4, rfl, ⟨g0, g1, g2, g3, g4⟩, _, hcl⟩ := (hW0.out.ext (xX.out.trans hext.out)) k hlt
    have hs1 := szTo_succ cs k hlt
    have htt := ht.out
    have l1 := hcl.plain
    have l2 := hcl.dict
    have l3 := hcl.codes
    have l4 := hcl.runs
    generalize cs.getD k col0 = C at *
    obtain ⟨ck, cp, cd, cc, cr⟩ := C
    simp only [szc] at g0 g1 g2 g3 g4 hs1 l1 l2 l3 l4
    have hnt : Hid (t + (cp.length + cd.length + cc.length + cr.length) = cs.length + szTo cs (k + 1)) := by simp only [Hid]; omega
    clear hs1 htt hcl
    by_cases hov : 1048576 < (t : Int) + cp.length + cd.length + cc.length + cr.length
    · go_wp2
      go_ret
      exact ⟨rfl, xX.out.trans hext.out⟩
    · go_wp2
      go_roundw
      case rel => exact ⟨k + 1, t + (cp.length + cd.length + cc.length + cr.length), by go_num, by go_num, by omega, hnt.out, by omega, hext.out⟩
      case measure => simp [intOf]; omega
  obtain rfl : k = cs.length := by omega
  clear hlt hk
  have hl : Hid (∀ i, i < cs.length → LenC (cs.getD i col0)) := fun i hi => by
    have h1 := szTo_len cs i hi
    have h2 := ht.out
    unfold szc at h1
    exact ⟨by omega, by omega, by omega, by omega⟩
  have lc2 : cs.length < 2 ^ 39 := by omega
  have h : Hid (ColsAt w a cs) := hW0.out.small hl.out
  clear hW0
  have X0 : Hid (Ext w wr) := xX.out.trans hext.out
  have hb0 := hide (hbX.out.ext hext.out)
  clear hbX hext xX
  obtain ⟨V0, rfl⟩ : ∃ V0, V0 = wr := ⟨_, rfl⟩
  replace htb := hide htb
  go_wp2_with fail
  clear k0 k1
  refine (szTable cs n a cap V0 (h.out.ext X0.out) t ht htb).mono ?_
  rintro e w1 ⟨rfl, x1⟩
  have hb1 := hide (hb0.out.ext x1)
  have X1 : Hid (Ext w w1) := X0.out.trans x1
  clear x1 hb0 X0
  have k0 := hb1.out 0 _ rfl
  have k1 := hb1.out 1 _ rfl
  go_wp2_with fail
  clear k0 k1
  refine (cpTable cs n a cap false w1 (h.out.ext X1.out) hl lc2).mono ?_
  rintro e w2 ⟨pb, qb, rfl, OT, x2⟩
  have hc2 := hide (OT.at hl.out)
  have hb2 := hide (hb1.out.ext x2)
  have X2 : Hid (Ext w w2) := X1.out.trans x2
  clear OT x2 X1 hb1
  go_wp2_with fail
  refine (hS.out pb qb w2 hc2.out).mono ?_
  rintro e V ⟨pw, qw, rfl, iV, x3⟩
  have hbV := hide (hb2.out.ext x3)
  have xV : Hid (Ext w V) := X2.out.trans x3
  have zV : w.heap.size < V.heap.size := cell_lt (hbV.out 0 _ rfl)
  have hbb : (B != B) = false := by simp
  replace iV := hide iV
  clear x3 X2 hb2 hc2 hS
  go_wp2_with fail
  go_loopw [7] (fun i wr => ∃ k : Nat, i = .int .i64 k ∧ k ≤ 2 ∧ Hid (Ext V wr)) (fun i _ => 2 - (intOf i).toNat)
  case atStart => exact ⟨0, rfl, by omega, Ext.refl V⟩
  obtain ⟨k, rfl, hk, XW⟩ := hrel
  by_cases hk2 : k < 2
  · have hk2' : (k : Int) < 2 := by omega
    generalize hne : ((k : Int) == 1) = ne
    replace hne := hide hne
    obtain ⟨W, rfl⟩ : ∃ W, W = wr := ⟨_, rfl⟩
    have hbW := hide (hbV.out.ext XW.out)
    have iW := hide (iV.out.ext XW.out)
    have hcW := hide (h.out.ext (xV.out.trans XW.out))
    have zW := XW.out.size
    have k0 := hbW.out 0 _ rfl
    have k1 := hbW.out 1 _ rfl
    go_wp2_with fail
    rw [hne.out]
    clear k0 k1
    refine (cpTable cs n a cap ne W hcW hl lc2).mono ?_
    rintro e w1 ⟨pa, qa, rfl, OT, x1⟩
    have z1 := x1.size
    have hbU : Box (w1.alloc (.cells #[.int .i64 n, .slice pa cs.length qa] 34)) w1.heap.size _ := Box.new w1 _ _
    have xWU : Ext W (w1.alloc (.cells #[.int .i64 n, .slice pa cs.length qa] 34)) := x1.alloc _
    have hsU : (w1.alloc (.cells #[.int .i64 n, .slice pa cs.length qa] 34)).heap.size = w1.heap.size + 1 := by simp
    have hcU := (OT.ext ((Ext.refl w1).alloc (.cells #[.int .i64 n, .slice pa cs.length qa] 34))).at hl.out
    have OU := OT.top.ext ((Ext.refl w1).alloc (.cells #[.int .i64 n, .slice pa cs.length qa] 34))
    replace hbU := hide hbU
    replace xWU := hide xWU
    replace OU := hide OU
    replace hcU := hide hcU
    clear OT x1
    go_wp2_with fail
    generalize (w1.alloc (.cells #[.int .i64 n, .slice pa cs.length qa] 34)) = U at *
    generalize w1.heap.size = A at *
    refine (hI.out pa qa U hcU.out).mono ?_
    rintro e w2 ⟨pg, qg, rfl, og, xU⟩
    have hbX := hide (hbW.out.ext xWU.out)
    have iU := hide (iW.out.ext xWU.out)
    have hcX := hide (hcW.out.ext xWU.out)
    have z2 := xU.size
    replace og := hide og
    replace xU := hide xU
    go_wp2
    refine Dr.region_held (fun b => b = w.heap.size) [12] (by kernel_rfl) ?_
    refine Dr.held_q6 (by rfl) ?_
    go_wp2
    refine Dr.held_act (by rfl) (by rfl) ?_
    go_wp2_with fail
    refine (eqRows N F pg pw qg qw _ (og.out.at.ext (Ext.refl _).drew) (iU.out.ext xU.out.drew) hF hN).mono ?_
    rintro e v1 ⟨rfl, x2⟩
    refine ⟨fun b hb => x2.block b (by simp only at hb; simp only [World.drew]; omega), ?_⟩
    have y1 : Hid (Ext w2 v1) := (Ext.refl w2).drew.trans x2
    clear x2
    have k0 := (hbU.out.ext (xU.out.trans y1.out)) 0 _ rfl
    have k1 := (hbU.out.ext (xU.out.trans y1.out)) 1 _ rfl
    refine Dr.held_q4 (by rfl) ?_
    go_wp2
    refine Dr.held_act (by rfl) (by rfl) ?_
    go_wp2_with fail
    clear k0 k1
    refine (cvTable cs n pa qa v1 (hcU.out.ext (xU.out.trans y1.out)) hl lc2).mono ?_
    rintro e v2 ⟨pr, qr, rfl, f2, x2⟩
    have zv1 := y1.out.size
    have zv0 := xU.out.size
    refine ⟨fun b hb => x2.block b (by simp only at hb; omega), ?_⟩
    have y2 := hide (y1.out.trans x2)
    replace f2 := hide f2
    clear x2 y1 zv1
    have k0 := (hbX.out.ext (xU.out.trans y2.out)) 0 _ rfl
    have k1 := (hbX.out.ext (xU.out.trans y2.out)) 1 _ rfl
    refine Dr.held_q1 (by rfl) ?_
    go_wp2
    refine Dr.held_act (by rfl) (by rfl) ?_
    go_wp2_with fail
    refine (cvTable cs n a cap v2 (hcX.out.ext (xU.out.trans y2.out)) hl lc2).mono ?_
    rintro e v3 ⟨pt, qt, rfl, f3, x3⟩
    have zv2 := y2.out.size
    have kk := x3.cell k0
    clear k0 k1
    refine ⟨fun b hb => x3.block b (by simp only at hb; omega), ?_⟩
    replace f2 := hide (f2.out.ext x3)
    replace f3 := hide f3
    have y3 := hide (y2.out.trans x3)
    clear x3 y2 zv2
    refine Dr.held_act (by rfl) (by rfl) ?_
    go_wp2_with fail
    refine (eqLTable cs n pr pt qr qt v3 f2 f3 hl lc2).mono ?_
    rintro e v4 ⟨rfl, x4⟩
    have zv3 := y3.out.size
    refine ⟨fun b hb => x4.block b (by simp only at hb; omega), ?_⟩
    have k9 := x4.cell kk
    have y4 := hide (y3.out.trans x4)
    clear f2 f3 x4 y3 kk zv3 zv0
    refine Dr.held_q2 (by rfl) ?_
    go_wp2
    refine Dr.held_nil (by rfl) ⟨fun _ => ⟨w.heap.size, 0, rfl, rfl, Dr.isCells_of k9⟩, trivial⟩ ?_
    clear k9
    go_wp2
    have oG := hide (og.out.ext y4.out)
    have bG : Hid (But (Rng U.heap.size w2.heap.size) w2 v4) := But.of_ext y4.out
    clear y4
    go_loopw [12] (fun i wr => ∃ m : Nat, i = .int .i64 m ∧ m ≤ 2 ∧ Hid (OwnRows wr U.heap.size w2.heap.size pg qg N F) ∧ Hid (But (Rng U.heap.size w2.heap.size) w2 wr)) (fun i _ => 2 - (intOf i).toNat)
    case atStart => exact ⟨0, rfl, by omega, oG, bG⟩
    clear oG bG
    obtain ⟨m, rfl, hm, oM, bM⟩ := hrel
    have zM := bM.out.size
    have xM : Hid (Ext U wr) := But.ext ((But.of_ext xU.out).trans bM.out) (fun k hr => hr.1)
    by_cases hm2 : m < 2
    · have hm2' : (m : Int) < 2 := by omega
      go_wp2_with fail
      refine (prRows N F pg qg U.heap.size w2.heap.size m (by omega) (by omega) wr oM hF hN).mono ?_
      rintro e w3 ⟨rfl, o3, g3⟩
      have b3 : Hid (But (Rng U.heap.size w2.heap.size) w2 w3) := bM.out.trans g3
      have x3 : Hid (Ext U w3) := But.ext ((But.of_ext xU.out).trans b3.out) (fun k hr => hr.1)
      replace o3 := hide o3
      clear g3 oM bM xM xU
      have xU := x3
      have z3 := xU.out.size
      go_wp2
      refine Dr.region_held (fun b => b = w.heap.size) [7] (by kernel_rfl) ?_
      refine Dr.held_q2 (by rfl) ?_
      go_wp2
      refine Dr.held_act (by rfl) (by rfl) ?_
      go_wp2_with fail
      refine (eqRows N F pg pw qg qw _ (o3.out.at.ext (Ext.refl _).drew) (iU.out.ext xU.out.drew) hF hN).mono ?_
      rintro e v1 ⟨rfl, x2⟩
      refine ⟨fun b hb => x2.block b (by simp only at hb; simp only [World.drew]; omega), ?_⟩
      have y1 : Hid (Ext w3 v1) := (Ext.refl w3).drew.trans x2
      clear x2
      have k0 := (hbU.out.ext (xU.out.trans y1.out)) 0 _ rfl
      have k1 := (hbU.out.ext (xU.out.trans y1.out)) 1 _ rfl
      refine Dr.held_q3 (by rfl) ?_
      go_wp2
      refine Dr.held_act (by rfl) (by rfl) ?_
      go_wp2_with fail
      clear k0 k1
      refine (cvTable cs n pa qa v1 (hcU.out.ext (xU.out.trans y1.out)) hl lc2).mono ?_
      rintro e v2 ⟨pr, qr, rfl, f2, x2⟩
      have zv1 := y1.out.size
      have zv0 := xU.out.size
      refine ⟨fun b hb => x2.block b (by simp only at hb; omega), ?_⟩
      have y2 := hide (y1.out.trans x2)
      replace f2 := hide f2
      clear x2 y1 zv1
      have k0 := (hbX.out.ext (xU.out.trans y2.out)) 0 _ rfl
      have k1 := (hbX.out.ext (xU.out.trans y2.out)) 1 _ rfl
      refine Dr.held_q1 (by rfl) ?_
      go_wp2
      refine Dr.held_act (by rfl) (by rfl) ?_
      go_wp2_with fail
      refine (cvTable cs n a cap v2 (hcX.out.ext (xU.out.trans y2.out)) hl lc2).mono ?_
      rintro e v3 ⟨pt, qt, rfl, f3, x3⟩
      have zv2 := y2.out.size
      have kk := x3.cell k0
      clear k0 k1
      refine ⟨fun b hb => x3.block b (by simp only at hb; omega), ?_⟩
      replace f2 := hide (f2.out.ext x3)
      replace f3 := hide f3
      have y3 := hide (y2.out.trans x3)
      clear x3 y2 zv2
      refine Dr.held_act (by rfl) (by rfl) ?_
      go_wp2_with fail
      refine (eqLTable cs n pr pt qr qt v3 f2 f3 hl lc2).mono ?_
      rintro e v4 ⟨rfl, x4⟩
      have zv3 := y3.out.size
      refine ⟨fun b hb => x4.block b (by simp only at hb; omega), ?_⟩
      have k9 := x4.cell kk
      have y4 := hide (y3.out.trans x4)
      clear f2 f3 x4 y3 kk zv3 zv0
      refine Dr.held_q2 (by rfl) ?_
      go_wp2
      refine Dr.held_nil (by rfl) ⟨fun _ => ⟨w.heap.size, 0, rfl, rfl, Dr.isCells_of k9⟩, trivial⟩ ?_
      clear k9
      go_wp2
      go_roundw
      case rel => exact ⟨m + 1, by go_num, by omega, o3.out.ext y4.out, b3.out.trans (But.of_ext y4.out)⟩
      case measure => simp [intOf]; omega
    · obtain rfl : m = 2 := by omega
      clear hm hm2
      have k0 := (hbU.out.ext xM.out) 0 _ rfl
      have k1 := (hbU.out.ext xM.out) 1 _ rfl
      go_wp2_with fail
      clear k0 k1
      refine (scTableT cs n pa qa W.heap.size A wr (OU.out.ext xM.out) (by omega) hl lc2).mono ?_
      rintro e w3 ⟨rfl, b3⟩
      have o3 := hide (oM.out.but b3 (fun q q1 q2 hr => by have := hr.2; omega))
      have xW3 : Hid (Ext W w3) := But.ext ((But.of_ext (xWU.out.trans xM.out)).trans b3) (fun k hr => hr.1)
      have z3 := b3.size
      clear b3 oM bM xM
      go_wp2_with fail
      refine (eqRows N F pg pw qg qw w3 o3.out.at (iW.out.ext xW3.out) hF hN).mono ?_
      rintro e w4 ⟨rfl, x4⟩
      have o4 := hide (o3.out.ext x4)
      have xW4 : Hid (Ext W w4) := xW3.out.trans x4
      have z4 := x4.size
      clear o3 xW3 x4
      go_wp2_with fail
      refine (sepRows N F pg qg U.heap.size w2.heap.size w4 o4 (by omega) hF hN).mono ?_
      rintro e w5 ⟨rfl, o5, b5⟩
      have xW5 : Hid (Ext W w5) := But.ext ((But.of_ext xW4.out).trans b5) (fun k hr => by have := hr.1; omega)
      have z5 := b5.size
      have hF2 : Hid (∀ i, i < N → ((fun j => (F j).map inc1) i).length < 2 ^ 39) := fun i hi => by simpa using hF.out i hi
      replace o5 := hide o5
      clear b5 o4 xW4
      go_wp2_with fail
      refine (scRows N (fun j => (F j).map inc1) pg qg U.heap.size w2.heap.size w5 o5.out hF2 hN (by omega)).mono ?_
      rintro e w6 ⟨rfl, b6⟩
      have xW6 : Hid (Ext W w6) := Below.trans xW5.out (b6.mono (by omega))
      clear b6 o5 xW5 hF2
      have k0 := (hbW.out.ext xW6.out) 0 _ rfl
      have k1 := (hbW.out.ext xW6.out) 1 _ rfl
      go_wp2_with fail
      clear k0 k1
      refine (cpTable cs n a cap ne w6 (hcW.out.ext xW6.out) hl lc2).mono ?_
      rintro e w7 ⟨pz, qz, rfl, OZ, x7⟩
      have hc7 := hide (OZ.at hl.out)
      replace x7 := hide x7
      clear OZ
      go_wp2_with fail
      refine (hI.out pz qz w7 hc7.out).mono ?_
      rintro e w8 ⟨py, qy, rfl, oy, x8⟩
      have xW8 : Hid (Ext W w8) := (xW6.out.trans x7.out).trans x8
      have iy := hide oy.at
      clear oy x8 x7 hc7
      go_wp2_with fail
      refine (eqRows N F py pw qy qw w8 iy.out (iW.out.ext xW8.out) hF hN).mono ?_
      rintro e w9 ⟨rfl, x9⟩
      have xV9 : Hid (Ext V w9) := (XW.out.trans xW8.out).trans x9
      clear x9 iy xW8
      go_wp2
      go_roundw
      case rel => exact ⟨k + 1, by go_num, by omega, xV9.out⟩
      case measure => simp [intOf]; omega
  · obtain rfl : k = 2 := by omega
    clear hk hk2
    go_wp2
    go_ret
    exact ⟨rfl, xV.out.trans XW.out⟩

theorem fnExactDecodeTable_walk (cs : List Col) (n : Int) (a : Option Addr) (cap : Nat) (w : World) (h : ColsAtW w a cs) (lc : cs.length < 2 ^ 45) :
    Calls Yabn.prog 11 #[.agg #[.int .i64 n, .slice a cs.length cap]] w (TrueE w) := by
  by_cases hb : 1048576 < (cs.length : Int)
  · exact fnExactDecodeTable_big cs n a cap w lc hb
  · by_cases hV : ValidT cs n
    · obtain ⟨N, rfl⟩ := Int.eq_ofNat_of_zero_le hV.1
      have hn := hV.2.1
      have hcl := hV.2.2.1
      refine fnExactDecodeTable_main cs N a cap w h (by omega) N (rowT cs) true (by omega) (fun i _ => by rw [rowT_len]; omega) ?_ ?_
      · intro a cap w hc
        exact DecodeTable_yes cs N a cap w hc hcl (by omega) hV
      · intro a cap w hc
        exact RefDecodeTable_yes cs N a cap w hc hcl (by omega) hV
    · refine fnExactDecodeTable_main cs n a cap w h (by omega) 0 (fun _ => []) false (by omega) (fun i hi => by omega) ?_ ?_
      · intro a cap w hc
        exact DecodeTable_no cs n a cap w hc (by omega) hV _
      · intro a cap w hc
        exact RefDecodeTable_no cs n a cap w hc (by omega) hV _
end Go.Proofs.Ybyabw
