/- Walk: laws.FnExactValidTable -/
import Derived.Test.YbyabwTabW
namespace Go.Proofs.Ybyabw
open Go.RowKit
set_option maxRecDepth 100000
set_option linter.unusedVariables false

def TrueE (w : World) : Ending → World → Prop := fun e w' => e = .returned (.bool true) ∧ Ext w w'

set_option maxHeartbeats 1000000 in
theorem fnExactValidTable_big (cs : List Col) (n : Int) (a : Option Addr) (cap : Nat) (w : World) (lc : cs.length < 2 ^ 45) (hb : 1048576 < (cs.length : Int)) :
    Calls Yabn.prog 9 #[.agg #[.int .i64 n, .slice a cs.length cap]] w (TrueE w) := by
  go_enter Yabn.func9, Yabn.ntmps9
  go_wp2
  go_ret
  exact ⟨rfl, (Ext.refl w).alloc _⟩

set_option maxHeartbeats 16000000 in
theorem fnExactValidTable_main (cs : List Col) (n : Int) (a : Option Addr) (cap : Nat) (w : World) (hW0 : Hid (ColsAtW w a cs)) (lc : (cs.length : Int) ≤ 1048576) :
    Calls Yabn.prog 9 #[.agg #[.int .i64 n, .slice a cs.length cap]] w (TrueE w) := by
  have hbX : Box (w.alloc (.cells #[.int .i64 n, .slice a cs.length cap] 34)) w.heap.size _ := Box.new w _ _
  have xX : Ext w (w.alloc (.cells #[.int .i64 n, .slice a cs.length cap] 34)) := (Ext.refl w).alloc _
  replace hbX := hide hbX
  replace xX := hide xX
  go_enter Yabn.func9, Yabn.ntmps9
  go_wp2
  generalize (w.alloc (.cells #[.int .i64 n, .slice a cs.length cap] 34)) = X at *
  go_loopw [3, 4] (fun s i wr => ∃ (k t : Nat), s = .int .i64 t ∧ i = .int .i64 k ∧ k ≤ cs.length ∧ Hid (t = cs.length + szTo cs k) ∧ t ≤ 1048576 ∧ Hid (Ext X wr)) (fun _ i _ => cs.length - (intOf i).toNat)
  case atStart => exact ⟨0, cs.length, by go_num, rfl, by omega, (by simp [Hid, szTo]), by omega, Ext.refl X⟩
  obtain ⟨k, t, rfl, rfl, hk, ht, htb, hext⟩ := hrel
  have k0 := (hbX.out.ext hext.out) 0 _ rfl
  have k1 := (hbX.out.ext hext.out) 1 _ rfl
  have htI : (t : Int) ≤ 1048576 := by omega
  by_cases hlt : k < cs.length
  · have hlt' : (k : Int) < cs.length := by omega
    obtain ⟨b, off, a1, a2, a3, a4, c1, c2, c3, c4, rfl, ⟨g0, g1, g2, g3, g4⟩, _, hcl⟩ := (hW0.out.ext (xX.out.trans hext.out)) k hlt
    have hs1 := szTo_succ cs k hlt
    have htt := ht.out
    have l1 := hcl.plain
    have l2 := hcl.dict
    have l3 := hcl.codes
    have l4 := hcl.runs
    generalize cs.getD k col0 = C at *
    obtain ⟨ck, cp, cd, cc, cr⟩ := C
    simp only [szc] at g0 g1 g2 g3 g4 hs1 l1 l2 l3 l4
    have hnt : Hid (t + (cp.length + cd.length + cc.length + cr.length) = cs.length + szTo cs (k + 1)) := by simp only [Hid]; omega
    clear hs1 htt hcl
    by_cases hov : 1048576 < (t : Int) + cp.length + cd.length + cc.length + cr.length
    · go_wp2
      go_ret
      exact ⟨rfl, xX.out.trans hext.out⟩
    · go_wp2
      go_roundw
      case rel => exact ⟨k + 1, t + (cp.length + cd.length + cc.length + cr.length), by go_num, by go_num, by omega, hnt.out, by omega, hext.out⟩
      case measure => simp [intOf]; omega
  obtain rfl : k = cs.length := by omega
  clear hlt hk
  have hl : Hid (∀ i, i < cs.length → LenC (cs.getD i col0)) := fun i hi => by
    have h1 := szTo_len cs i hi
    have h2 := ht.out
    unfold szc at h1
    exact ⟨by omega, by omega, by omega, by omega⟩
  have lc2 : cs.length < 2 ^ 39 := by omega
  have h : Hid (ColsAt w a cs) := hW0.out.small hl.out
  clear hW0
  have X0 : Hid (Ext w wr) := xX.out.trans hext.out
  have hb0 := hide (hbX.out.ext hext.out)
  clear hbX hext xX
  obtain ⟨V0, rfl⟩ : ∃ V0, V0 = wr := ⟨_, rfl⟩
  replace htb := hide htb
  go_wp2_with fail
  clear k0 k1
  refine (szTable cs n a cap V0 (h.out.ext X0.out) t ht htb).mono ?_
  rintro e w1 ⟨rfl, x1⟩
  have hb1 := hide (hb0.out.ext x1)
  have X1 : Hid (Ext w w1) := X0.out.trans x1
  clear x1 hb0 X0
  have k0 := hb1.out 0 _ rfl
  have k1 := hb1.out 1 _ rfl
  go_wp2_with fail
  clear k0 k1
  refine (cpTable cs n a cap false w1 (h.out.ext X1.out) hl lc2).mono ?_
  rintro e w2 ⟨pb, qb, rfl, OT, x2⟩
  have hc2 := hide (OT.at hl.out)
  have hb2 := hide (hb1.out.ext x2)
  have X2 : Hid (Ext w w2) := X1.out.trans x2
  clear OT x2 X1 hb1
  go_wp2_with fail
  refine (RefValidTable cs n pb qb w2 hc2.out (by omega)).mono ?_
  rintro e V ⟨B, rfl, hB, x3⟩
  have hbV := hide (hb2.out.ext x3)
  have xV : Hid (Ext w V) := X2.out.trans x3
  have zV : w.heap.size < V.heap.size := cell_lt (hbV.out 0 _ rfl)
  have hV : Hid (∀ a cap w, ColsAt w a cs → Calls Yabn.prog 19 #[.agg #[.int .i64 n, .slice a cs.length cap]] w (fun en w' => en = .returned (.bool B) ∧ Ext w w')) := fun a cap w hh => by
    refine (ValidTable cs n a cap w hh (by omega)).mono ?_
    rintro e w' ⟨b2, rfl, hb2, hx⟩
    have : b2 = B := by
      cases b2 <;> cases B <;> simp_all
    exact ⟨by rw [this], hx⟩
  have hbb : (B != B) = false := by simp
  clear hB x3 X2 hb2 hc2
  go_wp2_with fail
  go_loopw [6] (fun i wr => ∃ k : Nat, i = .int .i64 k ∧ k ≤ 2 ∧ Hid (Ext V wr)) (fun i _ => 2 - (intOf i).toNat)
  case atStart => exact ⟨0, rfl, by omega, Ext.refl V⟩
  obtain ⟨k, rfl, hk, XW⟩ := hrel
  by_cases hk2 : k < 2
  · have hk2' : (k : Int) < 2 := by omega
    generalize hne : ((k : Int) == 1) = ne
    replace hne := hide hne
    obtain ⟨W, rfl⟩ : ∃ W, W = wr := ⟨_, rfl⟩
    have hbW := hide (hbV.out.ext XW.out)
    have hcW := hide (h.out.ext (xV.out.trans XW.out))
    have zW := XW.out.size
    have k0 := hbW.out 0 _ rfl
    have k1 := hbW.out 1 _ rfl
    go_wp2_with fail
    rw [hne.out]
    clear k0 k1
    refine (cpTable cs n a cap ne W hcW hl lc2).mono ?_
    rintro e w1 ⟨pa, qa, rfl, OT, x1⟩
    have z1 := x1.size
    have hbU : Box (w1.alloc (.cells #[.int .i64 n, .slice pa cs.length qa] 34)) w1.heap.size _ := Box.new w1 _ _
    have xWU : Ext W (w1.alloc (.cells #[.int .i64 n, .slice pa cs.length qa] 34)) := x1.alloc _
    have hsU : (w1.alloc (.cells #[.int .i64 n, .slice pa cs.length qa] 34)).heap.size = w1.heap.size + 1 := by simp
    have OU := OT.ext ((Ext.refl w1).alloc (.cells #[.int .i64 n, .slice pa cs.length qa] 34))
    replace hbU := hide hbU
    replace xWU := hide xWU
    replace OU := hide OU
    clear OT x1
    go_wp2_with fail
    generalize (w1.alloc (.cells #[.int .i64 n, .slice pa cs.length qa] 34)) = U at *
    generalize w1.heap.size = A at *
    have hcU := hide (OU.out.at hl.out)
    refine (hV.out pa qa U hcU.out).mono ?_
    rintro e w2 ⟨rfl, xU⟩
    have hbX := hide (hbW.out.ext xWU.out)
    have hcX := hide (hcW.out.ext xWU.out)
    have z2 := xU.size
    replace xU := hide xU
    have k0 := (hbU.out.ext xU.out) 0 _ rfl
    have k1 := (hbU.out.ext xU.out) 1 _ rfl
    go_wp2
    refine Dr.region_held (fun b => b = w.heap.size) [6] (by kernel_rfl) ?_
    refine Dr.held_q5 (by rfl) ?_
    go_wp2
    refine Dr.held_act (by rfl) (by rfl) ?_
    go_wp2_with fail
    clear k0 k1
    refine (cvTable cs n pa qa _ (hcU.out.ext xU.out.drew) hl lc2).mono ?_
    rintro e v1 ⟨pr, qr, rfl, f1, x2⟩
    refine ⟨fun b hb => x2.block b (by simp only at hb; simp only [World.drew]; omega), ?_⟩
    have y1 : Hid (Ext w2 v1) := (Ext.refl w2).drew.trans x2
    have s1 := y1.out.size
    replace f1 := hide f1
    clear x2
    have k0 := (hbX.out.ext (xU.out.trans y1.out)) 0 _ rfl
    have k1 := (hbX.out.ext (xU.out.trans y1.out)) 1 _ rfl
    refine Dr.held_q1 (by rfl) ?_
    go_wp2
    refine Dr.held_act (by rfl) (by rfl) ?_
    go_wp2_with fail
    refine (cvTable cs n a cap v1 (hcX.out.ext (xU.out.trans y1.out)) hl lc2).mono ?_
    rintro e v2 ⟨pt, qt, rfl, f2, x2⟩
    refine ⟨fun b hb => x2.block b (by simp only at hb; omega), ?_⟩
    have kk := x2.cell k0
    have y2 : Hid (Ext w2 v2) := y1.out.trans x2
    have s2 := y2.out.size
    replace f1 := hide (f1.out.ext x2)
    replace f2 := hide f2
    clear x2 k0 k1 y1
    refine Dr.held_act (by rfl) (by rfl) ?_
    go_wp2_with fail
    refine (eqLTable cs n pr pt qr qt v2 f1 f2 hl lc2).mono ?_
    rintro e v3 ⟨rfl, x3⟩
    refine ⟨fun b hb => x3.block b (by simp only at hb; omega), ?_⟩
    have k9 := x3.cell kk
    have y3 : Hid (Ext U v3) := (xU.out.trans y2.out).trans x3
    clear x3 kk f1 f2 y2
    refine Dr.held_q2 (by rfl) ?_
    go_wp2
    refine Dr.held_nil (by rfl) ⟨fun _ => ⟨w.heap.size, 0, rfl, rfl, Dr.isCells_of k9⟩, trivial⟩ ?_
    clear k9
    have zy3 := y3.out.size
    have k0 := (hbU.out.ext y3.out) 0 _ rfl
    have k1 := (hbU.out.ext y3.out) 1 _ rfl
    go_wp2_with fail
    clear k0 k1
    refine (scTable cs n pa qa W.heap.size v3 (OU.out.ext y3.out) (by omega) hl lc2).mono ?_
    rintro e v4 ⟨rfl, b4⟩
    have xW4 : Hid (Ext W v4) := Below.trans (xWU.out.trans y3.out) b4
    clear b4 y3
    have k0 := (hbW.out.ext xW4.out) 0 _ rfl
    have k1 := (hbW.out.ext xW4.out) 1 _ rfl
    go_wp2_with fail
    clear k0 k1
    refine (cpTable cs n a cap ne v4 (hcW.out.ext xW4.out) hl lc2).mono ?_
    rintro e v5 ⟨pz, qz, rfl, OZ, x5⟩
    have hc5 := hide (OZ.at hl.out)
    replace x5 := hide x5
    clear OZ
    go_wp2_with fail
    refine (hV.out pz qz v5 hc5.out).mono ?_
    rintro e v6 ⟨rfl, x6⟩
    have xV6 : Hid (Ext V v6) := ((XW.out.trans xW4.out).trans x5.out).trans x6
    clear x6 x5 hc5 xW4
    go_wp2
    go_roundw
    case rel => exact ⟨k + 1, by go_num, by omega, xV6.out⟩
    case measure => simp [intOf]; omega
  · obtain rfl : k = 2 := by omega
    clear hk hk2
    go_wp2
    go_ret
    exact ⟨rfl, xV.out.trans XW.out⟩

theorem fnExactValidTable_walk (cs : List Col) (n : Int) (a : Option Addr) (cap : Nat) (w : World) (h : ColsAtW w a cs) (lc : cs.length < 2 ^ 45) :
    Calls Yabn.prog 9 #[.agg #[.int .i64 n, .slice a cs.length cap]] w (TrueE w) := by
  by_cases hb : 1048576 < (cs.length : Int)
  · exact fnExactValidTable_big cs n a cap w lc hb
  · exact fnExactValidTable_main cs n a cap w h (by omega)
end Go.Proofs.Ybyabw
