/- Walks: laws.encodeByKind, laws.exactEncode -/
import Derived.Test.YbyabwColSep
import Derived.Test.YbyabwImplDict
namespace Go.Proofs.Ybyabw
open Go.RowKit
set_option maxRecDepth 100000
set_option linter.unusedVariables false

def TrueE (w : World) : Ending → World → Prop := fun e w' => e = .returned (.bool true) ∧ Ext w w'

set_option maxHeartbeats 1000000 in
theorem encodeByKind_0 (xs : List Int) (a : Option Addr) (c : Nat) (w : World) (h : Hid (IntsAt w a xs)) :
    Calls Yabn.prog 83 #[.slice a xs.length c, .int .i64 0] w (RetC 27 (encOf 0 xs) w) := by
  have hnew := hide (Blk.new w #[.int .i64 0, .slice none 0 0, .slice none 0 0, .slice none 0 0, .slice none 0 0] 29)
  go_enter Yabn.func83, Yabn.ntmps83
  go_wp2_with (first
    | (go_at_call 91; refine (EncodePlain xs a c _ (h.out.ext ((Ext.refl w).alloc _))).mono ?_; rintro e w1 ⟨a1, a2, a3, a4, c1, c2, c3, c4, rfl, ho, hx⟩; have hb := hide (hnew.out.ext hx); replace ho := hide ho; replace hx := hide hx)
    | (refine wpList_storeB (vs := cellsC (encOf 0 xs) a1 a2 a3 a4 c1 c2 c3 c4) rfl rfl (by rfl) (by rfl) hb.out size_col rfl (cellsC_one _ _ _ _ _ _ _ _ _) ?_; intro w2 hb2 hgr; replace hgr := hide hgr; replace hb2 := hide hb2))
  refine bodyPost_ret (results_cell1 rfl (by rfl) hb2.out Yabn.underlying29 size_col) rfl ?_
  have hx2 : Ext w w2 := (((Ext.refl w).alloc _).trans hx.out).grown hgr.out (by intro k hk; cases hk; exact Nat.le_refl _)
  have ho2 := ho.out.but (But.of_grown (S := fun k => k = w.heap.size) hgr.out (fun k hk => by cases hk; rfl)) (fun k h1 h2 hk => by simp at h1; omega)
  exact ⟨a1, a2, a3, a4, c1, c2, c3, c4, rfl, ho2.mono (by simp) hgr.out.size, hx2⟩

set_option maxHeartbeats 1000000 in
theorem encodeByKind_1 (xs : List Int) (a : Option Addr) (c : Nat) (w : World) (h : Hid (IntsAt w a xs)) :
    Calls Yabn.prog 83 #[.slice a xs.length c, .int .i64 1] w (RetC 27 (encOf 1 xs) w) := by
  have hnew := hide (Blk.new w #[.int .i64 0, .slice none 0 0, .slice none 0 0, .slice none 0 0, .slice none 0 0] 29)
  go_enter Yabn.func83, Yabn.ntmps83
  go_wp2_with (first
    | (go_at_call 92; refine (EncodeDict xs a c _ (h.out.ext ((Ext.refl w).alloc _))).mono ?_; rintro e w1 ⟨a1, a2, a3, a4, c1, c2, c3, c4, rfl, ho, hx⟩; have hb := hide (hnew.out.ext hx); replace ho := hide ho; replace hx := hide hx)
    | (refine wpList_storeB (vs := cellsC (encOf 1 xs) a1 a2 a3 a4 c1 c2 c3 c4) rfl rfl (by rfl) (by rfl) hb.out size_col rfl (cellsC_one _ _ _ _ _ _ _ _ _) ?_; intro w2 hb2 hgr; replace hgr := hide hgr; replace hb2 := hide hb2))
  refine bodyPost_ret (results_cell1 rfl (by rfl) hb2.out Yabn.underlying29 size_col) rfl ?_
  have hx2 : Ext w w2 := (((Ext.refl w).alloc _).trans hx.out).grown hgr.out (by intro k hk; cases hk; exact Nat.le_refl _)
  have ho2 := ho.out.but (But.of_grown (S := fun k => k = w.heap.size) hgr.out (fun k hk => by cases hk; rfl)) (fun k h1 h2 hk => by simp at h1; omega)
  exact ⟨a1, a2, a3, a4, c1, c2, c3, c4, rfl, ho2.mono (by simp) hgr.out.size, hx2⟩

set_option maxHeartbeats 1000000 in
theorem encodeByKind_2 (xs : List Int) (a : Option Addr) (c : Nat) (w : World) (h : Hid (IntsAt w a xs)) :
    Calls Yabn.prog 83 #[.slice a xs.length c, .int .i64 2] w (RetC 27 (encOf 2 xs) w) := by
  have hnew := hide (Blk.new w #[.int .i64 0, .slice none 0 0, .slice none 0 0, .slice none 0 0, .slice none 0 0] 29)
  go_enter Yabn.func83, Yabn.ntmps83
  go_wp2_with (first
    | (go_at_call 93; refine (EncodeRLE xs a c _ (h.out.ext ((Ext.refl w).alloc _))).mono ?_; rintro e w1 ⟨a1, a2, a3, a4, c1, c2, c3, c4, rfl, ho, hx⟩; have hb := hide (hnew.out.ext hx); replace ho := hide ho; replace hx := hide hx)
    | (refine wpList_storeB (vs := cellsC (encOf 2 xs) a1 a2 a3 a4 c1 c2 c3 c4) rfl rfl (by rfl) (by rfl) hb.out size_col rfl (cellsC_one _ _ _ _ _ _ _ _ _) ?_; intro w2 hb2 hgr; replace hgr := hide hgr; replace hb2 := hide hb2))
  refine bodyPost_ret (results_cell1 rfl (by rfl) hb2.out Yabn.underlying29 size_col) rfl ?_
  have hx2 : Ext w w2 := (((Ext.refl w).alloc _).trans hx.out).grown hgr.out (by intro k hk; cases hk; exact Nat.le_refl _)
  have ho2 := ho.out.but (But.of_grown (S := fun k => k = w.heap.size) hgr.out (fun k hk => by cases hk; rfl)) (fun k h1 h2 hk => by simp at h1; omega)
  exact ⟨a1, a2, a3, a4, c1, c2, c3, c4, rfl, ho2.mono (by simp) hgr.out.size, hx2⟩

theorem encodeByKind (kind : Int) (xs : List Int) (a : Option Addr) (c : Nat) (w : World) (h : Hid (IntsAt w a xs)) (hk : kind = 0 ∨ kind = 1 ∨ kind = 2) :
    Calls Yabn.prog 83 #[.slice a xs.length c, .int .i64 kind] w (RetC 27 (encOf kind xs) w) := by
  rcases hk with rfl | rfl | rfl
  · exact encodeByKind_0 xs a c w h
  · exact encodeByKind_1 xs a c w h
  · exact encodeByKind_2 xs a c w h

theorem encOf_len (k : Int) (xs : List Int) : LenC (encOf k xs) := by
  unfold encOf
  split
  · exact ⟨by simp [col0], by simp [col0], by simp [col0], by simp [col0]⟩
  · rename_i h
    have h1 := dictOf_len xs
    have h2 := (rle_ok xs).len
    split
    · exact ⟨by simp [encP]; omega, by simp [encP], by simp [encP], by simp [encP]⟩
    split
    · exact ⟨by simp [encD], by simp [encD]; omega, by simp [encD]; omega, by simp [encD]⟩
    split
    · exact ⟨by simp [encR], by simp [encR], by simp [encR], by simp [encR]; omega⟩
    · exact ⟨by simp [col0], by simp [col0], by simp [col0], by simp [col0]⟩


set_option maxHeartbeats 16000000 in
theorem exactEncode (xs : List Int) (a : Option Addr) (c : Nat) (kind : Int) (w : World) (h : Hid (IntsAt w a xs)) (hxl : xs.length < 2 ^ 39) (hk : kind = 0 ∨ kind = 1 ∨ kind = 2) :
    Calls Yabn.prog 24 #[.slice a xs.length c, .int .i64 kind] w (TrueE w) := by
  have hl := hide (encOf_len kind xs)
  have hRE : Hid (∀ a c w, IntsAt w a xs → Calls Yabn.prog 81 #[.slice a xs.length c, .int .i64 kind] w (RetCol (encOf kind xs) w)) := fun a c w hh => RefEncode kind xs a c w hh hk
  have hEB : Hid (∀ a c w, IntsAt w a xs → Calls Yabn.prog 83 #[.slice a xs.length c, .int .i64 kind] w (RetC 27 (encOf kind xs) w)) := fun a c w hh => encodeByKind kind xs a c w hh hk
  generalize encOf kind xs = C at *
  obtain ⟨ck, cp, cd, cc, cr⟩ := C
  clear hk
  go_enter Yabn.func24, Yabn.ntmps24
  go_wp2_with fail
  refine (cpI64 xs a c false w h hxl).mono ?_
  rintro e w1 ⟨p1, q1, rfl, o1, x1⟩
  have i1 := hide o1.ints
  replace x1 := hide x1
  clear o1
  go_wp2_with fail
  refine (hRE.out p1 q1 w1 i1.out).mono ?_
  rintro e w2 ⟨b1, b2, b3, b4, d1, d2, d3, d4, rfl, ho, x2⟩
  simp only [colV, colArg]
  have hcol := hide ho.colAt
  have X2 : Hid (Ext w w2) := x1.out.trans x2
  clear ho x2 x1 i1 hRE
  go_wp2_with fail
  refine (cvColumn ⟨ck, cp, cd, cc, cr⟩ b1 b2 b3 b4 d1 d2 d3 d4 w2 hcol hl).mono ?_
  rintro e w3 ⟨g1, g2, g3, g4, h1, h2, h3, h4, rfl, E3, x3⟩
  simp only [cellsC]
  have hbW0 : Box (w3.alloc (.cells #[.int .i64 ck, .slice g1 cp.length h1, .slice g2 cd.length h2, .slice g3 cc.length h3, .slice g4 cr.length h4] 58)) w3.heap.size _ := Box.new w3 _ _
  have xV : Ext w (w3.alloc (.cells #[.int .i64 ck, .slice g1 cp.length h1, .slice g2 cd.length h2, .slice g3 cc.length h3, .slice g4 cr.length h4] 58)) := (X2.out.trans x3).alloc _
  have hsV : (w3.alloc (.cells #[.int .i64 ck, .slice g1 cp.length h1, .slice g2 cd.length h2, .slice g3 cc.length h3, .slice g4 cr.length h4] 58)).heap.size = w3.heap.size + 1 := by simp
  have hwant0 : ColAt (w3.alloc (.cells #[.int .i64 ck, .slice g1 cp.length h1, .slice g2 cd.length h2, .slice g3 cc.length h3, .slice g4 cr.length h4] 58)) ⟨ck, cp, cd, cc, cr⟩ g1 g2 g3 g4 := (E3.colAt).extC ((Ext.refl w3).alloc _)
  replace hbW0 := hide hbW0
  replace xV := hide xV
  replace hwant0 := hide hwant0
  clear E3 x3 X2 hcol
  go_wp2_with fail
  generalize (w3.alloc (.cells #[.int .i64 ck, .slice g1 cp.length h1, .slice g2 cd.length h2, .slice g3 cc.length h3, .slice g4 cr.length h4] 58)) = V at *
  generalize w3.heap.size = E at *
  go_loopw [6] (fun i wr => ∃ k : Nat, i = .int .i64 k ∧ k ≤ 2 ∧ Hid (Ext V wr)) (fun i _ => 2 - (intOf i).toNat)
  case atStart => exact ⟨0, rfl, by omega, Ext.refl V⟩
  obtain ⟨k, rfl, hk, X⟩ := hrel
  by_cases hk2 : k < 2
  · have hk2' : (k : Int) < 2 := by omega
    generalize hne : ((k : Int) == 1) = ne
    replace hne := hide hne
    obtain ⟨W, rfl⟩ : ∃ W, W = wr := ⟨_, rfl⟩
    have hbW := hide (hbW0.out.ext X.out)
    have hwant := hide (hwant0.out.extC X.out)
    have hvals := hide (h.out.ext (xV.out.trans X.out))
    have zW := X.out.size
    clear hbW0 hwant0
    go_wp2_with fail
    rw [hne.out]
    refine (cpI64 xs a c ne W hvals hxl).mono ?_
    rintro e w1 ⟨pa, qa, rfl, oa, xa⟩
    replace oa := hide oa
    replace xa := hide xa
    have za := xa.out.size
    go_wp2_with fail
    refine (hEB.out pa qa w1 oa.out.ints).mono ?_
    rintro e w2 ⟨a1, a2, a3, a4, c1, c2, c3, c4, rfl, OC, x2⟩
    simp only [cellsC]
    have hbG0 : Box (w2.alloc (.cells #[.int .i64 ck, .slice a1 cp.length c1, .slice a2 cd.length c2, .slice a3 cc.length c3, .slice a4 cr.length c4] 29)) w2.heap.size _ := Box.new w2 _ _
    have xU : Ext w1 (w2.alloc (.cells #[.int .i64 ck, .slice a1 cp.length c1, .slice a2 cd.length c2, .slice a3 cc.length c3, .slice a4 cr.length c4] 29)) := x2.alloc _
    have hsU : (w2.alloc (.cells #[.int .i64 ck, .slice a1 cp.length c1, .slice a2 cd.length c2, .slice a3 cc.length c3, .slice a4 cr.length c4] 29)).heap.size = w2.heap.size + 1 := by simp
    have OU := OC.ext ((Ext.refl w2).alloc (.cells #[.int .i64 ck, .slice a1 cp.length c1, .slice a2 cd.length c2, .slice a3 cc.length c3, .slice a4 cr.length c4] 29))
    have z2 := x2.size
    replace hbG0 := hide hbG0
    replace xU := hide xU
    replace OU := hide OU
    clear OC x2
    go_wp2_with fail
    generalize (w2.alloc (.cells #[.int .i64 ck, .slice a1 cp.length c1, .slice a2 cd.length c2, .slice a3 cc.length c3, .slice a4 cr.length c4] 29)) = U at *
    generalize w2.heap.size = G at *
    have k0 := hbG0.out 0 _ rfl
    have k1 := hbG0.out 1 _ rfl
    have k2 := hbG0.out 2 _ rfl
    have k3 := hbG0.out 3 _ rfl
    have k4 := hbG0.out 4 _ rfl
    refine Dr.region_held (fun b => b = E) [2] (by kernel_rfl) ?_
    refine Dr.held_q1 (by rfl) ?_
    go_wp2
    refine Dr.held_act (by rfl) (by rfl) ?_
    go_wp2_with fail
    refine (cvColumn ⟨ck, cp, cd, cc, cr⟩ a1 a2 a3 a4 c1 c2 c3 c4 _ (OU.out.colAt.extC (Ext.refl _).drew) hl).mono ?_
    rintro e v5 ⟨r1, r2, r3, r4, s1, s2, s3, s4, rfl, F5, x5⟩
    clear k0 k1 k2 k3 k4
    have y5 : Hid (Ext U v5) := (Ext.refl _).drew.trans x5
    have u5 : Hid (Ext W v5) := Ext.trans (xa.out.trans xU.out) y5.out
    have z5 := u5.out.size
    refine ⟨fun b hb => x5.block b (by simp only at hb; simp only [World.drew]; have := Below.size (xa.out.trans xU.out); omega), ?_⟩
    simp only [cellsC]
    have f5 := hide F5.colAt
    clear F5 x5
    have k0 := (hbW.out.ext u5.out) 0 _ rfl
    have k1 := (hbW.out.ext u5.out) 1 _ rfl
    have k2 := (hbW.out.ext u5.out) 2 _ rfl
    have k3 := (hbW.out.ext u5.out) 3 _ rfl
    have k4 := (hbW.out.ext u5.out) 4 _ rfl
    refine Dr.held_q1 (by rfl) ?_
    go_wp2
    refine Dr.held_act (by rfl) (by rfl) ?_
    go_wp2_with fail
    refine (eqLColumn ⟨ck, cp, cd, cc, cr⟩ r1 r2 r3 r4 g1 g2 g3 g4 s1 s2 s3 s4 h1 h2 h3 h4 v5 f5 (hwant.out.extC u5.out) hl).mono ?_
    rintro e v6 ⟨rfl, x6⟩
    refine ⟨fun b hb => x6.block b (by simp only at hb; omega), ?_⟩
    have k7 := x6.cell k0
    clear k0 k1 k2 k3 k4 f5
    have y6 : Hid (Ext U v6) := y5.out.trans x6
    clear x6 y5 u5 z5
    refine Dr.held_q4 (by rfl) ?_
    go_wp2
    refine Dr.held_act (by rfl) (by rfl) ?_
    go_wp2_with fail
    refine (eqI64 xs pa a qa c v6 (IntsAt.ext (oa.out.ints.ext xU.out) y6.out) (hvals.out.ext (Ext.trans (xa.out.trans xU.out) y6.out)) hxl).mono ?_
    rintro e v7 ⟨rfl, x7⟩
    have k8 := x7.cell k7
    refine ⟨fun b hb => x7.block b (by simp only at hb; have := Below.size (Ext.trans (xa.out.trans xU.out) y6.out); omega), ?_⟩
    have y7 : Hid (Ext U v7) := y6.out.trans x7
    clear k7 x7 y6
    refine Dr.held_q2 (by rfl) ?_
    go_wp2
    refine Dr.held_nil (by rfl) ⟨fun _ => ⟨E, 0, rfl, rfl, Dr.isCells_of k8⟩, trivial⟩ ?_
    clear k8
    go_wp2
    go_loopw [10] (fun i wr => ∃ m : Nat, i = .int .i64 m ∧ m ≤ 2 ∧ Hid (OwnC 27 wr w1.heap.size G ⟨ck, cp, cd, cc, cr⟩ a1 a2 a3 a4 c1 c2 c3 c4) ∧ Hid (But (Rng w1.heap.size G) U wr)) (fun i _ => 2 - (intOf i).toNat)
    case atStart => exact ⟨0, rfl, by omega, OU.out.ext y7.out, But.of_ext y7.out⟩
    clear y7
    obtain ⟨m, rfl, hm, OM, BM⟩ := hrel
    have zM := BM.out.size
    have xM : Hid (Ext w1 wr) := But.ext ((But.of_ext xU.out).trans BM.out) (fun k hr => hr.1)
    have hbM := hide (BM.out.box hbG0.out (by omega) (fun hr => by have := hr.2; omega))
    by_cases hm2 : m < 2
    · have hm2' : (m : Int) < 2 := by omega
      have k0 := hbM.out 0 _ rfl
      have k1 := hbM.out 1 _ rfl
      have k2 := hbM.out 2 _ rfl
      have k3 := hbM.out 3 _ rfl
      have k4 := hbM.out 4 _ rfl
      go_wp2_with fail
      clear k0 k1 k2 k3 k4
      refine (prColumn ⟨ck, cp, cd, cc, cr⟩ a1 a2 a3 a4 c1 c2 c3 c4 w1.heap.size G m (by omega) (by omega) wr OM (by omega) hl).mono ?_
      rintro e w3 ⟨rfl, O3, B3⟩
      simp only [id] at O3
      replace O3 := hide O3
      have BM3 := hide (BM.out.trans B3)
      have z3 := BM3.out.size
      have x3 : Hid (Ext w1 w3) := But.ext ((But.of_ext xU.out).trans BM3.out) (fun k hr => hr.1)
      have hb3 := hide (BM3.out.box hbG0.out (by omega) (fun hr => by have := hr.2; omega))
      clear B3 xM hbM OM BM
      go_wp2
      have k0 := hb3.out 0 _ rfl
      have k1 := hb3.out 1 _ rfl
      have k2 := hb3.out 2 _ rfl
      have k3 := hb3.out 3 _ rfl
      have k4 := hb3.out 4 _ rfl
      refine Dr.region_held (fun b => b = E) [2] (by kernel_rfl) ?_
      refine Dr.held_q1 (by rfl) ?_
      go_wp2
      refine Dr.held_act (by rfl) (by rfl) ?_
      go_wp2_with fail
      refine (cvColumn ⟨ck, cp, cd, cc, cr⟩ a1 a2 a3 a4 c1 c2 c3 c4 _ (O3.out.colAt.extC (Ext.refl _).drew) hl).mono ?_
      rintro e v5 ⟨r1, r2, r3, r4, s1, s2, s3, s4, rfl, F5, x5⟩
      clear k0 k1 k2 k3 k4
      have y5 : Hid (Ext w3 v5) := (Ext.refl _).drew.trans x5
      have u5 : Hid (Ext W v5) := Ext.trans (xa.out.trans x3.out) y5.out
      have z5 := u5.out.size
      refine ⟨fun b hb => x5.block b (by simp only at hb; simp only [World.drew]; have := Below.size (xa.out.trans x3.out); omega), ?_⟩
      simp only [cellsC]
      have f5 := hide F5.colAt
      clear F5 x5
      have k0 := (hbW.out.ext u5.out) 0 _ rfl
      have k1 := (hbW.out.ext u5.out) 1 _ rfl
      have k2 := (hbW.out.ext u5.out) 2 _ rfl
      have k3 := (hbW.out.ext u5.out) 3 _ rfl
      have k4 := (hbW.out.ext u5.out) 4 _ rfl
      refine Dr.held_q1 (by rfl) ?_
      go_wp2
      refine Dr.held_act (by rfl) (by rfl) ?_
      go_wp2_with fail
      refine (eqLColumn ⟨ck, cp, cd, cc, cr⟩ r1 r2 r3 r4 g1 g2 g3 g4 s1 s2 s3 s4 h1 h2 h3 h4 v5 f5 (hwant.out.extC u5.out) hl).mono ?_
      rintro e v6 ⟨rfl, x6⟩
      refine ⟨fun b hb => x6.block b (by simp only at hb; omega), ?_⟩
      have k7 := x6.cell k0
      clear k0 k1 k2 k3 k4 f5
      have y6 : Hid (Ext w3 v6) := y5.out.trans x6
      clear x6 y5 u5 z5
      refine Dr.held_q4 (by rfl) ?_
      go_wp2
      refine Dr.held_act (by rfl) (by rfl) ?_
      go_wp2_with fail
      refine (eqI64 xs pa a qa c v6 (IntsAt.ext (oa.out.ints.ext x3.out) y6.out) (hvals.out.ext (Ext.trans (xa.out.trans x3.out) y6.out)) hxl).mono ?_
      rintro e v7 ⟨rfl, x7⟩
      have k8 := x7.cell k7
      refine ⟨fun b hb => x7.block b (by simp only at hb; have := Below.size (Ext.trans (xa.out.trans x3.out) y6.out); omega), ?_⟩
      have y7 : Hid (Ext w3 v7) := y6.out.trans x7
      clear k7 x7 y6
      refine Dr.held_q2 (by rfl) ?_
      go_wp2
      refine Dr.held_nil (by rfl) ⟨fun _ => ⟨E, 0, rfl, rfl, Dr.isCells_of k8⟩, trivial⟩ ?_
      clear k8
      go_wp2
      go_roundw
      case rel => exact ⟨m + 1, by go_num, by omega, O3.out.ext y7.out, BM3.out.trans (But.of_ext y7.out)⟩
      case measure => simp [intOf]; omega
    · obtain rfl : m = 2 := by omega
      clear hm hm2
      go_wp2_with fail
      refine (scI64 xs pa qa W.heap.size wr (oa.out.ext xM.out) hxl).mono ?_
      rintro e w4 ⟨rfl, g4'⟩
      have B4 : But (Rng W.heap.size w1.heap.size) wr w4 := But.of_grown g4' (fun k hk => ⟨oa.out.block k hk, (World.ownsRow.lt oa.out k hk).2⟩)
      have O4 := hide (OM.out.but B4 (fun k h1 h2 hr => by have := hr.2; omega))
      have hb4 := hide (B4.box hbM.out (by omega) (fun hr => by have := hr.2; omega))
      have xW4 : Hid (Ext W w4) := But.ext ((But.of_ext (xa.out.trans xM.out)).trans B4) (fun k hr => hr.1)
      have z4 := B4.size
      clear B4 g4' OM BM hbM xM
      go_wp2
      have k0 := hb4.out 0 _ rfl
      have k1 := hb4.out 1 _ rfl
      have k2 := hb4.out 2 _ rfl
      have k3 := hb4.out 3 _ rfl
      have k4 := hb4.out 4 _ rfl
      refine Dr.region_held (fun b => b = E) [2] (by kernel_rfl) ?_
      refine Dr.held_q1 (by rfl) ?_
      go_wp2
      refine Dr.held_act (by rfl) (by rfl) ?_
      go_wp2_with fail
      refine (cvColumn ⟨ck, cp, cd, cc, cr⟩ a1 a2 a3 a4 c1 c2 c3 c4 _ (O4.out.colAt.extC (Ext.refl _).drew) hl).mono ?_
      rintro e v5 ⟨r1, r2, r3, r4, s1, s2, s3, s4, rfl, F5, x5⟩
      clear k0 k1 k2 k3 k4
      have y5 : Hid (Ext w4 v5) := (Ext.refl _).drew.trans x5
      have u5 : Hid (Ext W v5) := Ext.trans xW4.out y5.out
      have z5 := u5.out.size
      refine ⟨fun b hb => x5.block b (by simp only at hb; simp only [World.drew]; have := Below.size xW4.out; omega), ?_⟩
      simp only [cellsC]
      have f5 := hide F5.colAt
      clear F5 x5
      have k0 := (hbW.out.ext u5.out) 0 _ rfl
      have k1 := (hbW.out.ext u5.out) 1 _ rfl
      have k2 := (hbW.out.ext u5.out) 2 _ rfl
      have k3 := (hbW.out.ext u5.out) 3 _ rfl
      have k4 := (hbW.out.ext u5.out) 4 _ rfl
      refine Dr.held_q1 (by rfl) ?_
      go_wp2
      refine Dr.held_act (by rfl) (by rfl) ?_
      go_wp2_with fail
      refine (eqLColumn ⟨ck, cp, cd, cc, cr⟩ r1 r2 r3 r4 g1 g2 g3 g4 s1 s2 s3 s4 h1 h2 h3 h4 v5 f5 (hwant.out.extC u5.out) hl).mono ?_
      rintro e v6 ⟨rfl, x6⟩
      refine ⟨fun b hb => x6.block b (by simp only at hb; omega), ?_⟩
      have k7 := x6.cell k0
      clear k0 k1 k2 k3 k4 f5
      have y6 : Hid (Ext w4 v6) := y5.out.trans x6
      clear x6 y5 u5 z5
      refine Dr.held_q1 (by rfl) ?_
      go_wp2
      refine Dr.held_nil (by rfl) ⟨fun _ => ⟨E, 0, rfl, rfl, Dr.isCells_of k7⟩, trivial⟩ ?_
      clear k7
      have z6 := y6.out.size
      have hb6 := hide (hb4.out.ext y6.out)
      have k0 := hb6.out 0 _ rfl
      have k1 := hb6.out 1 _ rfl
      have k2 := hb6.out 2 _ rfl
      have k3 := hb6.out 3 _ rfl
      have k4 := hb6.out 4 _ rfl
      go_wp2_with fail
      clear k0 k1 k2 k3 k4
      refine (sepColumn ⟨ck, cp, cd, cc, cr⟩ a1 a2 a3 a4 c1 c2 c3 c4 w1.heap.size G v6 (O4.out.ext y6.out) (by omega) hl).mono ?_
      rintro e w7 ⟨rfl, O7, B7⟩
      have z7 := B7.size
      have hb7 := hide (B7.box hb6.out (by omega) (fun hr => by have := hr.2; omega))
      have xW7 : Hid (Ext W w7) := But.ext ((But.of_ext (xW4.out.trans y6.out)).trans B7) (fun k hr => by have := hr.1; omega)
      have hsc := fun w (ho : Hid (OwnC 27 w w1.heap.size G (incC ⟨ck, cp, cd, cc, cr⟩) a1 a2 a3 a4 c1 c2 c3 c4)) ht => scColumn (incC ⟨ck, cp, cd, cc, cr⟩) a1 a2 a3 a4 c1 c2 c3 c4 w1.heap.size G w ho ht hl.out.inc
      simp only [cellsC, incC, List.length_map] at hsc
      replace hsc := hide hsc
      replace O7 := hide O7
      clear B7 O4 hb4 hb6 xW4 y6
      have k0 := hb7.out 0 _ rfl
      have k1 := hb7.out 1 _ rfl
      have k2 := hb7.out 2 _ rfl
      have k3 := hb7.out 3 _ rfl
      have k4 := hb7.out 4 _ rfl
      go_wp2_with fail
      clear k0 k1 k2 k3 k4
      refine (hsc.out w7 O7 (by omega)).mono ?_
      rintro e w8 ⟨rfl, B8⟩
      have xW8 : Hid (Ext W w8) := But.ext ((But.of_ext xW7.out).trans B8) (fun k hr => by have := hr.1; omega)
      have z8 := xW8.out.size
      clear B8 O7 hb7 xW7 hsc OU hbG0 xU
      go_wp2
      refine Dr.region_held (fun b => b = E) [6] (by kernel_rfl) ?_
      refine Dr.held_q2 (by rfl) ?_
      go_wp2
      refine Dr.held_act (by rfl) (by rfl) ?_
      go_wp2_with fail
      refine (cpI64 xs a c ne _ (hvals.out.ext xW8.out.drew) hxl).mono ?_
      rintro e v1 ⟨pb, qb, rfl, ob, xb⟩
      refine ⟨fun b hb => xb.block b (by simp only at hb; simp only [World.drew]; omega), ?_⟩
      have y1 : Hid (Ext W v1) := xW8.out.drew.trans xb
      have ib := hide ob.ints
      have s1 := y1.out.size
      clear ob xb
      refine Dr.held_q1 (by rfl) ?_
      go_wp2
      refine Dr.held_act (by rfl) (by rfl) ?_
      go_wp2_with fail
      refine (hEB.out pb qb v1 ib.out).mono ?_
      rintro e v2 ⟨t1, t2, t3, t4, u1, u2, u3, u4, rfl, T2, xb⟩
      refine ⟨fun b hb => xb.block b (by simp only at hb; omega), ?_⟩
      simp only [cellsC]
      have y2 : Hid (Ext W v2) := y1.out.trans xb
      have ct := hide T2.colAt
      have s2 := y2.out.size
      clear T2 xb ib
      refine Dr.held_act (by rfl) (by rfl) ?_
      go_wp2_with fail
      refine (cvColumn ⟨ck, cp, cd, cc, cr⟩ t1 t2 t3 t4 u1 u2 u3 u4 v2 ct hl).mono ?_
      rintro e v3 ⟨r1, r2, r3, r4, s1', s2', s3', s4', rfl, F5, xb⟩
      refine ⟨fun b hb => xb.block b (by simp only at hb; omega), ?_⟩
      simp only [cellsC]
      have y3 : Hid (Ext W v3) := y2.out.trans xb
      have f5 := hide F5.colAt
      have s3 := y3.out.size
      clear F5 xb ct
      have k0 := (hbW.out.ext y3.out) 0 _ rfl
      have k1 := (hbW.out.ext y3.out) 1 _ rfl
      have k2 := (hbW.out.ext y3.out) 2 _ rfl
      have k3 := (hbW.out.ext y3.out) 3 _ rfl
      have k4 := (hbW.out.ext y3.out) 4 _ rfl
      refine Dr.held_q1 (by rfl) ?_
      go_wp2
      refine Dr.held_act (by rfl) (by rfl) ?_
      go_wp2_with fail
      refine (eqLColumn ⟨ck, cp, cd, cc, cr⟩ r1 r2 r3 r4 g1 g2 g3 g4 s1' s2' s3' s4' h1 h2 h3 h4 v3 f5 (hwant.out.extC y3.out) hl).mono ?_
      rintro e v4 ⟨rfl, x6⟩
      refine ⟨fun b hb => x6.block b (by simp only at hb; omega), ?_⟩
      have k7 := x6.cell k0
      clear k0 k1 k2 k3 k4 f5
      have y4 : Hid (Ext W v4) := y3.out.trans x6
      clear x6
      refine Dr.held_q1 (by rfl) ?_
      go_wp2
      refine Dr.held_nil (by rfl) ⟨fun _ => ⟨E, 0, rfl, rfl, Dr.isCells_of k7⟩, trivial⟩ ?_
      clear k7 y1 y2 y3
      go_wp2
      go_roundw
      case rel => exact ⟨k + 1, by go_num, by omega, X.out.trans y4.out⟩
      case measure => simp [intOf]; omega
  · obtain rfl : k = 2 := by omega
    clear hk hk2
    go_wp2
    go_ret
    exact ⟨rfl, xV.out.trans X.out⟩
end Go.Proofs.Ybyabw
