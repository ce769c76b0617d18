/- Walk: laws.FnEncodeRound -/
import Derived.Test.YbyaawColSep
import Derived.Test.YbyaawImplDict
import Derived.Test.YbyaawColEq
import Derived.Test.YbyaawPlainEnc4
namespace Go.Proofs.Ybyaaw
open Go.RowKit
set_option maxRecDepth 100000
set_option linter.unusedVariables false
set_option linter.unusedSimpArgs false

def TrueE (w : World) : Ending → World → Prop := fun e w' => e = .returned (.bool true) ∧ Ext w w'

theorem encOf_len (k : Int) (xs : List Int) : LenC (encOf k xs) := by
  unfold encOf
  split
  · exact ⟨by simp [col0], by simp [col0], by simp [col0], by simp [col0]⟩
  · rename_i h
    have h1 := dictOf_len xs
    have h2 := (rle_ok xs).len
    split
    · exact ⟨by simp [encP]; omega, by simp [encP], by simp [encP], by simp [encP]⟩
    split
    · exact ⟨by simp [encD], by simp [encD]; omega, by simp [encD]; omega, by simp [encD]⟩
    split
    · exact ⟨by simp [encR], by simp [encR], by simp [encR], by simp [encR]; omega⟩
    · exact ⟨by simp [col0], by simp [col0], by simp [col0], by simp [col0]⟩
theorem encOf_big (k : Int) (xs : List Int) (h : 65536 < xs.length) : encOf k xs = col0 := by unfold encOf; rw [if_pos h]
theorem encOf_dec (k : Int) (xs : List Int) (h : xs.length ≤ 65536) (hk : k = 0 ∨ k = 1 ∨ k = 2) : Valid (encOf k xs) xs.length ∧ dec (encOf k xs) = xs := by
  unfold encOf
  rw [if_neg (by omega)]
  rcases hk with rfl | rfl | rfl
  · exact ⟨encP_valid xs h, dec_encP xs⟩
  · exact ⟨encD_valid xs h, dec_encD xs⟩
  · exact ⟨encR_valid xs h, dec_encR xs⟩



set_option maxHeartbeats 16000000 in
theorem fnEncodeRound_0 (xs : List Int) (a : Option Addr) (c : Nat) (kd : Int) (w : World) (h : Hid (IntsAt w a xs)) (hb : ¬ 1048576 < (xs.length : Int)) (b1 : 0 ≤ kd) (b2 : kd ≤ 255) (hkd : kd % 3 = 0) :
    Calls Yaan.prog 6 #[.slice a xs.length c, .int .u8 kd] w (TrueE w) := by
  have hl := hide (encOf_len 0 xs)
  have hEB : Hid (∀ a c w, IntsAt w a xs → Calls Yaan.prog 26 #[.slice a xs.length c] w (RetC 63 (encOf 0 xs) w)) := fun a c w hh => EncodePlain xs a c w hh
  have hRE : Hid (∀ a c w, IntsAt w a xs → Calls Yaan.prog 31 #[.slice a xs.length c, .int .i64 0] w (RetCol (encOf 0 xs) w)) := fun a c w hh => RefEncode 0 xs a c w hh (by omega)
  have hbig : Hid (65536 < xs.length → encOf 0 xs = col0) := fun hh => encOf_big _ _ hh
  have hdec : Hid (xs.length ≤ 65536 → Valid (encOf 0 xs) xs.length ∧ dec (encOf 0 xs) = xs) := fun hh => encOf_dec 0 xs hh (by omega)
  generalize encOf 0 xs = C at *
  obtain ⟨ck, cp, cd, cc, cr⟩ := C
  go_enter Yaan.func6, Yaan.ntmps6
  go_wp2_with (first
    | (at_make; refine mk_i64 rfl rfl xs.length rfl rfl (by omega) w.heap.size rfl ?_; intro w1 hown1 hx1 hsz1; replace hown1 := hide hown1; replace hx1 := hide hx1)
    | (refine wpList_cpI rfl rfl 2 Yaan.underlying48 size_int64 w.heap.size w.heap.size xs.length xs.length (List.replicate xs.length 0) xs (by rfl) (by simp) hown1.out a xs.length c (by rfl) rfl (h.out.ext hx1.out) (by simp) ?_; intro w2 hown2 hgr2; have hs2 := hgr2.size; have xw2 : Hid (Ext w w2) := hx1.out.grown hgr2 (by intro k hk; cases hk; exact Nat.le_refl _); have horig := hide hown2.ints; clear hgr2 hown2))
  have hvals := hide (h.out.ext xw2.out)
  have hbZ : Blk (w2.alloc (.cells #[.int .i64 0, .slice none 0 0, .slice none 0 0, .slice none 0 0, .slice none 0 0] 51)) w2.heap.size 51 colZ5 := Blk.new w2 _ _
  have xZ : Ext w2 (w2.alloc (.cells #[.int .i64 0, .slice none 0 0, .slice none 0 0, .slice none 0 0, .slice none 0 0] 51)) := (Ext.refl w2).alloc _
  have hsZ : (w2.alloc (.cells #[.int .i64 0, .slice none 0 0, .slice none 0 0, .slice none 0 0, .slice none 0 0] 51)).heap.size = w2.heap.size + 1 := by simp
  replace hbZ := hide hbZ
  replace xZ := hide xZ
  clear hown1 hx1
  generalize (w2.alloc (.cells #[.int .i64 0, .slice none 0 0, .slice none 0 0, .slice none 0 0, .slice none 0 0] 51)) = Z at *
  refine (hEB.out a c Z (hvals.out.ext xZ.out)).mono ?_
  rintro e w3 ⟨a1, a2, a3, a4, c1, c2, c3, c4, rfl, OC, x3⟩
  have hb3 := hide (hbZ.out.ext x3)
  have z3 := x3.size
  have X3 : Hid (Ext w2 w3) := xZ.out.trans x3
  replace OC := hide OC
  simp only [cellsC]
  clear x3 hbZ xZ hEB
  go_wp2_with (refine wpList_storeB (vs := [.int .i64 ck, .slice a1 cp.length c1, .slice a2 cd.length c2, .slice a3 cc.length c3, .slice a4 cr.length c4]) rfl rfl (by rfl) (by rfl) hb3.out size_col rfl (by simp [Value.oneCell']) ?_; intro w4 hb4 hgr4; have z4 := hgr4.size; have O4 := hide (OC.out.but (But.of_grown (S := fun k => k = w2.heap.size) hgr4 (fun k hk => by cases hk; rfl)) (fun k h1 h2 hk => by omega)); have X4 : Hid (Ext w2 w4) := X3.out.grown hgr4 (by intro k hk; cases hk; exact Nat.le_refl _); have hbx4 := hide hb4.box; clear hgr4 hb4)
  have hTB : w2.heap.size < Z.heap.size := by omega
  clear hsZ OC hb3 X3
  generalize Z.heap.size = B at *
  generalize w3.heap.size = G at *
  refine (Int64sEqual_same xs a (some ⟨w.heap.size, 0, none⟩) c xs.length w4 (hvals.out.ext X4.out) (horig.out.ext X4.out) (by omega)).mono ?_
  rintro e w5 ⟨rfl, x5⟩
  have O5 := hide (O4.out.ext x5)
  have hbx5 := hide (hbx4.out.ext x5)
  have X5 : Hid (Ext w2 w5) := X4.out.trans x5
  have z5 := x5.size
  clear x5 X4 O4 hbx4
  have k0 := hbx5.out 0 _ rfl
  have k1 := hbx5.out 1 _ rfl
  have k2 := hbx5.out 2 _ rfl
  have k3 := hbx5.out 3 _ rfl
  have k4 := hbx5.out 4 _ rfl
  by_cases hbg : 65536 < (xs.length : Int)
  · have hc0 := hbig.out (by omega)
    unfold col0 at hc0
    injection hc0 with e1 e2 e3 e4 e5
    subst e1 e2 e3 e4 e5
    have hz0 : Hid (ColAt w5 ⟨0, [], [], [], []⟩ none none none none) := ⟨IntsAt.nil _ _, IntsAt.nil _ _, IntsAt.nil _ _, PairsAt.nil _ _⟩
    clear hdec hRE hbig
    simp only [List.length_nil] at *
    go_wp2_with fail
    refine (ColumnEqual ⟨0, [], [], [], []⟩ a1 a2 a3 a4 none none none none c1 c2 c3 c4 0 0 0 0 w5 O5.out.colAt hz0 hl).mono ?_
    rintro e v1 ⟨rfl, x6⟩
    replace x6 := hide x6
    go_wp2
    go_ret
    exact ⟨rfl, (xw2.out.trans X5.out).trans x6.out⟩
  · obtain ⟨hV, hD⟩ := hdec.out (by omega)
    clear hdec hbig
    replace hV := hide hV
    replace hD := hide hD
    have l2 := hl.out.dict
    have l3 := hl.out.codes
    have l4 := hl.out.runs
    simp only at l2 l3 l4
    go_wp2
    refine Dr.region_held (fun b => b = w2.heap.size) [0] (by kernel_rfl) ?_
    refine Dr.held_q3 (by rfl) ?_
    go_wp2
    refine Dr.held_act (by rfl) (by rfl) ?_
    go_wp2_with fail
    clear k1 k2 k3 k4
    refine (hRE.out a c _ (hvals.out.ext X5.out.drew)).mono ?_
    rintro e v1 ⟨r1, r2, r3, r4, s1, s2, s3, s4, rfl, ho, xr⟩
    refine ⟨fun b hb => xr.block b (by simp only at hb; simp only [World.drew]; omega), ?_⟩
    simp only [colV, colArg]
    have y1 : Hid (Ext w5 v1) := (Ext.refl w5).drew.trans xr
    have zy1 := y1.out.size
    have hcr := hide ho.colAt
    clear ho xr
    refine Dr.held_act (by rfl) (by rfl) ?_
    go_wp2_with fail
    refine (ColumnEqual ⟨ck, cp, cd, cc, cr⟩ a1 a2 a3 a4 r1 r2 r3 r4 c1 c2 c3 c4 s1 s2 s3 s4 v1 (O5.out.colAt.extC y1.out) hcr hl).mono ?_
    rintro e v2 ⟨rfl, x6⟩
    refine ⟨fun b hb => x6.block b (by simp only at hb; omega), ?_⟩
    have y2 : Hid (Ext w5 v2) := y1.out.trans x6
    have k7 := y2.out.cell k0
    clear x6 y1 hcr zy1 k0
    refine Dr.held_q1 (by rfl) ?_
    go_wp2
    refine Dr.held_nil (by rfl) ⟨fun _ => ⟨w2.heap.size, 0, rfl, rfl, Dr.isCells_of k7⟩, trivial⟩ ?_
    clear k7
    have O6 := hide (O5.out.ext y2.out)
    have hbx6 := hide (hbx5.out.ext y2.out)
    have X6 : Hid (Ext w2 v2) := X5.out.trans y2.out
    have z6 := y2.out.size
    clear O5 hbx5 X5 y2
    have k0 := hbx6.out 0 _ rfl
    have k1 := hbx6.out 1 _ rfl
    have k2 := hbx6.out 2 _ rfl
    have k3 := hbx6.out 3 _ rfl
    have k4 := hbx6.out 4 _ rfl
    go_wp2_with fail
    clear k0 k1 k2 k3 k4
    have hdc := DecodeColumn_yes ck cp cd cc cr a1 a2 a3 a4 c1 c2 c3 c4 xs.length v2 O6.out.colAt (by omega) (by omega) (by omega) hV
    rw [hD.out] at hdc
    refine hdc.mono ?_
    clear hdc
    rintro e v3 ⟨pd, qd, rfl, od, xd⟩
    have idd := hide od.ints
    replace xd := hide xd
    clear od
    go_wp2_with fail
    refine (Int64sEqual_same xs pd a qd c v3 idd.out (hvals.out.ext (X6.out.trans xd.out)) (by omega)).mono ?_
    rintro e v4 ⟨rfl, x7⟩
    have O7 := hide (O6.out.ext (xd.out.trans x7))
    have hbx := hide (hbx6.out.ext (xd.out.trans x7))
    have xx : Hid (Ext w2 v4) := (X6.out.trans xd.out).trans x7
    have z7 := xx.out.size
    have z8 : w5.heap.size ≤ v4.heap.size := by have := xd.out.size; have := x7.size; omega
    clear O6 hbx6 X6 x7 xd idd
    by_cases hpos : 0 < (xs.length : Int) ∧ 0 < (cp.length : Int)
    · obtain ⟨hp1, hp2⟩ := hpos
      have m1 := hbx.out 1 _ rfl
      obtain ⟨g, rfl⟩ : ∃ g, a1 = some ⟨g, 0, none⟩ := by
        obtain ⟨p, q, e, hf⟩ := O7.out.plain.form
        injection e with e1
        subst e1
        rcases hf with ⟨rfl, _⟩ | hf
        · obtain ⟨_, _, e, _⟩ := (OwnI.ints O7.out.plain) 0 (by simp only; omega)
          cases e
        · exact hf
      obtain ⟨bv, ov, rfl, gv⟩ := (hvals.out.ext xx.out) 0 (by omega)
      have hbv : bv < w2.heap.size := by
        obtain ⟨_, _, e, gv2⟩ := hvals.out 0 (by omega)
        cases e
        exact cell_lt gv2
      obtain ⟨bo, oo, eo, go⟩ := (horig.out.ext xx.out) 0 (by omega)
      cases eo
      have gz := OwnI.cellAt O7.out.plain 0 (by simp only; omega)
      have fz := OwnI.frozenAt O7.out.plain rfl 0
      have hgB := (OwnI.lt O7.out.plain).1
      have hgS := (OwnI.lt O7.out.plain).2
      have n1 : g ≠ w2.heap.size := by omega
      have n2 : g ≠ bv := by omega
      have n3 : g ≠ w.heap.size := by omega
      generalize xs.getD 0 0 = y at *
      simp only [Nat.add_zero] at gv go
      simp only at gz
      generalize cp.getD 0 0 = z at *
      have O8 := (O7.out.put1 (by decide) (by simp) (OwnI.stored O7.out.plain rfl 0 (wrap64 (z + 1))) (grown_setCell v4 ⟨g, 0, none⟩ _)).ext (Ext.refl _).drew
      have B8 : But (Rng B G) v4 (v4.setCell ⟨g, 0, none⟩ (.int .i64 (wrap64 (z + 1)))).drew := (But.of_grown (grown_setCell v4 ⟨g, 0, none⟩ _) (fun k hk => O7.out.in1 (n := 0) k hk)).trans (But.of_ext (Ext.refl _).drew)
      have gz8 := OwnI.cellAt O8.plain 0 (by simp only [List.length_set]; omega)
      have fz8 := OwnI.frozenAt O8.plain (by simp) 0
      replace O8 := hide O8
      replace B8 := hide B8
      simp only [getD_set cp 0 _ (by omega : 0 < cp.length), if_true] at gz8
      go_wp2
      refine Dr.region_text (by kernel_rfl) ?_
      go_wp2
      refine ⟨by rfl, ?_⟩
      go_wp2
      generalize (v4.setCell ⟨g, 0, none⟩ (.int .i64 (wrap64 (z + 1)))).drew = v5 at *
      have hl8 : (cp.set 0 (wrap64 (z + 1))).length = cp.length := by simp
      generalize cp.set 0 (wrap64 (z + 1)) = cp8 at *
      generalize wrap64 (z + 1) = z8 at *
      have hbx8 := hide (B8.out.box hbx.out (by omega) (fun hr => by have := hr.1; omega))
      have gv8 := B8.out.cell gv (fun hr => by have := hr.1; simp only at this; omega)
      have go8 := B8.out.cell go (fun hr => by have := hr.1; simp only at this; omega)
      have xx8 : Hid (Ext w2 v5) := But.ext ((But.of_ext xx.out).trans B8.out) (fun k hr => by have := hr.1; omega)
      have zz8 := B8.out.size
      clear gv go gz fz B8 xx O7 m1 hbx
      have m1 := hbx8.out 1 _ rfl
      have hl8' : LenC ⟨ck, cp8, cd, cc, cr⟩ := ⟨by simp only [hl8]; exact hl.out.plain, hl.out.dict, hl.out.codes, hl.out.runs⟩
      replace hl8' := hide hl8'
      replace hl8 := hide hl8
      refine Dr.region_text (by kernel_rfl) ?_
      go_wp2
      refine ⟨by rfl, ?_⟩
      go_wp2
      have O9 := hide (O8.out.ext (Ext.refl v5).drew)
      have hbx9 := hide (hbx8.out.ext (Ext.refl v5).drew)
      have xx9 : Hid (Ext w2 v5.drew) := xx8.out.drew
      have zz9 : v5.drew.heap.size = v5.heap.size := rfl
      have gz9 := (Ext.refl v5).drew.cell gz8
      have fz9 : v5.drew.frozen? ⟨g, 0, none⟩ = false := fz8
      have hgl9 : g < v5.drew.heap.size := cell_lt gz9
      clear gv8 go8 gz8 fz8 xx8 O8 hbx8 m1
      generalize v5.drew = v6 at *
      have m1 := hbx9.out 1 _ rfl
      have O10 := (O9.out.put1 (by decide) (by simp) (OwnI.stored O9.out.plain rfl 0 (wrap64 (z8 - 1))) (grown_setCell v6 ⟨g, 0, none⟩ _)).ext (Ext.refl _).drew
      have B10 : But (Rng B G) v6 (v6.setCell ⟨g, 0, none⟩ (.int .i64 (wrap64 (z8 - 1)))).drew := (But.of_grown (grown_setCell v6 ⟨g, 0, none⟩ _) (fun k hk => O9.out.in1 (n := 0) k hk)).trans (But.of_ext (Ext.refl _).drew)
      replace O10 := hide O10
      replace B10 := hide B10
      refine Dr.region_text (by kernel_rfl) ?_
      go_wp2
      refine ⟨by rfl, ?_⟩
      generalize (v6.setCell ⟨g, 0, none⟩ (.int .i64 (wrap64 (z8 - 1)))).drew = v7 at *
      have hl10 : (cp8.set 0 (wrap64 (z8 - 1))).length = cp8.length := by simp
      generalize cp8.set 0 (wrap64 (z8 - 1)) = cp9 at *
      have hbx := hide (B10.out.box hbx9.out (by omega) (fun hr => by have := hr.1; omega))
      have xx : Hid (Ext w2 v7) := But.ext ((But.of_ext xx9.out).trans B10.out) (fun k hr => by have := hr.1; omega)
      have zz10 := B10.out.size
      have hl11 : cp9.length = cp.length ∧ LenC ⟨ck, cp9, cd, cc, cr⟩ := ⟨hl10.trans hl8.out, ⟨by simp only [hl10]; exact hl8'.out.plain, hl.out.dict, hl.out.codes, hl.out.runs⟩⟩
      have zv7 : G ≤ v7.heap.size := by omega
      have zw7 : w2.heap.size < v7.heap.size := by omega
      clear hl10 B10 O9 hbx9 xx9 zz9 gz9 fz9 m1 n1 n2 n3 hgB hgS hgl9 zz10 zz8 hl8 hl8' hbv
      have hl12 := hide hl11
      clear hl11
      have hl2 := hl12.out
      have hpr := fun m (m0 : 0 ≤ m) (m1 : m < 10) w (hC : Hid (OwnC 63 w B G ⟨ck, cp9, cd, cc, cr⟩ (some ⟨g, 0, none⟩) a2 a3 a4 c1 c2 c3 c4)) ht => prColumn ⟨ck, cp9, cd, cc, cr⟩ (some ⟨g, 0, none⟩) a2 a3 a4 c1 c2 c3 c4 B G m m0 m1 w hC ht hl2.2
      have hsp := fun w (hC : Hid (OwnC 63 w B G ⟨ck, cp9, cd, cc, cr⟩ (some ⟨g, 0, none⟩) a2 a3 a4 c1 c2 c3 c4)) ht => sepColumn ⟨ck, cp9, cd, cc, cr⟩ (some ⟨g, 0, none⟩) a2 a3 a4 c1 c2 c3 c4 B G w hC ht hl2.2
      simp only [cellsC, hl2.1, id] at hpr hsp
      replace hpr := hide hpr
      replace hsp := hide hsp
      clear hl2
      go_wp2
      go_loopw [11] (fun i wr => ∃ m : Nat, i = .int .i64 m ∧ m ≤ 2 ∧ Hid (OwnC 63 wr B G ⟨ck, cp9, cd, cc, cr⟩ (some ⟨g, 0, none⟩) a2 a3 a4 c1 c2 c3 c4) ∧ Hid (But (Rng B G) v7 wr)) (fun i _ => 2 - (intOf i).toNat)
      case atStart => exact ⟨0, rfl, by omega, O10.out, But.refl _ _⟩
      clear O10
      obtain ⟨m, rfl, hm, OM, BM⟩ := hrel
      have zM := BM.out.size
      have hbM := hide (BM.out.box hbx.out (by omega) (fun hr => by have := hr.1; omega))
      have xM : Hid (Ext w2 wr) := But.ext ((But.of_ext xx.out).trans BM.out) (fun k hr => by have := hr.1; omega)
      have k0 := hbM.out 0 _ rfl
      have k1 := hbM.out 1 _ rfl
      have k2 := hbM.out 2 _ rfl
      have k3 := hbM.out 3 _ rfl
      have k4 := hbM.out 4 _ rfl
      by_cases hm2 : m < 2
      · have hm2' : (m : Int) < 2 := by omega
        go_wp2_with fail
        clear k0 k1 k2 k3 k4
        refine (hpr.out m (by omega) (by omega) wr OM (by omega)).mono ?_
        rintro e v1 ⟨rfl, O1, B1⟩
        have xv : Hid (Ext w2 v1) := But.ext ((But.of_ext xM.out).trans B1) (fun k hr => by have := hr.1; omega)
        replace O1 := hide O1
        replace B1 := hide B1
        go_wp2_with fail
        refine (Int64sEqual_same xs _ (some ⟨w.heap.size, 0, none⟩) c xs.length v1 (hvals.out.ext xv.out) (horig.out.ext xv.out) (by omega)).mono ?_
        rintro e v2 ⟨rfl, x2⟩
        replace x2 := hide x2
        go_wp2
        go_roundw
        case rel => exact ⟨m + 1, by go_num, by omega, O1.out.ext x2.out, (BM.out.trans B1.out).trans (But.of_ext x2.out)⟩
        case measure => simp [intOf]; omega
      · obtain rfl : m = 2 := by omega
        clear hm hm2
        go_wp2_with fail
        clear k0 k1 k2 k3 k4
        refine (hsp.out wr OM (by omega)).mono ?_
        rintro e v1 ⟨rfl, O1, B1⟩
        have xv : Hid (Ext w2 v1) := But.ext ((But.of_ext xM.out).trans B1) (fun k hr => by have := hr.1; omega)
        clear O1 B1
        go_wp2
        go_ret
        exact ⟨rfl, xw2.out.trans xv.out⟩
    · have m1 := hbx.out 1 _ rfl
      by_cases hp1 : 0 < (xs.length : Int)
      · have hp2 : ¬ 0 < (cp.length : Int) := fun hh => hpos ⟨hp1, hh⟩
        have hp3 : cp.length = 0 := by omega
        obtain rfl : cp = [] := List.eq_nil_of_length_eq_zero hp3
        clear hpos hp2 hp3
        simp only [List.length_nil] at *
        have hl2 := (⟨rfl, hl.out⟩ : ([] : List Int).length = 0 ∧ LenC ⟨ck, [], cd, cc, cr⟩)
        have hpr := fun m (m0 : 0 ≤ m) (m1 : m < 10) w (hC : Hid (OwnC 63 w B G ⟨ck, [], cd, cc, cr⟩ a1 a2 a3 a4 c1 c2 c3 c4)) ht => prColumn ⟨ck, [], cd, cc, cr⟩ a1 a2 a3 a4 c1 c2 c3 c4 B G m m0 m1 w hC ht hl2.2
        have hsp := fun w (hC : Hid (OwnC 63 w B G ⟨ck, [], cd, cc, cr⟩ a1 a2 a3 a4 c1 c2 c3 c4)) ht => sepColumn ⟨ck, [], cd, cc, cr⟩ a1 a2 a3 a4 c1 c2 c3 c4 B G w hC ht hl2.2
        simp only [cellsC, hl2.1, id] at hpr hsp
        replace hpr := hide hpr
        replace hsp := hide hsp
        clear hl2
        go_wp2
        go_loopw [11] (fun i wr => ∃ m : Nat, i = .int .i64 m ∧ m ≤ 2 ∧ Hid (OwnC 63 wr B G ⟨ck, [], cd, cc, cr⟩ a1 a2 a3 a4 c1 c2 c3 c4) ∧ Hid (But (Rng B G) v4 wr)) (fun i _ => 2 - (intOf i).toNat)
        case atStart => exact ⟨0, rfl, by omega, O7.out, But.refl _ _⟩
        clear O7
        obtain ⟨m, rfl, hm, OM, BM⟩ := hrel
        have zM := BM.out.size
        have hbM := hide (BM.out.box hbx.out (by omega) (fun hr => by have := hr.1; omega))
        have xM : Hid (Ext w2 wr) := But.ext ((But.of_ext xx.out).trans BM.out) (fun k hr => by have := hr.1; omega)
        have k0 := hbM.out 0 _ rfl
        have k1 := hbM.out 1 _ rfl
        have k2 := hbM.out 2 _ rfl
        have k3 := hbM.out 3 _ rfl
        have k4 := hbM.out 4 _ rfl
        by_cases hm2 : m < 2
        · have hm2' : (m : Int) < 2 := by omega
          go_wp2_with fail
          clear k0 k1 k2 k3 k4
          refine (hpr.out m (by omega) (by omega) wr OM (by omega)).mono ?_
          rintro e v1 ⟨rfl, O1, B1⟩
          have xv : Hid (Ext w2 v1) := But.ext ((But.of_ext xM.out).trans B1) (fun k hr => by have := hr.1; omega)
          replace O1 := hide O1
          replace B1 := hide B1
          go_wp2_with fail
          refine (Int64sEqual_same xs _ (some ⟨w.heap.size, 0, none⟩) c xs.length v1 (hvals.out.ext xv.out) (horig.out.ext xv.out) (by omega)).mono ?_
          rintro e v2 ⟨rfl, x2⟩
          replace x2 := hide x2
          go_wp2
          go_roundw
          case rel => exact ⟨m + 1, by go_num, by omega, O1.out.ext x2.out, (BM.out.trans B1.out).trans (But.of_ext x2.out)⟩
          case measure => simp [intOf]; omega
        · obtain rfl : m = 2 := by omega
          clear hm hm2
          go_wp2_with fail
          clear k0 k1 k2 k3 k4
          refine (hsp.out wr OM (by omega)).mono ?_
          rintro e v1 ⟨rfl, O1, B1⟩
          have xv : Hid (Ext w2 v1) := But.ext ((But.of_ext xM.out).trans B1) (fun k hr => by have := hr.1; omega)
          clear O1 B1
          go_wp2
          go_ret
          exact ⟨rfl, xw2.out.trans xv.out⟩
      · have hp1d : decide (0 < (xs.length : Int)) = false := decide_eq_false hp1
        have hp1e : decide (0 < xs.length) = false := decide_eq_false (by omega)
        clear hpos hp1
        have hl2 := (⟨rfl, hl.out⟩ : cp.length = cp.length ∧ LenC ⟨ck, cp, cd, cc, cr⟩)
        have hpr := fun m (m0 : 0 ≤ m) (m1 : m < 10) w (hC : Hid (OwnC 63 w B G ⟨ck, cp, cd, cc, cr⟩ a1 a2 a3 a4 c1 c2 c3 c4)) ht => prColumn ⟨ck, cp, cd, cc, cr⟩ a1 a2 a3 a4 c1 c2 c3 c4 B G m m0 m1 w hC ht hl2.2
        have hsp := fun w (hC : Hid (OwnC 63 w B G ⟨ck, cp, cd, cc, cr⟩ a1 a2 a3 a4 c1 c2 c3 c4)) ht => sepColumn ⟨ck, cp, cd, cc, cr⟩ a1 a2 a3 a4 c1 c2 c3 c4 B G w hC ht hl2.2
        simp only [cellsC, hl2.1, id] at hpr hsp
        replace hpr := hide hpr
        replace hsp := hide hsp
        clear hl2
        go_wp2
        go_loopw [11] (fun i wr => ∃ m : Nat, i = .int .i64 m ∧ m ≤ 2 ∧ Hid (OwnC 63 wr B G ⟨ck, cp, cd, cc, cr⟩ a1 a2 a3 a4 c1 c2 c3 c4) ∧ Hid (But (Rng B G) v4 wr)) (fun i _ => 2 - (intOf i).toNat)
        case atStart => exact ⟨0, rfl, by omega, O7.out, But.refl _ _⟩
        clear O7
        obtain ⟨m, rfl, hm, OM, BM⟩ := hrel
        have zM := BM.out.size
        have hbM := hide (BM.out.box hbx.out (by omega) (fun hr => by have := hr.1; omega))
        have xM : Hid (Ext w2 wr) := But.ext ((But.of_ext xx.out).trans BM.out) (fun k hr => by have := hr.1; omega)
        have k0 := hbM.out 0 _ rfl
        have k1 := hbM.out 1 _ rfl
        have k2 := hbM.out 2 _ rfl
        have k3 := hbM.out 3 _ rfl
        have k4 := hbM.out 4 _ rfl
        by_cases hm2 : m < 2
        · have hm2' : (m : Int) < 2 := by omega
          go_wp2_with fail
          clear k0 k1 k2 k3 k4
          refine (hpr.out m (by omega) (by omega) wr OM (by omega)).mono ?_
          rintro e v1 ⟨rfl, O1, B1⟩
          have xv : Hid (Ext w2 v1) := But.ext ((But.of_ext xM.out).trans B1) (fun k hr => by have := hr.1; omega)
          replace O1 := hide O1
          replace B1 := hide B1
          go_wp2_with fail
          refine (Int64sEqual_same xs _ (some ⟨w.heap.size, 0, none⟩) c xs.length v1 (hvals.out.ext xv.out) (horig.out.ext xv.out) (by omega)).mono ?_
          rintro e v2 ⟨rfl, x2⟩
          replace x2 := hide x2
          go_wp2
          go_roundw
          case rel => exact ⟨m + 1, by go_num, by omega, O1.out.ext x2.out, (BM.out.trans B1.out).trans (But.of_ext x2.out)⟩
          case measure => simp [intOf]; omega
        · obtain rfl : m = 2 := by omega
          clear hm hm2
          go_wp2_with fail
          clear k0 k1 k2 k3 k4
          refine (hsp.out wr OM (by omega)).mono ?_
          rintro e v1 ⟨rfl, O1, B1⟩
          have xv : Hid (Ext w2 v1) := But.ext ((But.of_ext xM.out).trans B1) (fun k hr => by have := hr.1; omega)
          clear O1 B1
          go_wp2
          go_ret
          exact ⟨rfl, xw2.out.trans xv.out⟩
set_option maxHeartbeats 16000000 in
theorem fnEncodeRound_1 (xs : List Int) (a : Option Addr) (c : Nat) (kd : Int) (w : World) (h : Hid (IntsAt w a xs)) (hb : ¬ 1048576 < (xs.length : Int)) (b1 : 0 ≤ kd) (b2 : kd ≤ 255) (hkd : kd % 3 = 1) :
    Calls Yaan.prog 6 #[.slice a xs.length c, .int .u8 kd] w (TrueE w) := by
  have hl := hide (encOf_len 1 xs)
  have hEB : Hid (∀ a c w, IntsAt w a xs → Calls Yaan.prog 27 #[.slice a xs.length c] w (RetC 63 (encOf 1 xs) w)) := fun a c w hh => EncodeDict xs a c w hh
  have hRE : Hid (∀ a c w, IntsAt w a xs → Calls Yaan.prog 31 #[.slice a xs.length c, .int .i64 1] w (RetCol (encOf 1 xs) w)) := fun a c w hh => RefEncode 1 xs a c w hh (by omega)
  have hbig : Hid (65536 < xs.length → encOf 1 xs = col0) := fun hh => encOf_big _ _ hh
  have hdec : Hid (xs.length ≤ 65536 → Valid (encOf 1 xs) xs.length ∧ dec (encOf 1 xs) = xs) := fun hh => encOf_dec 1 xs hh (by omega)
  generalize encOf 1 xs = C at *
  obtain ⟨ck, cp, cd, cc, cr⟩ := C
  go_enter Yaan.func6, Yaan.ntmps6
  go_wp2_with (first
    | (at_make; refine mk_i64 rfl rfl xs.length rfl rfl (by omega) w.heap.size rfl ?_; intro w1 hown1 hx1 hsz1; replace hown1 := hide hown1; replace hx1 := hide hx1)
    | (refine wpList_cpI rfl rfl 2 Yaan.underlying48 size_int64 w.heap.size w.heap.size xs.length xs.length (List.replicate xs.length 0) xs (by rfl) (by simp) hown1.out a xs.length c (by rfl) rfl (h.out.ext hx1.out) (by simp) ?_; intro w2 hown2 hgr2; have hs2 := hgr2.size; have xw2 : Hid (Ext w w2) := hx1.out.grown hgr2 (by intro k hk; cases hk; exact Nat.le_refl _); have horig := hide hown2.ints; clear hgr2 hown2))
  have hvals := hide (h.out.ext xw2.out)
  have hbZ : Blk (w2.alloc (.cells #[.int .i64 0, .slice none 0 0, .slice none 0 0, .slice none 0 0, .slice none 0 0] 51)) w2.heap.size 51 colZ5 := Blk.new w2 _ _
  have xZ : Ext w2 (w2.alloc (.cells #[.int .i64 0, .slice none 0 0, .slice none 0 0, .slice none 0 0, .slice none 0 0] 51)) := (Ext.refl w2).alloc _
  have hsZ : (w2.alloc (.cells #[.int .i64 0, .slice none 0 0, .slice none 0 0, .slice none 0 0, .slice none 0 0] 51)).heap.size = w2.heap.size + 1 := by simp
  replace hbZ := hide hbZ
  replace xZ := hide xZ
  clear hown1 hx1
  generalize (w2.alloc (.cells #[.int .i64 0, .slice none 0 0, .slice none 0 0, .slice none 0 0, .slice none 0 0] 51)) = Z at *
  refine (hEB.out a c Z (hvals.out.ext xZ.out)).mono ?_
  rintro e w3 ⟨a1, a2, a3, a4, c1, c2, c3, c4, rfl, OC, x3⟩
  have hb3 := hide (hbZ.out.ext x3)
  have z3 := x3.size
  have X3 : Hid (Ext w2 w3) := xZ.out.trans x3
  replace OC := hide OC
  simp only [cellsC]
  clear x3 hbZ xZ hEB
  go_wp2_with (refine wpList_storeB (vs := [.int .i64 ck, .slice a1 cp.length c1, .slice a2 cd.length c2, .slice a3 cc.length c3, .slice a4 cr.length c4]) rfl rfl (by rfl) (by rfl) hb3.out size_col rfl (by simp [Value.oneCell']) ?_; intro w4 hb4 hgr4; have z4 := hgr4.size; have O4 := hide (OC.out.but (But.of_grown (S := fun k => k = w2.heap.size) hgr4 (fun k hk => by cases hk; rfl)) (fun k h1 h2 hk => by omega)); have X4 : Hid (Ext w2 w4) := X3.out.grown hgr4 (by intro k hk; cases hk; exact Nat.le_refl _); have hbx4 := hide hb4.box; clear hgr4 hb4)
  have hTB : w2.heap.size < Z.heap.size := by omega
  clear hsZ OC hb3 X3
  generalize Z.heap.size = B at *
  generalize w3.heap.size = G at *
  refine (Int64sEqual_same xs a (some ⟨w.heap.size, 0, none⟩) c xs.length w4 (hvals.out.ext X4.out) (horig.out.ext X4.out) (by omega)).mono ?_
  rintro e w5 ⟨rfl, x5⟩
  have O5 := hide (O4.out.ext x5)
  have hbx5 := hide (hbx4.out.ext x5)
  have X5 : Hid (Ext w2 w5) := X4.out.trans x5
  have z5 := x5.size
  clear x5 X4 O4 hbx4
  have k0 := hbx5.out 0 _ rfl
  have k1 := hbx5.out 1 _ rfl
  have k2 := hbx5.out 2 _ rfl
  have k3 := hbx5.out 3 _ rfl
  have k4 := hbx5.out 4 _ rfl
  by_cases hbg : 65536 < (xs.length : Int)
  · have hc0 := hbig.out (by omega)
    unfold col0 at hc0
    injection hc0 with e1 e2 e3 e4 e5
    subst e1 e2 e3 e4 e5
    have hz0 : Hid (ColAt w5 ⟨0, [], [], [], []⟩ none none none none) := ⟨IntsAt.nil _ _, IntsAt.nil _ _, IntsAt.nil _ _, PairsAt.nil _ _⟩
    clear hdec hRE hbig
    simp only [List.length_nil] at *
    go_wp2_with fail
    refine (ColumnEqual ⟨0, [], [], [], []⟩ a1 a2 a3 a4 none none none none c1 c2 c3 c4 0 0 0 0 w5 O5.out.colAt hz0 hl).mono ?_
    rintro e v1 ⟨rfl, x6⟩
    replace x6 := hide x6
    go_wp2
    go_ret
    exact ⟨rfl, (xw2.out.trans X5.out).trans x6.out⟩
  · obtain ⟨hV, hD⟩ := hdec.out (by omega)
    clear hdec hbig
    replace hV := hide hV
    replace hD := hide hD
    have l2 := hl.out.dict
    have l3 := hl.out.codes
    have l4 := hl.out.runs
    simp only at l2 l3 l4
    go_wp2
    refine Dr.region_held (fun b => b = w2.heap.size) [0] (by kernel_rfl) ?_
    refine Dr.held_q3 (by rfl) ?_
    go_wp2
    refine Dr.held_act (by rfl) (by rfl) ?_
    go_wp2_with fail
    clear k1 k2 k3 k4
    refine (hRE.out a c _ (hvals.out.ext X5.out.drew)).mono ?_
    rintro e v1 ⟨r1, r2, r3, r4, s1, s2, s3, s4, rfl, ho, xr⟩
    refine ⟨fun b hb => xr.block b (by simp only at hb; simp only [World.drew]; omega), ?_⟩
    simp only [colV, colArg]
    have y1 : Hid (Ext w5 v1) := (Ext.refl w5).drew.trans xr
    have zy1 := y1.out.size
    have hcr := hide ho.colAt
    clear ho xr
    refine Dr.held_act (by rfl) (by rfl) ?_
    go_wp2_with fail
    refine (ColumnEqual ⟨ck, cp, cd, cc, cr⟩ a1 a2 a3 a4 r1 r2 r3 r4 c1 c2 c3 c4 s1 s2 s3 s4 v1 (O5.out.colAt.extC y1.out) hcr hl).mono ?_
    rintro e v2 ⟨rfl, x6⟩
    refine ⟨fun b hb => x6.block b (by simp only at hb; omega), ?_⟩
    have y2 : Hid (Ext w5 v2) := y1.out.trans x6
    have k7 := y2.out.cell k0
    clear x6 y1 hcr zy1 k0
    refine Dr.held_q1 (by rfl) ?_
    go_wp2
    refine Dr.held_nil (by rfl) ⟨fun _ => ⟨w2.heap.size, 0, rfl, rfl, Dr.isCells_of k7⟩, trivial⟩ ?_
    clear k7
    have O6 := hide (O5.out.ext y2.out)
    have hbx6 := hide (hbx5.out.ext y2.out)
    have X6 : Hid (Ext w2 v2) := X5.out.trans y2.out
    have z6 := y2.out.size
    clear O5 hbx5 X5 y2
    have k0 := hbx6.out 0 _ rfl
    have k1 := hbx6.out 1 _ rfl
    have k2 := hbx6.out 2 _ rfl
    have k3 := hbx6.out 3 _ rfl
    have k4 := hbx6.out 4 _ rfl
    go_wp2_with fail
    clear k0 k1 k2 k3 k4
    have hdc := DecodeColumn_yes ck cp cd cc cr a1 a2 a3 a4 c1 c2 c3 c4 xs.length v2 O6.out.colAt (by omega) (by omega) (by omega) hV
    rw [hD.out] at hdc
    refine hdc.mono ?_
    clear hdc
    rintro e v3 ⟨pd, qd, rfl, od, xd⟩
    have idd := hide od.ints
    replace xd := hide xd
    clear od
    go_wp2_with fail
    refine (Int64sEqual_same xs pd a qd c v3 idd.out (hvals.out.ext (X6.out.trans xd.out)) (by omega)).mono ?_
    rintro e v4 ⟨rfl, x7⟩
    have O7 := hide (O6.out.ext (xd.out.trans x7))
    have hbx := hide (hbx6.out.ext (xd.out.trans x7))
    have xx : Hid (Ext w2 v4) := (X6.out.trans xd.out).trans x7
    have z7 := xx.out.size
    have z8 : w5.heap.size ≤ v4.heap.size := by have := xd.out.size; have := x7.size; omega
    clear O6 hbx6 X6 x7 xd idd
    have hl2 := (⟨rfl, hl.out⟩ : cp.length = cp.length ∧ LenC ⟨ck, cp, cd, cc, cr⟩)
    have hpr := fun m (m0 : 0 ≤ m) (m1 : m < 10) w (hC : Hid (OwnC 63 w B G ⟨ck, cp, cd, cc, cr⟩ a1 a2 a3 a4 c1 c2 c3 c4)) ht => prColumn ⟨ck, cp, cd, cc, cr⟩ a1 a2 a3 a4 c1 c2 c3 c4 B G m m0 m1 w hC ht hl2.2
    have hsp := fun w (hC : Hid (OwnC 63 w B G ⟨ck, cp, cd, cc, cr⟩ a1 a2 a3 a4 c1 c2 c3 c4)) ht => sepColumn ⟨ck, cp, cd, cc, cr⟩ a1 a2 a3 a4 c1 c2 c3 c4 B G w hC ht hl2.2
    simp only [cellsC, hl2.1, id] at hpr hsp
    replace hpr := hide hpr
    replace hsp := hide hsp
    clear hl2
    go_wp2
    go_loopw [11] (fun i wr => ∃ m : Nat, i = .int .i64 m ∧ m ≤ 2 ∧ Hid (OwnC 63 wr B G ⟨ck, cp, cd, cc, cr⟩ a1 a2 a3 a4 c1 c2 c3 c4) ∧ Hid (But (Rng B G) v4 wr)) (fun i _ => 2 - (intOf i).toNat)
    case atStart => exact ⟨0, rfl, by omega, O7.out, But.refl _ _⟩
    clear O7
    obtain ⟨m, rfl, hm, OM, BM⟩ := hrel
    have zM := BM.out.size
    have hbM := hide (BM.out.box hbx.out (by omega) (fun hr => by have := hr.1; omega))
    have xM : Hid (Ext w2 wr) := But.ext ((But.of_ext xx.out).trans BM.out) (fun k hr => by have := hr.1; omega)
    have k0 := hbM.out 0 _ rfl
    have k1 := hbM.out 1 _ rfl
    have k2 := hbM.out 2 _ rfl
    have k3 := hbM.out 3 _ rfl
    have k4 := hbM.out 4 _ rfl
    by_cases hm2 : m < 2
    · have hm2' : (m : Int) < 2 := by omega
      go_wp2_with fail
      clear k0 k1 k2 k3 k4
      refine (hpr.out m (by omega) (by omega) wr OM (by omega)).mono ?_
      rintro e v1 ⟨rfl, O1, B1⟩
      have xv : Hid (Ext w2 v1) := But.ext ((But.of_ext xM.out).trans B1) (fun k hr => by have := hr.1; omega)
      replace O1 := hide O1
      replace B1 := hide B1
      go_wp2_with fail
      refine (Int64sEqual_same xs _ (some ⟨w.heap.size, 0, none⟩) c xs.length v1 (hvals.out.ext xv.out) (horig.out.ext xv.out) (by omega)).mono ?_
      rintro e v2 ⟨rfl, x2⟩
      replace x2 := hide x2
      go_wp2
      go_roundw
      case rel => exact ⟨m + 1, by go_num, by omega, O1.out.ext x2.out, (BM.out.trans B1.out).trans (But.of_ext x2.out)⟩
      case measure => simp [intOf]; omega
    · obtain rfl : m = 2 := by omega
      clear hm hm2
      go_wp2_with fail
      clear k0 k1 k2 k3 k4
      refine (hsp.out wr OM (by omega)).mono ?_
      rintro e v1 ⟨rfl, O1, B1⟩
      have xv : Hid (Ext w2 v1) := But.ext ((But.of_ext xM.out).trans B1) (fun k hr => by have := hr.1; omega)
      clear O1 B1
      go_wp2
      go_ret
      exact ⟨rfl, xw2.out.trans xv.out⟩
set_option maxHeartbeats 16000000 in
theorem fnEncodeRound_2 (xs : List Int) (a : Option Addr) (c : Nat) (kd : Int) (w : World) (h : Hid (IntsAt w a xs)) (hb : ¬ 1048576 < (xs.length : Int)) (b1 : 0 ≤ kd) (b2 : kd ≤ 255) (hkd : kd % 3 = 2) :
    Calls Yaan.prog 6 #[.slice a xs.length c, .int .u8 kd] w (TrueE w) := by
  have hl := hide (encOf_len 2 xs)
  have hEB : Hid (∀ a c w, IntsAt w a xs → Calls Yaan.prog 28 #[.slice a xs.length c] w (RetC 63 (encOf 2 xs) w)) := fun a c w hh => EncodeRLE xs a c w hh
  have hRE : Hid (∀ a c w, IntsAt w a xs → Calls Yaan.prog 31 #[.slice a xs.length c, .int .i64 2] w (RetCol (encOf 2 xs) w)) := fun a c w hh => RefEncode 2 xs a c w hh (by omega)
  have hbig : Hid (65536 < xs.length → encOf 2 xs = col0) := fun hh => encOf_big _ _ hh
  have hdec : Hid (xs.length ≤ 65536 → Valid (encOf 2 xs) xs.length ∧ dec (encOf 2 xs) = xs) := fun hh => encOf_dec 2 xs hh (by omega)
  generalize encOf 2 xs = C at *
  obtain ⟨ck, cp, cd, cc, cr⟩ := C
  go_enter Yaan.func6, Yaan.ntmps6
  go_wp2_with (first
    | (at_make; refine mk_i64 rfl rfl xs.length rfl rfl (by omega) w.heap.size rfl ?_; intro w1 hown1 hx1 hsz1; replace hown1 := hide hown1; replace hx1 := hide hx1)
    | (refine wpList_cpI rfl rfl 2 Yaan.underlying48 size_int64 w.heap.size w.heap.size xs.length xs.length (List.replicate xs.length 0) xs (by rfl) (by simp) hown1.out a xs.length c (by rfl) rfl (h.out.ext hx1.out) (by simp) ?_; intro w2 hown2 hgr2; have hs2 := hgr2.size; have xw2 : Hid (Ext w w2) := hx1.out.grown hgr2 (by intro k hk; cases hk; exact Nat.le_refl _); have horig := hide hown2.ints; clear hgr2 hown2))
  have hvals := hide (h.out.ext xw2.out)
  have hbZ : Blk (w2.alloc (.cells #[.int .i64 0, .slice none 0 0, .slice none 0 0, .slice none 0 0, .slice none 0 0] 51)) w2.heap.size 51 colZ5 := Blk.new w2 _ _
  have xZ : Ext w2 (w2.alloc (.cells #[.int .i64 0, .slice none 0 0, .slice none 0 0, .slice none 0 0, .slice none 0 0] 51)) := (Ext.refl w2).alloc _
  have hsZ : (w2.alloc (.cells #[.int .i64 0, .slice none 0 0, .slice none 0 0, .slice none 0 0, .slice none 0 0] 51)).heap.size = w2.heap.size + 1 := by simp
  replace hbZ := hide hbZ
  replace xZ := hide xZ
  clear hown1 hx1
  generalize (w2.alloc (.cells #[.int .i64 0, .slice none 0 0, .slice none 0 0, .slice none 0 0, .slice none 0 0] 51)) = Z at *
  refine (hEB.out a c Z (hvals.out.ext xZ.out)).mono ?_
  rintro e w3 ⟨a1, a2, a3, a4, c1, c2, c3, c4, rfl, OC, x3⟩
  have hb3 := hide (hbZ.out.ext x3)
  have z3 := x3.size
  have X3 : Hid (Ext w2 w3) := xZ.out.trans x3
  replace OC := hide OC
  simp only [cellsC]
  clear x3 hbZ xZ hEB
  go_wp2_with (refine wpList_storeB (vs := [.int .i64 ck, .slice a1 cp.length c1, .slice a2 cd.length c2, .slice a3 cc.length c3, .slice a4 cr.length c4]) rfl rfl (by rfl) (by rfl) hb3.out size_col rfl (by simp [Value.oneCell']) ?_; intro w4 hb4 hgr4; have z4 := hgr4.size; have O4 := hide (OC.out.but (But.of_grown (S := fun k => k = w2.heap.size) hgr4 (fun k hk => by cases hk; rfl)) (fun k h1 h2 hk => by omega)); have X4 : Hid (Ext w2 w4) := X3.out.grown hgr4 (by intro k hk; cases hk; exact Nat.le_refl _); have hbx4 := hide hb4.box; clear hgr4 hb4)
  have hTB : w2.heap.size < Z.heap.size := by omega
  clear hsZ OC hb3 X3
  generalize Z.heap.size = B at *
  generalize w3.heap.size = G at *
  refine (Int64sEqual_same xs a (some ⟨w.heap.size, 0, none⟩) c xs.length w4 (hvals.out.ext X4.out) (horig.out.ext X4.out) (by omega)).mono ?_
  rintro e w5 ⟨rfl, x5⟩
  have O5 := hide (O4.out.ext x5)
  have hbx5 := hide (hbx4.out.ext x5)
  have X5 : Hid (Ext w2 w5) := X4.out.trans x5
  have z5 := x5.size
  clear x5 X4 O4 hbx4
  have k0 := hbx5.out 0 _ rfl
  have k1 := hbx5.out 1 _ rfl
  have k2 := hbx5.out 2 _ rfl
  have k3 := hbx5.out 3 _ rfl
  have k4 := hbx5.out 4 _ rfl
  by_cases hbg : 65536 < (xs.length : Int)
  · have hc0 := hbig.out (by omega)
    unfold col0 at hc0
    injection hc0 with e1 e2 e3 e4 e5
    subst e1 e2 e3 e4 e5
    have hz0 : Hid (ColAt w5 ⟨0, [], [], [], []⟩ none none none none) := ⟨IntsAt.nil _ _, IntsAt.nil _ _, IntsAt.nil _ _, PairsAt.nil _ _⟩
    clear hdec hRE hbig
    simp only [List.length_nil] at *
    go_wp2_with fail
    refine (ColumnEqual ⟨0, [], [], [], []⟩ a1 a2 a3 a4 none none none none c1 c2 c3 c4 0 0 0 0 w5 O5.out.colAt hz0 hl).mono ?_
    rintro e v1 ⟨rfl, x6⟩
    replace x6 := hide x6
    go_wp2
    go_ret
    exact ⟨rfl, (xw2.out.trans X5.out).trans x6.out⟩
  · obtain ⟨hV, hD⟩ := hdec.out (by omega)
    clear hdec hbig
    replace hV := hide hV
    replace hD := hide hD
    have l2 := hl.out.dict
    have l3 := hl.out.codes
    have l4 := hl.out.runs
    simp only at l2 l3 l4
    go_wp2
    refine Dr.region_held (fun b => b = w2.heap.size) [0] (by kernel_rfl) ?_
    refine Dr.held_q3 (by rfl) ?_
    go_wp2
    refine Dr.held_act (by rfl) (by rfl) ?_
    go_wp2_with fail
    clear k1 k2 k3 k4
    refine (hRE.out a c _ (hvals.out.ext X5.out.drew)).mono ?_
    rintro e v1 ⟨r1, r2, r3, r4, s1, s2, s3, s4, rfl, ho, xr⟩
    refine ⟨fun b hb => xr.block b (by simp only at hb; simp only [World.drew]; omega), ?_⟩
    simp only [colV, colArg]
    have y1 : Hid (Ext w5 v1) := (Ext.refl w5).drew.trans xr
    have zy1 := y1.out.size
    have hcr := hide ho.colAt
    clear ho xr
    refine Dr.held_act (by rfl) (by rfl) ?_
    go_wp2_with fail
    refine (ColumnEqual ⟨ck, cp, cd, cc, cr⟩ a1 a2 a3 a4 r1 r2 r3 r4 c1 c2 c3 c4 s1 s2 s3 s4 v1 (O5.out.colAt.extC y1.out) hcr hl).mono ?_
    rintro e v2 ⟨rfl, x6⟩
    refine ⟨fun b hb => x6.block b (by simp only at hb; omega), ?_⟩
    have y2 : Hid (Ext w5 v2) := y1.out.trans x6
    have k7 := y2.out.cell k0
    clear x6 y1 hcr zy1 k0
    refine Dr.held_q1 (by rfl) ?_
    go_wp2
    refine Dr.held_nil (by rfl) ⟨fun _ => ⟨w2.heap.size, 0, rfl, rfl, Dr.isCells_of k7⟩, trivial⟩ ?_
    clear k7
    have O6 := hide (O5.out.ext y2.out)
    have hbx6 := hide (hbx5.out.ext y2.out)
    have X6 : Hid (Ext w2 v2) := X5.out.trans y2.out
    have z6 := y2.out.size
    clear O5 hbx5 X5 y2
    have k0 := hbx6.out 0 _ rfl
    have k1 := hbx6.out 1 _ rfl
    have k2 := hbx6.out 2 _ rfl
    have k3 := hbx6.out 3 _ rfl
    have k4 := hbx6.out 4 _ rfl
    go_wp2_with fail
    clear k0 k1 k2 k3 k4
    have hdc := DecodeColumn_yes ck cp cd cc cr a1 a2 a3 a4 c1 c2 c3 c4 xs.length v2 O6.out.colAt (by omega) (by omega) (by omega) hV
    rw [hD.out] at hdc
    refine hdc.mono ?_
    clear hdc
    rintro e v3 ⟨pd, qd, rfl, od, xd⟩
    have idd := hide od.ints
    replace xd := hide xd
    clear od
    go_wp2_with fail
    refine (Int64sEqual_same xs pd a qd c v3 idd.out (hvals.out.ext (X6.out.trans xd.out)) (by omega)).mono ?_
    rintro e v4 ⟨rfl, x7⟩
    have O7 := hide (O6.out.ext (xd.out.trans x7))
    have hbx := hide (hbx6.out.ext (xd.out.trans x7))
    have xx : Hid (Ext w2 v4) := (X6.out.trans xd.out).trans x7
    have z7 := xx.out.size
    have z8 : w5.heap.size ≤ v4.heap.size := by have := xd.out.size; have := x7.size; omega
    clear O6 hbx6 X6 x7 xd idd
    have hl2 := (⟨rfl, hl.out⟩ : cp.length = cp.length ∧ LenC ⟨ck, cp, cd, cc, cr⟩)
    have hpr := fun m (m0 : 0 ≤ m) (m1 : m < 10) w (hC : Hid (OwnC 63 w B G ⟨ck, cp, cd, cc, cr⟩ a1 a2 a3 a4 c1 c2 c3 c4)) ht => prColumn ⟨ck, cp, cd, cc, cr⟩ a1 a2 a3 a4 c1 c2 c3 c4 B G m m0 m1 w hC ht hl2.2
    have hsp := fun w (hC : Hid (OwnC 63 w B G ⟨ck, cp, cd, cc, cr⟩ a1 a2 a3 a4 c1 c2 c3 c4)) ht => sepColumn ⟨ck, cp, cd, cc, cr⟩ a1 a2 a3 a4 c1 c2 c3 c4 B G w hC ht hl2.2
    simp only [cellsC, hl2.1, id] at hpr hsp
    replace hpr := hide hpr
    replace hsp := hide hsp
    clear hl2
    go_wp2
    go_loopw [11] (fun i wr => ∃ m : Nat, i = .int .i64 m ∧ m ≤ 2 ∧ Hid (OwnC 63 wr B G ⟨ck, cp, cd, cc, cr⟩ a1 a2 a3 a4 c1 c2 c3 c4) ∧ Hid (But (Rng B G) v4 wr)) (fun i _ => 2 - (intOf i).toNat)
    case atStart => exact ⟨0, rfl, by omega, O7.out, But.refl _ _⟩
    clear O7
    obtain ⟨m, rfl, hm, OM, BM⟩ := hrel
    have zM := BM.out.size
    have hbM := hide (BM.out.box hbx.out (by omega) (fun hr => by have := hr.1; omega))
    have xM : Hid (Ext w2 wr) := But.ext ((But.of_ext xx.out).trans BM.out) (fun k hr => by have := hr.1; omega)
    have k0 := hbM.out 0 _ rfl
    have k1 := hbM.out 1 _ rfl
    have k2 := hbM.out 2 _ rfl
    have k3 := hbM.out 3 _ rfl
    have k4 := hbM.out 4 _ rfl
    by_cases hm2 : m < 2
    · have hm2' : (m : Int) < 2 := by omega
      go_wp2_with fail
      clear k0 k1 k2 k3 k4
      refine (hpr.out m (by omega) (by omega) wr OM (by omega)).mono ?_
      rintro e v1 ⟨rfl, O1, B1⟩
      have xv : Hid (Ext w2 v1) := But.ext ((But.of_ext xM.out).trans B1) (fun k hr => by have := hr.1; omega)
      replace O1 := hide O1
      replace B1 := hide B1
      go_wp2_with fail
      refine (Int64sEqual_same xs _ (some ⟨w.heap.size, 0, none⟩) c xs.length v1 (hvals.out.ext xv.out) (horig.out.ext xv.out) (by omega)).mono ?_
      rintro e v2 ⟨rfl, x2⟩
      replace x2 := hide x2
      go_wp2
      go_roundw
      case rel => exact ⟨m + 1, by go_num, by omega, O1.out.ext x2.out, (BM.out.trans B1.out).trans (But.of_ext x2.out)⟩
      case measure => simp [intOf]; omega
    · obtain rfl : m = 2 := by omega
      clear hm hm2
      go_wp2_with fail
      clear k0 k1 k2 k3 k4
      refine (hsp.out wr OM (by omega)).mono ?_
      rintro e v1 ⟨rfl, O1, B1⟩
      have xv : Hid (Ext w2 v1) := But.ext ((But.of_ext xM.out).trans B1) (fun k hr => by have := hr.1; omega)
      clear O1 B1
      go_wp2
      go_ret
      exact ⟨rfl, xw2.out.trans xv.out⟩
set_option maxHeartbeats 1000000 in
theorem fnEncodeRound_walk (xs : List Int) (a : Option Addr) (c : Nat) (kd : Int) (w : World) (h : IntsAt w a xs) (b1 : 0 ≤ kd) (b2 : kd ≤ 255) :
    Calls Yaan.prog 6 #[.slice a xs.length c, .int .u8 kd] w (TrueE w) := by
  by_cases hb : 1048576 < (xs.length : Int)
  · clear h
    go_enter Yaan.func6, Yaan.ntmps6
    go_wp2
    go_ret
    exact ⟨rfl, Ext.refl w⟩
  · rcases (by omega : kd % 3 = 0 ∨ kd % 3 = 1 ∨ kd % 3 = 2) with hk | hk | hk
    · exact fnEncodeRound_0 xs a c kd w h hb b1 b2 hk
    · exact fnEncodeRound_1 xs a c kd w h hb b1 b2 hk
    · exact fnEncodeRound_2 xs a c kd w h hb b1 b2 hk
end Go.Proofs.Ybyaaw
