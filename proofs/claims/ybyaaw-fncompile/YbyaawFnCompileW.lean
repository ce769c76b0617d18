/- Walk: laws.FnCompile -/
import Derived.Test.YbyaawMut
import Derived.Test.YbyaawGen1
import Derived.Test.YbyaawCmp6
import Derived.Test.YbyaawSpc6
import Derived.Test.YbyaawVPl
import Derived.Test.YbyaawEval3
import Derived.Test.YbyaawRefParse
namespace Go.Proofs.Ybyaaw
open Go.RowKit
set_option maxRecDepth 100000
set_option linter.unusedVariables false
set_option linter.unusedSimpArgs false

theorem evAt_eq (nd : List Nd) (row : List Int) (x : Nat) : evAt nd row (x : Int) = evX nd row x := by
  unfold evAt evX
  rw [Int.toNat_natCast]
  simp only [evTo]
  rw [List.getD_eq_getElem?_getD, List.getElem?_append_right (by rw [evTo_len]; omega), evTo_len]
  simp
theorem evOK_of {nd : List Nd} {row : List Int} (hw : WfA nd row.length) {x : Nat} (hx : x < nd.length) : evOK nd row x := ⟨by omega, by omega, fun i hi => hw i (by omega)⟩
def RetRx (n m : Nat) (w : World) : Ending → World → Prop := fun en w' => ∃ (rn : Nat) (f : Nat → List Int) (a : Option Addr) (cap : Nat), rn ≤ m ∧ en = .returned (.slice a rn cap) ∧ IRows w' a rn f ∧ (∀ i, i < rn → (f i).length = n) ∧ Ext w w'
theorem RowsFromAll (cells : List Int) (a : Option Addr) (c n : Nat) (w : World) (h : Hid (IntsAt w a cells)) (lc : cells.length ≤ 1048576) (hn : n ≤ 65535) :
    Calls Yaan.prog 38 #[.slice a cells.length c, .int .i64 n] w (RetRx n cells.length w) := by
  by_cases h0 : n = 0
  · subst h0
    refine (RowsFrom_0 cells a c w (by omega)).mono ?_
    rintro e w' ⟨a', cap, rfl, hr, hx⟩
    exact ⟨_, _, a', cap, Nat.le_refl _, rfl, hr, fun i hi => rfl, hx⟩
  · refine (RowsFrom_1 cells a c n w h (by omega) (by omega) (by omega)).mono ?_
    rintro e w' ⟨a', cap, rfl, hr, hx⟩
    refine ⟨_, _, a', cap, Nat.div_le_self _ _, rfl, hr, fun i hi => rowsF_len _ _ _ ?_, hx⟩
    have h1 : (i + 1) * n ≤ cells.length / n * n := Nat.mul_le_mul_right _ hi
    have h2 := Nat.div_mul_le_self cells.length n
    rw [Nat.add_mul] at h1
    omega
/-- What the rows' loops read. -/
structure FcAt (W : World) (Qb Pb : Nat) (q : Qy) (p : Pl) (ia na ga ca pi pg : Option Addr) (ic nc gc cc pic pgc : Nat) (ra : Option Addr) (rn : Nat) (f : Nat → List Int) : Prop where
  qb : Box W Qb (qCells q ia na ga ic nc gc)
  pb : Box W Pb (plCells p ca pi pg cc pic pgc)
  q : QAt2 W q ia na ga
  p : PAt W p ca pi pg
  r : IRows W ra rn f
theorem FcAt.ext {W W' : World} {Qb Pb : Nat} {q : Qy} {p : Pl} {ia na ga ca pi pg : Option Addr} {ic nc gc cc pic pgc : Nat} {ra : Option Addr} {rn : Nat} {f : Nat → List Int} (h : FcAt W Qb Pb q p ia na ga ca pi pg ic nc gc cc pic pgc ra rn f) (he : Ext W W') : FcAt W' Qb Pb q p ia na ga ca pi pg ic nc gc cc pic pgc ra rn f :=
  ⟨h.qb.ext he, h.pb.ext he, h.q.ext he, h.p.ext he, h.r.ext he⟩
set_option maxHeartbeats 16000000 in
theorem FnCompile (zs cells : List Int) (a ce : Option Addr) (c cec : Nat) (u : Int) (w : World) (h : Hid (BytesAt w a zs)) (hce : Hid (IntsAt w ce cells)) (hu0 : 0 ≤ u) (hu1 : u ≤ 65535) :
    Calls Yaan.prog 9 #[.slice a zs.length c, .int .u16 u, .slice ce cells.length cec] w (RetTrue w) := by
  by_cases hz : 1048576 < zs.length
  · have hz' : 1048576 < (zs.length : Int) := by omega
    go_enter Yaan.func9, Yaan.ntmps9
    go_wp2
    go_ret
    exact ⟨rfl, Ext.refl w⟩
  have hz' : ¬ 1048576 < (zs.length : Int) := by omega
  by_cases hs : 1048576 < cells.length
  · have hs' : 1048576 < (cells.length : Int) := by omega
    go_enter Yaan.func9, Yaan.ntmps9
    go_wp2
    go_ret
    exact ⟨rfl, Ext.refl w⟩
  have hs' : ¬ 1048576 < (cells.length : Int) := by omega
  go_enter Yaan.func9, Yaan.ntmps9
  go_wp2_with fail
  refine (QueryText zs a c w h (by omega)).mono ?_
  rintro e w1 ⟨x1, l, rfl⟩
  have X1 : Hid (Ext w w1) := x1
  clear x1
  obtain ⟨t, ht⟩ : ∃ t, tx l = t := ⟨_, rfl⟩
  rw [ht]
  clear ht
  go_wp2_with fail
  refine (RefParse t w1).mono ?_
  rintro e w4 ⟨x4, ⟨hp, rfl⟩ | ⟨q, ia, na, ga, ic, nc, gc, hp, rfl, hq⟩⟩
  · have X4 : Hid (Ext w (w4.alloc (.cells #[.slice none 0 0, .slice none 0 0, .int .i64 0, .slice none 0 0, .int .i64 0] 36))) := (X1.out.trans x4).alloc _
    clear x4 hp
    simp only [qz]
    go_wp2
    go_ret
    exact ⟨rfl, X4.out⟩
  clear hp
  obtain ⟨its, nd, wh, gr, li⟩ := q
  have X4 : Hid (Ext w (w4.alloc (.cells #[.slice ia its.length ic, .slice na nd.length nc, .int .i64 wh, .slice ga gr.length gc, .int .i64 li] 36))) := (X1.out.trans x4).alloc _
  have hb4 : Hid (w1.heap.size ≤ w4.heap.size) := x4.size
  have b4 : Hid (Blk (w4.alloc (.cells #[.slice ia its.length ic, .slice na nd.length nc, .int .i64 wh, .slice ga gr.length gc, .int .i64 li] 36)) w4.heap.size 36 [.slice ia its.length ic, .slice na nd.length nc, .int .i64 wh, .slice ga gr.length gc, .int .i64 li]) := Blk.new w4 _ _
  have hq4 : Hid (OwnQ (w4.alloc (.cells #[.slice ia its.length ic, .slice na nd.length nc, .int .i64 wh, .slice ga gr.length gc, .int .i64 li] 36)) w1.heap.size ⟨its, nd, wh, gr, li⟩ ia na ga ic nc gc) := ⟨hq.its.alloc _, hq.nd.alloc _, hq.gr.alloc _, hq.li, hq.ln, hq.lg, hq.ne⟩
  have hW4 : Hid ((w4.alloc (.cells #[.slice ia its.length ic, .slice na nd.length nc, .int .i64 wh, .slice ga gr.length gc, .int .i64 li] 36)).heap.size = w4.heap.size + 1) := by show _ = _; simp
  have hQw : Hid (w.heap.size ≤ w4.heap.size) := Nat.le_trans X1.out.size x4.size
  clear x4 hq
  simp only [qCells]
  go_upto_region 6 with fail
  generalize (w4.alloc (.cells #[.slice ia its.length ic, .slice na nd.length nc, .int .i64 wh, .slice ga gr.length gc, .int .i64 li] 36)) = W4 at *
  generalize w4.heap.size = Q at *
  go_cut [51] from 26 (fun v wc => ∃ bq : Bool, v = .bool bq ∧ Hid (bq = true → 0 < zs.length) ∧ W4 = wc)
  case first =>
    by_cases hz0 : zs.length = 0
    · have hz0' : ¬ (0 : Int) < zs.length := by omega
      replace hz0 := hide hz0
      go_wp2_with fail
      go_meet
      case rel => exact ⟨false, rfl, fun hh => (by cases hh), rfl⟩
    · have hz0' : (0 : Int) < zs.length := by omega
      obtain ⟨b, off, rfl, z1, z2, z3⟩ := (h.out.ext X4.out) 0 (by omega)
      obtain ⟨m, hm⟩ : ∃ m, Hid (zs.getD 0 0 = m) := ⟨_, rfl⟩
      rw [hm.out] at z1 z2 z3
      rw [Nat.add_zero] at z1
      have hzl : 0 < zs.length := by omega
      replace hz0 := hide hz0
      by_cases hm3 : m % 3 = 0
      · have hm3' : (m % 3 == 0) = true := by simp [hm3]
        replace hm3 := hide hm3
        go_wp2_with fail
        go_meet
        case rel => exact ⟨true, rfl, fun _ => hzl, rfl⟩
      · have hm3' : (m % 3 == 0) = false := by simp [hm3]
        replace hm3 := hide hm3
        go_wp2_with fail
        go_meet
        case rel => exact ⟨false, rfl, fun hh => (by cases hh), rfl⟩
  case rest =>
  obtain ⟨bq, rfl, hbq, rfl⟩ := hcut
  go_upto_if 51 with fail
  go_cut [] from 26 (fun wc => ∃ (q : Qy) (ia na ga : Option Addr) (ic nc gc : Nat), Hid (Blk wc Q 36 (qCells q ia na ga ic nc gc)) ∧ Hid (QAt2 wc q ia na ga) ∧ Hid (Ext w wc))
  case first =>
    cases bq with
    | true =>
      have hzl := hbq.out rfl
      have p0 := b4.out.box 0 _ rfl
      have p1 := b4.out.box 1 _ rfl
      have p2 := b4.out.box 2 _ rfl
      have p3 := b4.out.box 3 _ rfl
      have p4 := b4.out.box 4 _ rfl
      go_wp2_with fail
      refine (mutate ⟨its, nd, wh, gr, li⟩ ia na ga ic nc gc zs a c w1.heap.size W4 hq4 (by have := hb4.out; have := hW4.out; omega) (h.out.ext X4.out) hzl (by omega)).mono ?_
      rintro e w5 ⟨q5, i5, n5, g5, ic5, nc5, gc5, rfl, hA5, hB5, hK5⟩
      have b5 := hide (hK5 _ _ b4.out)
      have X5 : Hid (Ext w w5) := Below.trans X4.out (Below.mono hB5 X1.out.size)
      have hA5' := hide hA5
      clear hA5 hB5 hK5 p0 p1 p2 p3 p4
      go_wp2_with (refine wpList_storeB (vs := qCells q5 i5 n5 g5 ic5 nc5 gc5) rfl rfl (by rfl) (by rfl) b5.out size_query rfl (by simp [qCells, Value.oneCell']) ?_; intro w6 b6 g6; have hf6 : Hid (FrT 36 w.heap.size w5 w6) := But.of_grown g6 (fun q hq => by cases hq; exact ⟨hQw.out, _, _, b5.out⟩); replace b6 := hide b6; clear g6)
      go_meet
      case rel => exact ⟨q5, i5, n5, g5, ic5, nc5, gc5, b6.out, (hA5'.out.fr hf6.out).at, Below.trans X5.out (But.below hf6.out (fun k hk => hk.1) X5.out.size)⟩
    | false =>
      go_wp2_with fail
      go_meet
      case rel => exact ⟨⟨its, nd, wh, gr, li⟩, ia, na, ga, ic, nc, gc, b4.out, hq4.out.at2, X4.out⟩
  case rest =>
    clear b4 hq4 X4 hW4 hb4 X1 hQw
    obtain ⟨q, ia', na', ga', ic', nc', gc', b4, hq4, X4⟩ := hcut
    obtain ⟨its', nd', wh', gr', li'⟩ := q
    obtain ⟨n, hn⟩ : ∃ n : Nat, Hid (u % 300 = (n : Int)) := ⟨(u % 300).toNat, by show _ = _; omega⟩
    have hn3 : n < 300 := by have := hn.out; omega
    have hnu : u % 300 = (n : Int) := hn.out
    have p0 := b4.out.box 0 _ rfl
    have p1 := b4.out.box 1 _ rfl
    have p2 := b4.out.box 2 _ rfl
    have p3 := b4.out.box 3 _ rfl
    have p4 := b4.out.box 4 _ rfl
    simp only [qCells] at p0 p1 p2 p3 p4
    go_wp2_with fail
    refine (Compile ⟨its', nd', wh', gr', li'⟩ ia' na' ga' ic' nc' gc' n wc hq4.out.its hq4.out.nd hq4.out.gr hq4.out.li hq4.out.ln hq4.out.lg (by omega)).mono ?_
    rintro e w5 ⟨x5, hcase⟩
    clear p0 p1 p2 p3 p4
    rcases hcase with ⟨hno, rfl⟩ | ⟨hcm, ca, pi, pg, cc, pic, pgc, rfl, hpl⟩
    · have X5 : Hid (Ext w (w5.alloc (.cells #[.int .i64 0, .slice none 0 0, .int .i64 0, .slice none 0 0, .slice none 0 0, .int .i64 0, .bool false] 81))) := (X4.out.trans x5).alloc _
      have hq5 := hide ((hq4.out.ext x5).ext ((Ext.refl w5).alloc (.cells #[.int .i64 0, .slice none 0 0, .int .i64 0, .slice none 0 0, .slice none 0 0, .int .i64 0, .bool false] 81)))
      have b5 := hide ((b4.out.ext x5).alloc (.cells #[.int .i64 0, .slice none 0 0, .int .i64 0, .slice none 0 0, .slice none 0 0, .int .i64 0, .bool false] 81))
      have r5 : Hid (Blk (w5.alloc (.cells #[.int .i64 0, .slice none 0 0, .int .i64 0, .slice none 0 0, .slice none 0 0, .int .i64 0, .bool false] 81)) w5.heap.size 81 plz) := Blk.new w5 _ _
      replace hno := hide hno
      clear x5 b4 hq4 X4
      simp only [plz]
      have p0 := b5.out.box 0 _ rfl
      have p1 := b5.out.box 1 _ rfl
      have p2 := b5.out.box 2 _ rfl
      have p3 := b5.out.box 3 _ rfl
      have p4 := b5.out.box 4 _ rfl
      simp only [qCells] at p0 p1 p2 p3 p4
      go_wp2_with fail
      generalize (w5.alloc (.cells #[.int .i64 0, .slice none 0 0, .int .i64 0, .slice none 0 0, .slice none 0 0, .int .i64 0, .bool false] 81)) = W5 at *
      refine (RefCompile ⟨its', nd', wh', gr', li'⟩ ia' na' ga' ic' nc' gc' n W5 hq5.out.its hq5.out.nd hq5.out.gr hq5.out.li hq5.out.ln hq5.out.lg (by omega)).mono ?_
      rintro e w6 ⟨x6, ⟨_, rfl⟩ | ⟨hcm, _⟩⟩
      rotate_left
      · exact absurd hcm hno.out
      have X6 : Hid (Ext w (w6.alloc (.cells #[.int .i64 0, .slice none 0 0, .int .i64 0, .slice none 0 0, .slice none 0 0, .int .i64 0, .bool false] 81))) := (X5.out.trans x6).alloc _
      have r6 := hide ((r5.out.ext x6).alloc (.cells #[.int .i64 0, .slice none 0 0, .int .i64 0, .slice none 0 0, .slice none 0 0, .int .i64 0, .bool false] 81))
      have r7 : Hid (Blk (w6.alloc (.cells #[.int .i64 0, .slice none 0 0, .int .i64 0, .slice none 0 0, .slice none 0 0, .int .i64 0, .bool false] 81)) w6.heap.size 81 plz) := Blk.new w6 _ _
      clear x6 p0 p1 p2 p3 p4 r5 b5 hq5 X5
      simp only [plz]
      have s0 := r6.out.box 0 _ rfl
      have s1 := r6.out.box 1 _ rfl
      have s2 := r6.out.box 2 _ rfl
      have s3 := r6.out.box 3 _ rfl
      have s4 := r6.out.box 4 _ rfl
      have s5 := r6.out.box 5 _ rfl
      have s6 := r6.out.box 6 _ rfl
      go_wp2_with fail
      generalize (w6.alloc (.cells #[.int .i64 0, .slice none 0 0, .int .i64 0, .slice none 0 0, .slice none 0 0, .int .i64 0, .bool false] 81)) = W6 at *
      refine (PlanEqual_same p00 none none none none none none 0 0 0 0 0 0 W6 (PAt.zero _) (PAt.zero _)).mono ?_
      rintro e w7 ⟨rfl, x7⟩
      have X7 : Hid (Ext w w7) := X6.out.trans x7
      clear x7
      go_wp2
      go_ret
      exact ⟨rfl, X7.out⟩
    · have law := plan_law hcm
      obtain ⟨p, hp⟩ : ∃ p, Hid (plan ⟨its', nd', wh', gr', li'⟩ n = p) := ⟨_, rfl⟩
      have hgrp : Hid (p.gr = gr') := by show _ = _; rw [← hp.out]; rfl
      rw [hp.out] at law hpl
      rw [hp.out]
      obtain ⟨pn, pc, pw, pit, pgr, pli, pag⟩ := p
      obtain ⟨hPok, hpcl, hpil, hlw, hlit⟩ := law
      simp only at hpcl hpil hlw hlit hgrp
      replace hPok := hide hPok
      replace hpcl := hide hpcl
      replace hpil := hide hpil
      replace hlw := hide hlw
      replace hlit := hide hlit
      replace hcm := hide hcm
      have hwp : Hid (WfA pc n) := by
        have h1 := hPok.out.wf
        have h2 : pn = (n : Int) := by have := congrArg Pl.nc hp.out; exact this.symm
        simp only at h1
        rw [h2] at h1
        exact h1
      have X5 : Hid (Ext w (w5.alloc (.cells #[.int .i64 pn, .slice ca pc.length cc, .int .i64 pw, .slice pi pit.length pic, .slice pg pgr.length pgc, .int .i64 pli, .bool pag] 81))) := (X4.out.trans x5).alloc _
      have hq5 := hide ((hq4.out.ext x5).ext ((Ext.refl w5).alloc (.cells #[.int .i64 pn, .slice ca pc.length cc, .int .i64 pw, .slice pi pit.length pic, .slice pg pgr.length pgc, .int .i64 pli, .bool pag] 81)))
      have b5 := hide ((b4.out.ext x5).alloc (.cells #[.int .i64 pn, .slice ca pc.length cc, .int .i64 pw, .slice pi pit.length pic, .slice pg pgr.length pgc, .int .i64 pli, .bool pag] 81))
      have r5 : Hid (Blk (w5.alloc (.cells #[.int .i64 pn, .slice ca pc.length cc, .int .i64 pw, .slice pi pit.length pic, .slice pg pgr.length pgc, .int .i64 pli, .bool pag] 81)) w5.heap.size 81 (plCells ⟨pn, pc, pw, pit, pgr, pli, pag⟩ ca pi pg cc pic pgc)) := Blk.new w5 _ _
      have hP5 : Hid (PAt (w5.alloc (.cells #[.int .i64 pn, .slice ca pc.length cc, .int .i64 pw, .slice pi pit.length pic, .slice pg pgr.length pgc, .int .i64 pli, .bool pag] 81)) ⟨pn, pc, pw, pit, pgr, pli, pag⟩ ca pi pg) := (hpl.at (by have := hpcl.out; have := hq4.out.ln; simp only at this ⊢; omega) (by have := hpil.out; have := hq4.out.li; simp only at this ⊢; omega) (by have h1 := hgrp.out; have := hq4.out.lg; simp only at this ⊢; rw [h1]; exact this)).ext ((Ext.refl w5).alloc _)
      clear x5 b4 hq4 X4 hpl
      simp only [plCells]
      have p0 := b5.out.box 0 _ rfl
      have p1 := b5.out.box 1 _ rfl
      have p2 := b5.out.box 2 _ rfl
      have p3 := b5.out.box 3 _ rfl
      have p4 := b5.out.box 4 _ rfl
      simp only [qCells] at p0 p1 p2 p3 p4
      go_wp2_with fail
      generalize (w5.alloc (.cells #[.int .i64 pn, .slice ca pc.length cc, .int .i64 pw, .slice pi pit.length pic, .slice pg pgr.length pgc, .int .i64 pli, .bool pag] 81)) = W5 at *
      generalize w5.heap.size = PB at *
      refine (RefCompile ⟨its', nd', wh', gr', li'⟩ ia' na' ga' ic' nc' gc' n W5 hq5.out.its hq5.out.nd hq5.out.gr hq5.out.li hq5.out.ln hq5.out.lg (by omega)).mono ?_
      rintro e w6 ⟨x6, ⟨hno, _⟩ | ⟨_, ca2, pi2, pg2, cc2, pic2, pgc2, rfl, hpl2⟩⟩
      · exact absurd hcm.out hno
      rw [hp.out] at hpl2
      rw [hp.out]
      have X6 : Hid (Ext w (w6.alloc (.cells #[.int .i64 pn, .slice ca2 pc.length cc2, .int .i64 pw, .slice pi2 pit.length pic2, .slice pg2 pgr.length pgc2, .int .i64 pli, .bool pag] 81))) := (X5.out.trans x6).alloc _
      have hq6 := hide ((hq5.out.ext x6).ext ((Ext.refl w6).alloc (.cells #[.int .i64 pn, .slice ca2 pc.length cc2, .int .i64 pw, .slice pi2 pit.length pic2, .slice pg2 pgr.length pgc2, .int .i64 pli, .bool pag] 81)))
      have b6 := hide ((b5.out.ext x6).alloc (.cells #[.int .i64 pn, .slice ca2 pc.length cc2, .int .i64 pw, .slice pi2 pit.length pic2, .slice pg2 pgr.length pgc2, .int .i64 pli, .bool pag] 81))
      have r6 := hide ((r5.out.ext x6).alloc (.cells #[.int .i64 pn, .slice ca2 pc.length cc2, .int .i64 pw, .slice pi2 pit.length pic2, .slice pg2 pgr.length pgc2, .int .i64 pli, .bool pag] 81))
      have hP6 := hide ((hP5.out.ext x6).ext ((Ext.refl w6).alloc (.cells #[.int .i64 pn, .slice ca2 pc.length cc2, .int .i64 pw, .slice pi2 pit.length pic2, .slice pg2 pgr.length pgc2, .int .i64 pli, .bool pag] 81)))
      have tt6 : Hid (Blk (w6.alloc (.cells #[.int .i64 pn, .slice ca2 pc.length cc2, .int .i64 pw, .slice pi2 pit.length pic2, .slice pg2 pgr.length pgc2, .int .i64 pli, .bool pag] 81)) w6.heap.size 81 (plCells ⟨pn, pc, pw, pit, pgr, pli, pag⟩ ca2 pi2 pg2 cc2 pic2 pgc2)) := Blk.new w6 _ _
      have hP6b : Hid (PAt (w6.alloc (.cells #[.int .i64 pn, .slice ca2 pc.length cc2, .int .i64 pw, .slice pi2 pit.length pic2, .slice pg2 pgr.length pgc2, .int .i64 pli, .bool pag] 81)) ⟨pn, pc, pw, pit, pgr, pli, pag⟩ ca2 pi2 pg2) := (hpl2.at hP5.out.lc hP5.out.li hP5.out.lg).ext ((Ext.refl w6).alloc _)
      clear x6 p0 p1 p2 p3 p4 r5 b5 hq5 X5 hP5 hpl2
      simp only [plCells]
      have s0 := r6.out.box 0 _ rfl
      have s1 := r6.out.box 1 _ rfl
      have s2 := r6.out.box 2 _ rfl
      have s3 := r6.out.box 3 _ rfl
      have s4 := r6.out.box 4 _ rfl
      have s5 := r6.out.box 5 _ rfl
      have s6 := r6.out.box 6 _ rfl
      have z0 := tt6.out.box 0 _ rfl
      have z1 := tt6.out.box 1 _ rfl
      have z2 := tt6.out.box 2 _ rfl
      have z3 := tt6.out.box 3 _ rfl
      have z4 := tt6.out.box 4 _ rfl
      have z5 := tt6.out.box 5 _ rfl
      have z6 := tt6.out.box 6 _ rfl
      go_wp2_with fail
      generalize (w6.alloc (.cells #[.int .i64 pn, .slice ca2 pc.length cc2, .int .i64 pw, .slice pi2 pit.length pic2, .slice pg2 pgr.length pgc2, .int .i64 pli, .bool pag] 81)) = W6 at *
      refine (PlanEqual_same ⟨pn, pc, pw, pit, pgr, pli, pag⟩ ca pi pg ca2 pi2 pg2 cc pic pgc cc2 pic2 pgc2 W6 hP6 hP6b).mono ?_
      rintro e w7 ⟨rfl, x7⟩
      have X7 : Hid (Ext W6 w7) := x7
      clear x7 s0 s1 s2 s3 s4 s5 s6 z0 z1 z2 z3 z4 z5 z6 hP6b tt6
      have r7 := hide (r6.out.ext X7.out)
      have s0 := r7.out.box 0 _ rfl
      have s1 := r7.out.box 1 _ rfl
      have s2 := r7.out.box 2 _ rfl
      have s3 := r7.out.box 3 _ rfl
      have s4 := r7.out.box 4 _ rfl
      have s5 := r7.out.box 5 _ rfl
      have s6 := r7.out.box 6 _ rfl
      go_wp2_with fail
      refine (ValidPlan_ok ⟨pn, pc, pw, pit, pgr, pli, pag⟩ ca pi pg cc pic pgc w7 (hP6.out.ext X7.out) hPok).mono ?_
      rintro e w8 ⟨rfl, x8⟩
      have X8 : Hid (Ext W6 w8) := X7.out.trans x8
      clear x8 X7 r7 s0 s1 s2 s3 s4 s5 s6
      go_wp2_with fail
      refine (RowsFromAll cells ce cec n w8 (hce.out.ext (X6.out.trans X8.out)) (by omega) (by omega)).mono ?_
      rintro e W ⟨rn, f, ra, rcap, hrn, rfl, hr, hfl, x9⟩
      have X9 : Hid (Ext W6 W) := X8.out.trans x9
      have XW : Hid (Ext w W) := X6.out.trans X9.out
      have hF : Hid (FcAt W Q PB ⟨its', nd', wh', gr', li'⟩ ⟨pn, pc, pw, pit, pgr, pli, pag⟩ ia' na' ga' ca pi pg ic' nc' gc' cc pic pgc ra rn f) := ⟨(b6.out.box).ext X9.out, (r6.out.box).ext X9.out, hq6.out.ext X9.out, hP6.out.ext X9.out, hr⟩
      have hil' : its'.length ≤ 65536 := hq6.out.li
      have hnl' : nd'.length ≤ 65536 := hq6.out.ln
      replace hfl := hide hfl
      clear x9 X9 X8 X6 b6 r6 hq6 hP6 hr
      go_wp2_with fail
      go_loopw [15] (fun i wr => ∃ k : Nat, i = .int .i64 k ∧ k ≤ rn ∧ Hid (Ext W wr)) (fun i _ => rn - (intOf i).toNat)
      case atStart => exact ⟨0, rfl, Nat.zero_le _, Ext.refl W⟩
      obtain ⟨k, rfl, hk, hX⟩ := hrel
      obtain ⟨W2, rfl⟩ : ∃ W2, W2 = wr := ⟨_, rfl⟩
      by_cases hlt : k < rn
      · have hlt' : (k : Int) < rn := by omega
        obtain ⟨b, off, r', rc', hra, hc, hri⟩ := (hF.out.r.ext hX.out) k hlt
        have hlr := hide (hfl.out k hlt)
        obtain ⟨row, hrow⟩ : ∃ r, Hid (f k = r) := ⟨_, rfl⟩
        have hri0 := hF.out.r k hlt
        rw [hrow.out] at hc hri hlr hri0
        subst hra
        obtain ⟨b0, off0, r0, rc0, e0, hc0, hri0⟩ := hri0
        have hri : Hid (IntsAt W r' row) := by
          cases e0
          have h1 := hX.out.cell hc0
          rw [h1] at hc
          cases hc
          exact hri0
        clear e0 hc0 hri0
        have q2 := (hF.out.qb.ext hX.out) 2 _ rfl
        have q1 := (hF.out.qb.ext hX.out) 1 _ rfl
        have q0 := (hF.out.qb.ext hX.out) 0 _ rfl
        rcases hlw.out with ⟨hw1, hw2⟩ | ⟨hw1, hw2⟩
        · have hwb : (wh' != -1) = false := by simp [hw1]
          replace hw1 := hide hw1
          replace hw2 := hide hw2
          go_wp2_with fail
          clear q0 q1 q2 hc
          go_loopw [21] (fun i wr => ∃ m : Nat, i = .int .i64 m ∧ m ≤ its'.length ∧ Hid (Ext W wr)) (fun i _ => its'.length - (intOf i).toNat)
          case atStart => exact ⟨0, rfl, Nat.zero_le _, hX⟩
          obtain ⟨m, rfl, hm, hXm⟩ := hrel
          have q0 := (hF.out.qb.ext hXm.out) 0 _ rfl
          have q1 := (hF.out.qb.ext hXm.out) 1 _ rfl
          have s1 := (hF.out.pb.ext hXm.out) 1 _ rfl
          have s3 := (hF.out.pb.ext hXm.out) 3 _ rfl
          by_cases hml : m < its'.length
          · have hml' : (m : Int) < its'.length := by omega
            have hml2 : (m : Int) < pit.length := by have := hpil.out; omega
            obtain ⟨b1, off1, hia, c1, c2⟩ := (hF.out.q.its.ext hXm.out) m hml
            obtain ⟨b2, off2, hpi, d1, d2⟩ := (hF.out.p.its.ext hXm.out) m (by have := hpil.out; simp only; omega)
            subst hia
            subst hpi
            have hlm := hlit.out m hml
            obtain ⟨⟨g, y⟩, hit⟩ : ∃ z, Hid (its'.getD m (0, 0) = z) := ⟨_, rfl⟩
            obtain ⟨⟨g2, y2⟩, hit2⟩ : ∃ z, Hid (pit.getD m (0, 0) = z) := ⟨_, rfl⟩
            simp only at c1 c2 d1 d2 hlm
            rw [hit.out] at c1 c2 hlm
            rw [hit2.out] at d1 d2 hlm
            simp only at c1 c2 d1 d2 hlm
            rcases hlm with ⟨hy, hy2⟩ | ⟨hy, x, hx, hxl, hev⟩
            · have hyb : (y == -1) = true := by simp [hy]
              replace hy := hide hy
              replace hy2 := hide hy2
              go_wp2_with fail
              go_roundw
              case rel => exact ⟨m + 1, by go_num, by omega, hXm.out⟩
              case measure => simp [intOf]; omega
            · have hyb : (y == -1) = false := by simp; omega
              have hyn : y.toNat < nd'.length := by
                have h1 := hcm.out.its _ (getD_mem_it its' m hml)
                rw [hit.out] at h1
                rcases h1.2.2 with ⟨_, h2⟩ | ⟨_, _, h2⟩
                · simp only at h2; omega
                · simp only at h2; omega
              have hok1 : Hid (evOK nd' row y) := by have := evOK_of (row := row) (nd := nd') (by rw [hlr.out]; exact hcm.out.wf) hyn; rw [Int.toNat_of_nonneg hy] at this; exact this
              have hok2 : Hid (evOK pc row y2) := by rw [hx]; exact evOK_of (by rw [hlr.out]; exact hwp.out) hxl
              obtain ⟨X, hX1⟩ : ∃ X, Hid (evAt nd' row y = X) := ⟨_, rfl⟩
              have hX2 : Hid (evAt pc row y2 = X) := by
                show _ = _
                rw [← hX1.out, hx, evAt_eq, hev row]
                have := evAt_eq nd' row y.toNat
                rw [Int.toNat_of_nonneg hy] at this
                exact this.symm
              have hXX : (X != X) = false := by simp
              clear hev hxl hyn
              replace hx := hide hx
              replace hy := hide hy
              go_wp2_with fail
              refine Dr.region_text (by kernel_rfl) ?_
              go_wp2_with fail
              refine (RefEval nd' row na' r' nc' rc' y wr.drew (hF.out.q.nd.ext hXm.out.drew) (hri.out.ext hXm.out.drew) (by omega) (by have := hlr.out; omega)).mono ?_
              rintro e v1 ⟨xv1, ⟨_, rfl⟩ | ⟨hno, _⟩⟩
              rotate_left
              · exact absurd hok1.out hno
              rw [hX1.out]
              have hX1' : Hid (Ext W v1) := hXm.out.drew.trans xv1
              clear xv1 q0 q1 s1 s3 c1 c2 d1 d2
              go_wp2
              refine ⟨by rfl, ?_⟩
              have s1 := (hF.out.pb.ext hX1'.out) 1 _ rfl
              have s3 := (hF.out.pb.ext hX1'.out) 3 _ rfl
              obtain ⟨b3, off3, e3, d1, d2⟩ := (hF.out.p.its.ext hX1'.out) m (by have := hpil.out; simp only; omega)
              cases e3
              simp only at d1 d2
              rw [hit2.out] at d1 d2
              simp only at d1 d2
              go_wp2_with fail
              refine Dr.region_text (by kernel_rfl) ?_
              go_wp2_with fail
              refine (EvalRow pc row ca r' cc rc' y2 v1.drew (hF.out.p.code.ext hX1'.out.drew) (hri.out.ext hX1'.out.drew) (by have := hF.out.p.lc; simp only at this; omega) (by have := hlr.out; omega)).mono ?_
              rintro e v2 ⟨xv2, ⟨_, rfl⟩ | ⟨hno, _⟩⟩
              rotate_left
              · exact absurd hok2.out hno
              rw [hX2.out]
              have hX2' : Hid (Ext W v2) := hX1'.out.drew.trans xv2
              clear xv2 s1 s3 d1 d2
              go_wp2
              refine ⟨by rfl, ?_⟩
              go_wp2_with fail
              go_roundw
              case rel => exact ⟨m + 1, by go_num, by omega, hX2'.out⟩
              case measure => simp [intOf]; omega
          · have hml' : ¬ (m : Int) < its'.length := by omega
            obtain rfl : m = its'.length := by omega
            clear hml hm
            go_wp2_with fail
            go_roundw
            case rel => exact ⟨k + 1, by go_num, by omega, hXm.out⟩
            case measure => simp [intOf]; omega
        · have hwb : (wh' != -1) = true := by simp; omega
          have hwn : wh'.toNat < nd'.length := by
            rcases hcm.out.wh with h1 | ⟨_, h1⟩
            · simp only at h1; omega
            · simp only at h1; omega
          have hok1 : Hid (evOK nd' row wh') := by have := evOK_of (row := row) (nd := nd') (by rw [hlr.out]; exact hcm.out.wf) hwn; rw [Int.toNat_of_nonneg hw1] at this; exact this
          obtain ⟨X, hX1⟩ : ∃ X, Hid (evAt nd' row wh' = X) := ⟨_, rfl⟩
          have hXe : Hid (X = evX nd' row wh'.toNat) := by
            show _ = _
            rw [← hX1.out]
            have := evAt_eq nd' row wh'.toNat
            rw [Int.toNat_of_nonneg hw1] at this
            exact this
          clear hwn
          replace hw1 := hide hw1
          replace hw2 := hide hw2
          go_wp2_with fail
          refine (RefEval nd' row na' r' nc' rc' wh' W2 (hF.out.q.nd.ext hX.out) (hri.out.ext hX.out) (by omega) (by have := hlr.out; omega)).mono ?_
          rintro e v1 ⟨xv1, ⟨_, rfl⟩ | ⟨hno, _⟩⟩
          rotate_left
          · exact absurd hok1.out hno
          rw [hX1.out]
          have hX1' : Hid (Ext W v1) := hX.out.trans xv1
          clear xv1 q0 q1 q2 hc
          have s2 := (hF.out.pb.ext hX1'.out) 2 _ rfl
          have s1 := (hF.out.pb.ext hX1'.out) 1 _ rfl
          rcases hw2.out with ⟨hpw, hne⟩ | ⟨x, hpx, hxl, hev⟩
          · have hpb : (pw == -1) = true := by simp [hpw]
            have hX0 : (X == 0) = false := by have h1 := hXe.out; have h2 := hne row; simp; rw [h1]; exact h2
            replace hpw := hide hpw
            clear hne
            go_wp2_with fail
            clear s1 s2
            go_loopw [21] (fun i wr => ∃ m : Nat, i = .int .i64 m ∧ m ≤ its'.length ∧ Hid (Ext W wr)) (fun i _ => its'.length - (intOf i).toNat)
            case atStart => exact ⟨0, rfl, Nat.zero_le _, hX1'⟩
            obtain ⟨m, rfl, hm, hXm⟩ := hrel
            have q0 := (hF.out.qb.ext hXm.out) 0 _ rfl
            have q1 := (hF.out.qb.ext hXm.out) 1 _ rfl
            have s1 := (hF.out.pb.ext hXm.out) 1 _ rfl
            have s3 := (hF.out.pb.ext hXm.out) 3 _ rfl
            by_cases hml : m < its'.length
            · have hml' : (m : Int) < its'.length := by omega
              have hml2 : (m : Int) < pit.length := by have := hpil.out; omega
              obtain ⟨b1, off1, hia, c1, c2⟩ := (hF.out.q.its.ext hXm.out) m hml
              obtain ⟨b2, off2, hpi, d1, d2⟩ := (hF.out.p.its.ext hXm.out) m (by have := hpil.out; simp only; omega)
              subst hia
              subst hpi
              have hlm := hlit.out m hml
              obtain ⟨⟨g, y⟩, hit⟩ : ∃ z, Hid (its'.getD m (0, 0) = z) := ⟨_, rfl⟩
              obtain ⟨⟨g2, y2⟩, hit2⟩ : ∃ z, Hid (pit.getD m (0, 0) = z) := ⟨_, rfl⟩
              simp only at c1 c2 d1 d2 hlm
              rw [hit.out] at c1 c2 hlm
              rw [hit2.out] at d1 d2 hlm
              simp only at c1 c2 d1 d2 hlm
              rcases hlm with ⟨hy, hy2⟩ | ⟨hy, x, hx, hxl, hev⟩
              · have hyb : (y == -1) = true := by simp [hy]
                replace hy := hide hy
                replace hy2 := hide hy2
                go_wp2_with fail
                go_roundw
                case rel => exact ⟨m + 1, by go_num, by omega, hXm.out⟩
                case measure => simp [intOf]; omega
              · have hyb : (y == -1) = false := by simp; omega
                have hyn : y.toNat < nd'.length := by
                  have h1 := hcm.out.its _ (getD_mem_it its' m hml)
                  rw [hit.out] at h1
                  rcases h1.2.2 with ⟨_, h2⟩ | ⟨_, _, h2⟩
                  · simp only at h2; omega
                  · simp only at h2; omega
                have hok1 : Hid (evOK nd' row y) := by have := evOK_of (row := row) (nd := nd') (by rw [hlr.out]; exact hcm.out.wf) hyn; rw [Int.toNat_of_nonneg hy] at this; exact this
                have hok2 : Hid (evOK pc row y2) := by rw [hx]; exact evOK_of (by rw [hlr.out]; exact hwp.out) hxl
                obtain ⟨X, hX1⟩ : ∃ X, Hid (evAt nd' row y = X) := ⟨_, rfl⟩
                have hX2 : Hid (evAt pc row y2 = X) := by
                  show _ = _
                  rw [← hX1.out, hx, evAt_eq, hev row]
                  have := evAt_eq nd' row y.toNat
                  rw [Int.toNat_of_nonneg hy] at this
                  exact this.symm
                have hXX : (X != X) = false := by simp
                clear hev hxl hyn
                replace hx := hide hx
                replace hy := hide hy
                go_wp2_with fail
                refine Dr.region_text (by kernel_rfl) ?_
                go_wp2_with fail
                refine (RefEval nd' row na' r' nc' rc' y wr.drew (hF.out.q.nd.ext hXm.out.drew) (hri.out.ext hXm.out.drew) (by omega) (by have := hlr.out; omega)).mono ?_
                rintro e v1 ⟨xv1, ⟨_, rfl⟩ | ⟨hno, _⟩⟩
                rotate_left
                · exact absurd hok1.out hno
                rw [hX1.out]
                have hX1' : Hid (Ext W v1) := hXm.out.drew.trans xv1
                clear xv1 q0 q1 s1 s3 c1 c2 d1 d2
                go_wp2
                refine ⟨by rfl, ?_⟩
                have s1 := (hF.out.pb.ext hX1'.out) 1 _ rfl
                have s3 := (hF.out.pb.ext hX1'.out) 3 _ rfl
                obtain ⟨b3, off3, e3, d1, d2⟩ := (hF.out.p.its.ext hX1'.out) m (by have := hpil.out; simp only; omega)
                cases e3
                simp only at d1 d2
                rw [hit2.out] at d1 d2
                simp only at d1 d2
                go_wp2_with fail
                refine Dr.region_text (by kernel_rfl) ?_
                go_wp2_with fail
                refine (EvalRow pc row ca r' cc rc' y2 v1.drew (hF.out.p.code.ext hX1'.out.drew) (hri.out.ext hX1'.out.drew) (by have := hF.out.p.lc; simp only at this; omega) (by have := hlr.out; omega)).mono ?_
                rintro e v2 ⟨xv2, ⟨_, rfl⟩ | ⟨hno, _⟩⟩
                rotate_left
                · exact absurd hok2.out hno
                rw [hX2.out]
                have hX2' : Hid (Ext W v2) := hX1'.out.drew.trans xv2
                clear xv2 s1 s3 d1 d2
                go_wp2
                refine ⟨by rfl, ?_⟩
                go_wp2_with fail
                go_roundw
                case rel => exact ⟨m + 1, by go_num, by omega, hX2'.out⟩
                case measure => simp [intOf]; omega
            · have hml' : ¬ (m : Int) < its'.length := by omega
              obtain rfl : m = its'.length := by omega
              clear hml hm
              go_wp2_with fail
              go_roundw
              case rel => exact ⟨k + 1, by go_num, by omega, hXm.out⟩
              case measure => simp [intOf]; omega
          · have hpb : (pw == -1) = false := by simp; omega
            have hok2 : Hid (evOK pc row pw) := by rw [hpx]; exact evOK_of (by rw [hlr.out]; exact hwp.out) hxl
            have hX2 : Hid (evAt pc row pw = X) := by
              show _ = _
              rw [hXe.out, hpx, evAt_eq, hev row]
            have hXX : (X != X) = false := by simp
            clear hev hxl
            replace hpx := hide hpx
            go_wp2_with fail
            refine (EvalRow pc row ca r' cc rc' pw v1 (hF.out.p.code.ext hX1'.out) (hri.out.ext hX1'.out) (by have := hF.out.p.lc; simp only at this; omega) (by have := hlr.out; omega)).mono ?_
            rintro e v2 ⟨xv2, ⟨_, rfl⟩ | ⟨hno, _⟩⟩
            rotate_left
            · exact absurd hok2.out hno
            rw [hX2.out]
            have hX2' : Hid (Ext W v2) := hX1'.out.trans xv2
            clear xv2 s1 s2
            go_wp2_with fail
            go_loopw [21] (fun i wr => ∃ m : Nat, i = .int .i64 m ∧ m ≤ its'.length ∧ Hid (Ext W wr)) (fun i _ => its'.length - (intOf i).toNat)
            case atStart => exact ⟨0, rfl, Nat.zero_le _, hX2'⟩
            obtain ⟨m, rfl, hm, hXm⟩ := hrel
            have q0 := (hF.out.qb.ext hXm.out) 0 _ rfl
            have q1 := (hF.out.qb.ext hXm.out) 1 _ rfl
            have s1 := (hF.out.pb.ext hXm.out) 1 _ rfl
            have s3 := (hF.out.pb.ext hXm.out) 3 _ rfl
            by_cases hml : m < its'.length
            · have hml' : (m : Int) < its'.length := by omega
              have hml2 : (m : Int) < pit.length := by have := hpil.out; omega
              obtain ⟨b1, off1, hia, c1, c2⟩ := (hF.out.q.its.ext hXm.out) m hml
              obtain ⟨b2, off2, hpi, d1, d2⟩ := (hF.out.p.its.ext hXm.out) m (by have := hpil.out; simp only; omega)
              subst hia
              subst hpi
              have hlm := hlit.out m hml
              obtain ⟨⟨g, y⟩, hit⟩ : ∃ z, Hid (its'.getD m (0, 0) = z) := ⟨_, rfl⟩
              obtain ⟨⟨g2, y2⟩, hit2⟩ : ∃ z, Hid (pit.getD m (0, 0) = z) := ⟨_, rfl⟩
              simp only at c1 c2 d1 d2 hlm
              rw [hit.out] at c1 c2 hlm
              rw [hit2.out] at d1 d2 hlm
              simp only at c1 c2 d1 d2 hlm
              rcases hlm with ⟨hy, hy2⟩ | ⟨hy, x, hx, hxl, hev⟩
              · have hyb : (y == -1) = true := by simp [hy]
                replace hy := hide hy
                replace hy2 := hide hy2
                go_wp2_with fail
                go_roundw
                case rel => exact ⟨m + 1, by go_num, by omega, hXm.out⟩
                case measure => simp [intOf]; omega
              · have hyb : (y == -1) = false := by simp; omega
                have hyn : y.toNat < nd'.length := by
                  have h1 := hcm.out.its _ (getD_mem_it its' m hml)
                  rw [hit.out] at h1
                  rcases h1.2.2 with ⟨_, h2⟩ | ⟨_, _, h2⟩
                  · simp only at h2; omega
                  · simp only at h2; omega
                have hok1 : Hid (evOK nd' row y) := by have := evOK_of (row := row) (nd := nd') (by rw [hlr.out]; exact hcm.out.wf) hyn; rw [Int.toNat_of_nonneg hy] at this; exact this
                have hok2 : Hid (evOK pc row y2) := by rw [hx]; exact evOK_of (by rw [hlr.out]; exact hwp.out) hxl
                obtain ⟨X, hX1⟩ : ∃ X, Hid (evAt nd' row y = X) := ⟨_, rfl⟩
                have hX2 : Hid (evAt pc row y2 = X) := by
                  show _ = _
                  rw [← hX1.out, hx, evAt_eq, hev row]
                  have := evAt_eq nd' row y.toNat
                  rw [Int.toNat_of_nonneg hy] at this
                  exact this.symm
                have hXX : (X != X) = false := by simp
                clear hev hxl hyn
                replace hx := hide hx
                replace hy := hide hy
                go_wp2_with fail
                refine Dr.region_text (by kernel_rfl) ?_
                go_wp2_with fail
                refine (RefEval nd' row na' r' nc' rc' y wr.drew (hF.out.q.nd.ext hXm.out.drew) (hri.out.ext hXm.out.drew) (by omega) (by have := hlr.out; omega)).mono ?_
                rintro e v1 ⟨xv1, ⟨_, rfl⟩ | ⟨hno, _⟩⟩
                rotate_left
                · exact absurd hok1.out hno
                rw [hX1.out]
                have hX1' : Hid (Ext W v1) := hXm.out.drew.trans xv1
                clear xv1 q0 q1 s1 s3 c1 c2 d1 d2
                go_wp2
                refine ⟨by rfl, ?_⟩
                have s1 := (hF.out.pb.ext hX1'.out) 1 _ rfl
                have s3 := (hF.out.pb.ext hX1'.out) 3 _ rfl
                obtain ⟨b3, off3, e3, d1, d2⟩ := (hF.out.p.its.ext hX1'.out) m (by have := hpil.out; simp only; omega)
                cases e3
                simp only at d1 d2
                rw [hit2.out] at d1 d2
                simp only at d1 d2
                go_wp2_with fail
                refine Dr.region_text (by kernel_rfl) ?_
                go_wp2_with fail
                refine (EvalRow pc row ca r' cc rc' y2 v1.drew (hF.out.p.code.ext hX1'.out.drew) (hri.out.ext hX1'.out.drew) (by have := hF.out.p.lc; simp only at this; omega) (by have := hlr.out; omega)).mono ?_
                rintro e v2 ⟨xv2, ⟨_, rfl⟩ | ⟨hno, _⟩⟩
                rotate_left
                · exact absurd hok2.out hno
                rw [hX2.out]
                have hX2' : Hid (Ext W v2) := hX1'.out.drew.trans xv2
                clear xv2 s1 s3 d1 d2
                go_wp2
                refine ⟨by rfl, ?_⟩
                go_wp2_with fail
                go_roundw
                case rel => exact ⟨m + 1, by go_num, by omega, hX2'.out⟩
                case measure => simp [intOf]; omega
            · have hml' : ¬ (m : Int) < its'.length := by omega
              obtain rfl : m = its'.length := by omega
              clear hml hm
              go_wp2_with fail
              go_roundw
              case rel => exact ⟨k + 1, by go_num, by omega, hXm.out⟩
              case measure => simp [intOf]; omega
      · have hlt' : ¬ (k : Int) < rn := by omega
        obtain rfl : k = rn := by omega
        clear hlt hk
        go_wp2
        go_ret
        exact ⟨rfl, XW.out.trans hX.out⟩
end Go.Proofs.Ybyaaw
