/- Walk: laws.setup -/
import Derived.Test.YbyaawEx1
import Derived.Test.YbyaawEx3
import Derived.Test.YbyaawMut
import Derived.Test.YbyaawSpc6
import Derived.Test.YbyaawRefParse
import Derived.Test.YbyaawWpSt
import Derived.Test.YbyaawPlainEnc3
namespace Go.Proofs.Ybyaaw
open Go.RowKit
set_option maxRecDepth 100000
set_option linter.unusedVariables false
set_option linter.unusedSimpArgs false

theorem OwnPl.kept {w w' : World} {base b : Nat} {p : Pl} {ca ia ga : Option Addr} {cc ic gc : Nat} (h : OwnPl w base p ca ia ga cc ic gc) (hg : w.grownBy w' (some b)) (hb : b < base) : OwnPl w' base p ca ia ga cc ic gc := ⟨⟨h.code.1, ownsRow_kept h.code.2 hg hb⟩, OwnP.kept h.its hg hb, OwnI.kept h.gr hg hb⟩
theorem OwnPl.ext {w w' : World} {base : Nat} {p : Pl} {ca ia ga : Option Addr} {cc ic gc : Nat} (h : OwnPl w base p ca ia ga cc ic gc) (he : Ext w w') : OwnPl w' base p ca ia ga cc ic gc := ⟨h.code.ext he, OwnP.ext h.its he, OwnI.ext h.gr he⟩
theorem encOf_valid3 (k : Int) (xs : List Int) (h : xs.length ≤ 65536) (hk : k = 0 ∨ k = 1 ∨ k = 2) : Valid (encOf k xs) xs.length := by
  unfold encOf
  rw [if_neg (by omega)]
  rcases hk with rfl | rfl | rfl
  · exact encP_valid xs h
  · exact encD_valid xs h
  · exact encR_valid xs h
theorem tabC_valid (cells : List Int) (m : Nat) (zs : List Int) (hm : m ≤ 256) (hn : nR cells m ≤ 65536) : ValidT (tabC cells m zs) (nR cells m) := by
  have hl : (tabC cells m zs).length = m := by unfold tabC; rw [colsT_len, kinds3_len]
  refine ⟨by omega, by omega, by rw [hl]; exact hm, fun i hi => ?_⟩
  rw [hl] at hi
  unfold tabC
  rw [colsT_at _ _ _ _ (by rw [kinds3_len]; exact hi), kinds3_at _ _ _ hi]
  have hk := kind3_ok zs i
  have := encOf_valid3 (kind3 zs i) (colT (nR cells m) (rowsF cells m) i) (by rw [colT_len]; exact hn) (by omega)
  rw [colT_len] at this
  exact this
theorem tabC_len (cells : List Int) (m : Nat) (zs : List Int) : (tabC cells m zs).length = m := by unfold tabC; rw [colsT_len, kinds3_len]
/-- What a set-up hands on. -/
structure SetOK (w : World) (p : Pl) (ca pi pg : Option Addr) (cs : List Col) (n : Nat) (a : Option Addr) : Prop where
  pat : PAt w p ca pi pg
  ok : PlOK p
  nc : p.nc = cs.length
  t : ColsAt w a cs
  v : ValidT cs n
  ne : 1 ≤ cs.length
def RetSetup (w : World) : Ending → World → Prop := fun en w' => Ext w w' ∧ ((en = .returned (.tuple #[.agg plz.toArray, .agg #[.int .i64 0, .slice none 0 0], .bool false])) ∨
  ∃ p ca pi pg cc pic pgc cs n a cap, en = .returned (.tuple #[.agg (plCells p ca pi pg cc pic pgc).toArray, .agg #[.int .i64 (n : Nat), .slice a cs.length cap], .bool true]) ∧ SetOK w' p ca pi pg cs n a)
set_option maxHeartbeats 16000000 in
theorem setup (zs cells ks : List Int) (qa ce ka : Option Addr) (qc cec kc : Nat) (u : Int) (w : World) (hq : Hid (BytesAt w qa zs)) (hce : Hid (IntsAt w ce cells)) (hk : Hid (BytesAt w ka ks)) (hu0 : 0 ≤ u) (hu1 : u ≤ 255) (l1 : zs.length ≤ 1048576) (l2 : cells.length ≤ 1048576) (l3 : ks.length ≤ 1048576) :
    Calls Yaan.prog 56 #[.slice qa zs.length qc, .slice ce cells.length cec, .int .u8 u, .slice ka ks.length kc] w (RetSetup w) := by
  have hX0 : Hid (Ext w ((w.alloc (.cells #[.int .i64 0, .slice none 0 0, .int .i64 0, .slice none 0 0, .slice none 0 0, .int .i64 0, .bool false] 81)).alloc (.cells #[.int .i64 0, .slice none 0 0] 66))) := ((Ext.refl w).alloc _).alloc _
  have hP0 : Hid (Blk ((w.alloc (.cells #[.int .i64 0, .slice none 0 0, .int .i64 0, .slice none 0 0, .slice none 0 0, .int .i64 0, .bool false] 81)).alloc (.cells #[.int .i64 0, .slice none 0 0] 66)) w.heap.size 81 plz) := (Blk.new w _ _).alloc _
  have hT0 : Hid (Blk ((w.alloc (.cells #[.int .i64 0, .slice none 0 0, .int .i64 0, .slice none 0 0, .slice none 0 0, .int .i64 0, .bool false] 81)).alloc (.cells #[.int .i64 0, .slice none 0 0] 66)) (w.heap.size + 1) 66 [.int .i64 0, .slice none 0 0]) := by
    have := Blk.new (w.alloc (.cells #[.int .i64 0, .slice none 0 0, .int .i64 0, .slice none 0 0, .slice none 0 0, .int .i64 0, .bool false] 81)) #[.int .i64 0, .slice none 0 0] 66
    rw [show (w.alloc (.cells #[.int .i64 0, .slice none 0 0, .int .i64 0, .slice none 0 0, .slice none 0 0, .int .i64 0, .bool false] 81)).heap.size = w.heap.size + 1 by simp] at this
    exact this
  have hs0 : ((w.alloc (.cells #[.int .i64 0, .slice none 0 0, .int .i64 0, .slice none 0 0, .slice none 0 0, .int .i64 0, .bool false] 81)).alloc (.cells #[.int .i64 0, .slice none 0 0] 66)).heap.size = w.heap.size + 2 := by simp
  obtain ⟨m, hm⟩ : ∃ m : Nat, Hid (1 + u % 8 = (m : Int)) := ⟨(1 + u % 8).toNat, by show _ = _; omega⟩
  have hm1 : 1 ≤ m := by have := hm.out; omega
  have hm8 : m ≤ 8 := by have := hm.out; omega
  have hmm : 1 + u % 8 = (m : Int) := hm.out
  go_enter Yaan.func56, Yaan.ntmps56
  go_wp2_with fail
  generalize ((w.alloc (.cells #[.int .i64 0, .slice none 0 0, .int .i64 0, .slice none 0 0, .slice none 0 0, .int .i64 0, .bool false] 81)).alloc (.cells #[.int .i64 0, .slice none 0 0] 66)) = W0 at *
  refine (TableOf cells ks ce ka cec kc m W0 (hce.out.ext hX0.out) (hk.out.ext hX0.out) l2 l3 hm1 (by omega)).mono ?_
  rintro e w1 ⟨x1, ta, tcap, ra, rcap, _, hcase⟩
  clear hmm
  rcases hcase with ⟨hn, rfl, hcols⟩ | ⟨hn, rfl⟩
  rotate_left
  · have hX1 : Hid (Ext w (w1.alloc (.cells #[.int .i64 0, .slice ta 0 tcap] 66))) := (hX0.out.trans x1).alloc _
    have hP1 := hide ((hP0.out.ext x1).alloc (.cells #[.int .i64 0, .slice ta 0 tcap] 66))
    have hT1 := hide ((hT0.out.ext x1).alloc (.cells #[.int .i64 0, .slice ta 0 tcap] 66))
    clear x1 hX0 hP0 hT0 hn
    go_wp2_with (first | (refine wpList_storeB (vs := plz) rfl rfl (by rfl) (by rfl) hP1.out size_plan rfl plz_one ?_; intro w98 hb98 hg98; have hT98 := hide (hT1.out.grown hg98 (fun e => by injection e; omega)); have hX98 : Hid (Ext w w98) := hX1.out.grown hg98 (fun k hk => by cases hk; exact Nat.le_refl _); replace hb98 := hide hb98; clear hg98) | (refine wpList_storeB (vs := [.int .i64 0, .slice none 0 0]) rfl rfl (by rfl) (by rfl) hT98.out size_tab rfl (by simp [Value.oneCell']) ?_; intro w99 hb99 hg99; have hP99 := hide (hb98.out.grown hg99 (fun e => by injection e; omega)); have hX99 : Hid (Ext w w99) := hX98.out.grown hg99 (fun k hk => by cases hk; omega); replace hb99 := hide hb99; clear hg99))
    refine bodyPost_ret (results_cellcell rfl (by rfl) (by rfl) hP99.out hb99.out Yaan.underlying81 size_plan Yaan.underlying66 size_tab) rfl ?_
    exact ⟨hX99.out, .inl rfl⟩
  obtain ⟨cs, hcs⟩ : ∃ cs, Hid (tabC cells m ks = cs) := ⟨_, rfl⟩
  obtain ⟨n, hnn⟩ : ∃ n, Hid (nR cells m = n) := ⟨_, rfl⟩
  have hval := tabC_valid cells m ks (by omega) hn
  have hcl : Hid (cs.length = m) := by show _ = _; rw [← hcs.out]; exact tabC_len cells m ks
  rw [hcs.out, hnn.out] at hval
  rw [hcs.out] at hcols
  rw [hcs.out, hnn.out]
  replace hval := hide hval
  have hX1 : Hid (Ext w (w1.alloc (.cells #[.int .i64 n, .slice ta cs.length tcap] 66))) := (hX0.out.trans x1).alloc _
  have hP1 := hide ((hP0.out.ext x1).alloc (.cells #[.int .i64 n, .slice ta cs.length tcap] 66))
  have hT1 := hide ((hT0.out.ext x1).alloc (.cells #[.int .i64 n, .slice ta cs.length tcap] 66))
  have hY1 : Hid (Blk (w1.alloc (.cells #[.int .i64 n, .slice ta cs.length tcap] 66)) w1.heap.size 66 [.int .i64 n, .slice ta cs.length tcap]) := Blk.new w1 _ _
  have hC1 := hide (hcols.ext ((Ext.refl w1).alloc (.cells #[.int .i64 n, .slice ta cs.length tcap] 66)))
  have hYs : Hid (w1.heap.size ≠ w.heap.size ∧ w1.heap.size ≠ w.heap.size + 1) := by have := x1.size; show _ ∧ _; omega
  clear x1 hX0 hP0 hT0 hn hcols
  go_wp2_with fail
  generalize (w1.alloc (.cells #[.int .i64 n, .slice ta cs.length tcap] 66)) = W1 at *
  generalize w1.heap.size = Y at *
  refine (QueryText zs qa qc W1 (hq.out.ext hX1.out) (by omega)).mono ?_
  rintro e w2 ⟨x2, l, rfl⟩
  have hX2 : Hid (Ext w w2) := hX1.out.trans x2
  have hP2 := hide (hP1.out.ext x2)
  have hT2 := hide (hT1.out.ext x2)
  have hY2 := hide (hY1.out.ext x2)
  have hC2 := hide (hC1.out.ext x2)
  clear x2 hX1 hP1 hT1 hY1 hC1
  obtain ⟨t, htx⟩ : ∃ t, tx l = t := ⟨_, rfl⟩
  rw [htx]
  clear htx
  go_wp2_with fail
  refine (RefParse t w2).mono ?_
  rintro e w3 ⟨x3, ⟨hp, rfl⟩ | ⟨q, ia, na, ga, ic, nc, gc, hp, rfl, hqo⟩⟩
  · have hX3 : Hid (Ext w (w3.alloc (.cells #[.slice none 0 0, .slice none 0 0, .int .i64 0, .slice none 0 0, .int .i64 0] 36))) := (hX2.out.trans x3).alloc _
    have hP3 := hide ((hP2.out.ext x3).alloc (.cells #[.slice none 0 0, .slice none 0 0, .int .i64 0, .slice none 0 0, .int .i64 0] 36))
    have hT3 := hide ((hT2.out.ext x3).alloc (.cells #[.slice none 0 0, .slice none 0 0, .int .i64 0, .slice none 0 0, .int .i64 0] 36))
    clear x3 hp hX2 hP2 hT2 hY2 hC2
    simp only [qz]
    go_wp2_with (first | (refine wpList_storeB (vs := plz) rfl rfl (by rfl) (by rfl) hP3.out size_plan rfl plz_one ?_; intro w98 hb98 hg98; have hT98 := hide (hT3.out.grown hg98 (fun e => by injection e; omega)); have hX98 : Hid (Ext w w98) := hX3.out.grown hg98 (fun k hk => by cases hk; exact Nat.le_refl _); replace hb98 := hide hb98; clear hg98) | (refine wpList_storeB (vs := [.int .i64 0, .slice none 0 0]) rfl rfl (by rfl) (by rfl) hT98.out size_tab rfl (by simp [Value.oneCell']) ?_; intro w99 hb99 hg99; have hP99 := hide (hb98.out.grown hg99 (fun e => by injection e; omega)); have hX99 : Hid (Ext w w99) := hX98.out.grown hg99 (fun k hk => by cases hk; omega); replace hb99 := hide hb99; clear hg99))
    refine bodyPost_ret (results_cellcell rfl (by rfl) (by rfl) hP99.out hb99.out Yaan.underlying81 size_plan Yaan.underlying66 size_tab) rfl ?_
    exact ⟨hX99.out, .inl rfl⟩
  clear hp
  obtain ⟨its, nd, wh, gr, li⟩ := q
  have hX3 : Hid (Ext w (w3.alloc (.cells #[.slice ia its.length ic, .slice na nd.length nc, .int .i64 wh, .slice ga gr.length gc, .int .i64 li] 36))) := (hX2.out.trans x3).alloc _
  have hP3 := hide ((hP2.out.ext x3).alloc (.cells #[.slice ia its.length ic, .slice na nd.length nc, .int .i64 wh, .slice ga gr.length gc, .int .i64 li] 36))
  have hT3 := hide ((hT2.out.ext x3).alloc (.cells #[.slice ia its.length ic, .slice na nd.length nc, .int .i64 wh, .slice ga gr.length gc, .int .i64 li] 36))
  have hY3 := hide ((hY2.out.ext x3).alloc (.cells #[.slice ia its.length ic, .slice na nd.length nc, .int .i64 wh, .slice ga gr.length gc, .int .i64 li] 36))
  have hC3 := hide ((hC2.out.ext x3).ext ((Ext.refl w3).alloc (.cells #[.slice ia its.length ic, .slice na nd.length nc, .int .i64 wh, .slice ga gr.length gc, .int .i64 li] 36)))
  have hq3 := hide (hqo.at2.ext ((Ext.refl w3).alloc (.cells #[.slice ia its.length ic, .slice na nd.length nc, .int .i64 wh, .slice ga gr.length gc, .int .i64 li] 36)))
  have b3 : Hid (Blk (w3.alloc (.cells #[.slice ia its.length ic, .slice na nd.length nc, .int .i64 wh, .slice ga gr.length gc, .int .i64 li] 36)) w3.heap.size 36 [.slice ia its.length ic, .slice na nd.length nc, .int .i64 wh, .slice ga gr.length gc, .int .i64 li]) := Blk.new w3 _ _
  clear x3 hX2 hP2 hT2 hY2 hC2 hqo
  have p0 := b3.out.box 0 _ rfl
  have p1 := b3.out.box 1 _ rfl
  have p2 := b3.out.box 2 _ rfl
  have p3 := b3.out.box 3 _ rfl
  have p4 := b3.out.box 4 _ rfl
  simp only [qCells]
  go_wp2_with fail
  generalize (w3.alloc (.cells #[.slice ia its.length ic, .slice na nd.length nc, .int .i64 wh, .slice ga gr.length gc, .int .i64 li] 36)) = W3 at *
  refine (RefCompile ⟨its, nd, wh, gr, li⟩ ia na ga ic nc gc m W3 hq3.out.its hq3.out.nd hq3.out.gr hq3.out.li hq3.out.ln hq3.out.lg (by omega)).mono ?_
  rintro e w4 ⟨x4, hcase⟩
  clear p0 p1 p2 p3 p4
  rcases hcase with ⟨_, rfl⟩ | ⟨hcm, ca, pi, pg, cc, pic, pgc, rfl, hpl⟩
  · have hX4 : Hid (Ext w (w4.alloc (.cells #[.int .i64 0, .slice none 0 0, .int .i64 0, .slice none 0 0, .slice none 0 0, .int .i64 0, .bool false] 81))) := (hX3.out.trans x4).alloc _
    have hP4 := hide ((hP3.out.ext x4).alloc (.cells #[.int .i64 0, .slice none 0 0, .int .i64 0, .slice none 0 0, .slice none 0 0, .int .i64 0, .bool false] 81))
    have hT4 := hide ((hT3.out.ext x4).alloc (.cells #[.int .i64 0, .slice none 0 0, .int .i64 0, .slice none 0 0, .slice none 0 0, .int .i64 0, .bool false] 81))
    clear x4 hX3 hP3 hT3 hY3 hC3 b3 hq3
    simp only [plz]
    go_wp2_with (first | (refine wpList_storeB (vs := plz) rfl rfl (by rfl) (by rfl) hP4.out size_plan rfl plz_one ?_; intro w98 hb98 hg98; have hT98 := hide (hT4.out.grown hg98 (fun e => by injection e; omega)); have hX98 : Hid (Ext w w98) := hX4.out.grown hg98 (fun k hk => by cases hk; exact Nat.le_refl _); replace hb98 := hide hb98; clear hg98) | (refine wpList_storeB (vs := [.int .i64 0, .slice none 0 0]) rfl rfl (by rfl) (by rfl) hT98.out size_tab rfl (by simp [Value.oneCell']) ?_; intro w99 hb99 hg99; have hP99 := hide (hb98.out.grown hg99 (fun e => by injection e; omega)); have hX99 : Hid (Ext w w99) := hX98.out.grown hg99 (fun k hk => by cases hk; omega); replace hb99 := hide hb99; clear hg99))
    refine bodyPost_ret (results_cellcell rfl (by rfl) (by rfl) hP99.out hb99.out Yaan.underlying81 size_plan Yaan.underlying66 size_tab) rfl ?_
    exact ⟨hX99.out, .inl rfl⟩
  have law := plan_law hcm
  obtain ⟨p, hpp⟩ : ∃ p, Hid (plan ⟨its, nd, wh, gr, li⟩ m = p) := ⟨_, rfl⟩
  have hgrp : Hid (p.gr = gr) := by show _ = _; rw [← hpp.out]; rfl
  have hpn : Hid (p.nc = (m : Int)) := by show _ = _; rw [← hpp.out]; rfl
  rw [hpp.out] at law hpl
  rw [hpp.out]
  obtain ⟨hPok, hpcl, hpil, _⟩ := law
  simp only at hpcl hpil
  have hpat := hpl.at (by have := hq3.out.ln; simp only at this; omega) (by have := hq3.out.li; simp only at this; omega) (by rw [hgrp.out]; exact hq3.out.lg)
  have hlens := hide hpat.len
  clear hpat
  obtain ⟨pn, pc, pw, pit, pgr, pli, pag⟩ := p
  replace hPok := hide hPok
  have hX4 : Hid (Ext w (w4.alloc (.cells #[.int .i64 pn, .slice ca pc.length cc, .int .i64 pw, .slice pi pit.length pic, .slice pg pgr.length pgc, .int .i64 pli, .bool pag] 81))) := (hX3.out.trans x4).alloc _
  have hP4 := hide ((hP3.out.ext x4).alloc (.cells #[.int .i64 pn, .slice ca pc.length cc, .int .i64 pw, .slice pi pit.length pic, .slice pg pgr.length pgc, .int .i64 pli, .bool pag] 81))
  have hT4 := hide ((hT3.out.ext x4).alloc (.cells #[.int .i64 pn, .slice ca pc.length cc, .int .i64 pw, .slice pi pit.length pic, .slice pg pgr.length pgc, .int .i64 pli, .bool pag] 81))
  have hY4 := hide ((hY3.out.ext x4).alloc (.cells #[.int .i64 pn, .slice ca pc.length cc, .int .i64 pw, .slice pi pit.length pic, .slice pg pgr.length pgc, .int .i64 pli, .bool pag] 81))
  have hC4 := hide ((hC3.out.ext x4).ext ((Ext.refl w4).alloc (.cells #[.int .i64 pn, .slice ca pc.length cc, .int .i64 pw, .slice pi pit.length pic, .slice pg pgr.length pgc, .int .i64 pli, .bool pag] 81)))
  have hL4 := hide (hpl.ext ((Ext.refl w4).alloc (.cells #[.int .i64 pn, .slice ca pc.length cc, .int .i64 pw, .slice pi pit.length pic, .slice pg pgr.length pgc, .int .i64 pli, .bool pag] 81)))
  have b4 : Hid (Blk (w4.alloc (.cells #[.int .i64 pn, .slice ca pc.length cc, .int .i64 pw, .slice pi pit.length pic, .slice pg pgr.length pgc, .int .i64 pli, .bool pag] 81)) w4.heap.size 81 [.int .i64 pn, .slice ca pc.length cc, .int .i64 pw, .slice pi pit.length pic, .slice pg pgr.length pgc, .int .i64 pli, .bool pag]) := Blk.new w4 _ _
  have hW3s : w.heap.size + 2 ≤ W3.heap.size := by have := hT3.out.lt; omega
  have hw4s : w.heap.size + 2 ≤ w4.heap.size := Nat.le_trans hW3s x4.size
  clear x4 hX3 hP3 hT3 hY3 hC3 b3 hq3 hpl hpcl hpil hcm
  simp only [plCells]
  have q0 := b4.out.box 0 _ rfl
  have q1 := b4.out.box 1 _ rfl
  have q2 := b4.out.box 2 _ rfl
  have q3 := b4.out.box 3 _ rfl
  have q4 := b4.out.box 4 _ rfl
  have q5 := b4.out.box 5 _ rfl
  have q6 := b4.out.box 6 _ rfl
  have y0 := hY4.out.box 0 _ rfl
  have y1 := hY4.out.box 1 _ rfl
  go_wp2_with fail
  generalize (w4.alloc (.cells #[.int .i64 pn, .slice ca pc.length cc, .int .i64 pw, .slice pi pit.length pic, .slice pg pgr.length pgc, .int .i64 pli, .bool pag] 81)) = W4 at *
  obtain ⟨B4, hB4⟩ : ∃ B4, Hid (w4.heap.size = B4) := ⟨_, rfl⟩
  rw [hB4.out] at b4 q0 q1 q2 q3 q4 q5 q6 hw4s
  simp only [hB4.out]
  have hYl : Y ≠ w.heap.size ∧ Y ≠ w.heap.size + 1 := hYs.out
  refine Dr.region_held (fun b => b = B4 ∨ b = Y) [0, 1] (by kernel_rfl) ?_
  refine Dr.held_q2 (by rfl) ?_
  go_wp2_with fail
  refine Dr.held_act (by rfl) (by rfl) ?_
  refine wp_storeB (vs := [.int .i64 pn, .slice ca pc.length cc, .int .i64 pw, .slice pi pit.length pic, .slice pg pgr.length pgc, .int .i64 pli, .bool pag]) rfl (by rfl) (by rfl) (hP4.out.drew) size_plan rfl (by simp [Value.oneCell']) ?_
  intro w5 hb5 hg5
  have hg5' : W4.grownBy w5 (some w.heap.size) := ⟨hg5.os, hg5.tape, hg5.output, hg5.size, hg5.block⟩
  refine ⟨fun b hb => hg5'.block b (by rcases hb with hb | hb; (rw [hb]; exact b4.out.lt); (rw [hb]; exact hY4.out.lt)) (by rcases hb with hb | hb <;> (intro e; injection e; omega)), ?_⟩
  have hT5 := hide (hT4.out.grown hg5' (fun e => by injection e; omega))
  have hX5 : Hid (Ext w w5) := hX4.out.grown hg5' (fun k hk => by cases hk; exact Nat.le_refl _)
  have hC5 := hide (hC4.out.kept hg5' (by omega))
  have hL5 := hide (hL4.out.kept hg5' (by omega))
  have b5 := hide (b4.out.grown hg5' (fun e => by injection e; omega))
  have hY5 := hide (hY4.out.grown hg5' (fun e => by injection e; omega))
  replace hb5 := hide hb5
  clear hg5 hg5' q0 q1 q2 q3 q4 q5 q6 y0 y1 hP4 hT4 hX4 hC4 hL4 b4 hY4
  refine Dr.held_act (by rfl) (by rfl) ?_
  refine wp_storeB (vs := [.int .i64 n, .slice ta cs.length tcap]) rfl (by rfl) (by rfl) hT5.out size_tab rfl (by simp [Value.oneCell']) ?_
  intro w6 hb6 hg6
  refine ⟨fun b hb => hg6.block b (by rcases hb with hb | hb; (rw [hb]; exact b5.out.lt); (rw [hb]; exact hY5.out.lt)) (by rcases hb with hb | hb <;> (intro e; injection e; omega)), ?_⟩
  have hP6 := hide (hb5.out.grown hg6 (fun e => by injection e; omega))
  have hX6 : Hid (Ext w w6) := hX5.out.grown hg6 (fun k hk => by cases hk; omega)
  have hC6 := hide (hC5.out.kept hg6 (by omega))
  have hL6 := hide (hL5.out.kept hg6 (by omega))
  have q9 := (b5.out.grown hg6 (fun e => by injection e; omega)).box 0 _ rfl
  have y9 := (hY5.out.grown hg6 (fun e => by injection e; omega)).box 0 _ rfl
  replace hb6 := hide hb6
  clear hg6 b5 hY5 hb5 hT5 hX5 hC5 hL5
  refine Dr.held_q1 (by rfl) ?_
  go_wp2
  refine Dr.held_nil (by rfl) ⟨fun _ => ⟨B4, 0, rfl, .inl rfl, Dr.isCells_of q9⟩, fun _ => ⟨Y, 0, rfl, .inr rfl, Dr.isCells_of y9⟩, trivial⟩ ?_
  clear q9 y9
  go_wp2_with fail
  refine bodyPost_ret (results_cellcell rfl (by rfl) (by rfl) hP6.out hb6.out Yaan.underlying81 size_plan Yaan.underlying66 size_tab) rfl ?_
  exact ⟨hX6.out, .inr ⟨⟨pn, pc, pw, pit, pgr, pli, pag⟩, ca, pi, pg, cc, pic, pgc, cs, n, ta, tcap, rfl, ⟨hL6.out.at hlens.out.lc hlens.out.li hlens.out.lg, hPok.out, by rw [hcl.out]; exact hpn.out, hC6.out.at, hval.out, by rw [hcl.out]; exact hm1⟩⟩⟩
end Go.Proofs.Ybyaaw
