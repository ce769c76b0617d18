/- Walk: impl.RunPlan with groups -/
import Derived.Test.YbyabwGreatRun1
import Derived.Test.YbyabwGreatGrp4
import Derived.Test.YbyabwGreatHeldMk
namespace Go.Proofs.YbyabwGreat
open Go.RowKit
set_option maxRecDepth 100000
set_option linter.unusedVariables false
set_option linter.unusedSimpArgs false

theorem cel_false (MN i : Nat) : (List.replicate MN false).getD i false = false := by
  rw [List.getD_eq_getElem?_getD, List.getElem?_replicate]
  split <;> rfl
set_option maxHeartbeats 32000000 in
theorem RunPlan_ag (p : Pl) (hag : p.ag = true) (ca ia ga a : Option Addr) (cc ic gc cap : Nat) (cs : List Col) (n : Nat) (w : World) (hp : Hid (PAt w p ca ia ga)) (hok : Hid (PlOK p)) (ht : Hid (ColsAt w a cs)) (hv : Hid (ValidT cs n)) (hnc : p.nc = cs.length) :
    Calls Yabn.prog 19 #[.agg (plCells p ca ia ga cc ic gc).toArray, .agg #[.int .i64 n, .slice a cs.length cap]] w (RetRes (costV p cs.length n = true) p.its.length (run p (rowT cs) n cs.length) w) := by
  have hrun0 : run p (rowT cs) n cs.length = flC (grpV p (rowT cs) (slTo p (rowT cs) n) (gIds p.gr (rowT cs) (slTo p (rowT cs) n)) cs.length) p.its.length (lim p.li (gNum p.gr (rowT cs) (slTo p (rowT cs) n))) := by
    unfold run runC runM
    rw [hag]
    simp only [if_true]
  obtain ⟨RS, hRe⟩ : ∃ R, Hid (run p (rowT cs) n cs.length = R) := ⟨_, rfl⟩
  rw [hRe.out] at hrun0
  rw [hRe.out]
  clear hRe
  have hrun := hide hrun0
  clear hrun0
  have hcode := hide hp.out.code
  have hitp := hide hp.out.its
  have hlen := hide hp.out.len
  have hgi := hide hp.out.gr
  have hgp := hide hok.out.gr
  have hwf0 := hide hok.out.wf
  have hits := hide hok.out.its
  have hni := hok.out.ni
  obtain ⟨nc, code, wh, its, gr, li, ag⟩ := p
  simp only at hnc hwf0 hits hni hag
  subst hag
  replace hnc := hide hnc
  replace hni := hide hni
  have hl3 : cs.length ≤ 256 := hv.out.2.2.1
  have hn2 : n ≤ 65536 := by have := hv.out.2.1; omega
  have hlg : gr.length ≤ 65600 := hlen.out.lg
  have hlc : code.length ≤ 65536 := hlen.out.lc
  have hlI : its.length ≤ 65536 := hlen.out.li
  have hwf : Hid (WfA code cs.length) := by have := hwf0.out; rw [hnc.out] at this; exact this
  clear hwf0
  have hB1 : Hid (Blk (((w.alloc (.cells #[.int .i64 nc, .slice ca code.length cc, .int .i64 wh, .slice ia its.length ic, .slice ga gr.length gc, .int .i64 li, .bool true] 57)).alloc (.cells #[.int .i64 n, .slice a cs.length cap] 27)).alloc (.cells #[.int .i64 0, .slice none 0 0] 34)) w.heap.size 57 [.int .i64 nc, .slice ca code.length cc, .int .i64 wh, .slice ia its.length ic, .slice ga gr.length gc, .int .i64 li, .bool true]) := ((Blk.new w _ _).alloc _).alloc _
  have hB2 : Hid (Blk (((w.alloc (.cells #[.int .i64 nc, .slice ca code.length cc, .int .i64 wh, .slice ia its.length ic, .slice ga gr.length gc, .int .i64 li, .bool true] 57)).alloc (.cells #[.int .i64 n, .slice a cs.length cap] 27)).alloc (.cells #[.int .i64 0, .slice none 0 0] 34)) (w.heap.size + 1) 27 [.int .i64 n, .slice a cs.length cap]) := by
    have := Blk.new (w.alloc (.cells #[.int .i64 nc, .slice ca code.length cc, .int .i64 wh, .slice ia its.length ic, .slice ga gr.length gc, .int .i64 li, .bool true] 57)) #[.int .i64 n, .slice a cs.length cap] 27
    rw [show (w.alloc (.cells #[.int .i64 nc, .slice ca code.length cc, .int .i64 wh, .slice ia its.length ic, .slice ga gr.length gc, .int .i64 li, .bool true] 57)).heap.size = w.heap.size + 1 by simp] at this
    exact this.alloc _
  have hG : Hid (Blk (((w.alloc (.cells #[.int .i64 nc, .slice ca code.length cc, .int .i64 wh, .slice ia its.length ic, .slice ga gr.length gc, .int .i64 li, .bool true] 57)).alloc (.cells #[.int .i64 n, .slice a cs.length cap] 27)).alloc (.cells #[.int .i64 0, .slice none 0 0] 34)) (w.heap.size + 2) 34 rsz) := by
    have := Blk.new ((w.alloc (.cells #[.int .i64 nc, .slice ca code.length cc, .int .i64 wh, .slice ia its.length ic, .slice ga gr.length gc, .int .i64 li, .bool true] 57)).alloc (.cells #[.int .i64 n, .slice a cs.length cap] 27)) #[.int .i64 0, .slice none 0 0] 34
    rw [show ((w.alloc (.cells #[.int .i64 nc, .slice ca code.length cc, .int .i64 wh, .slice ia its.length ic, .slice ga gr.length gc, .int .i64 li, .bool true] 57)).alloc (.cells #[.int .i64 n, .slice a cs.length cap] 27)).heap.size = w.heap.size + 2 by simp] at this
    exact this
  have hX : Hid (Ext w (((w.alloc (.cells #[.int .i64 nc, .slice ca code.length cc, .int .i64 wh, .slice ia its.length ic, .slice ga gr.length gc, .int .i64 li, .bool true] 57)).alloc (.cells #[.int .i64 n, .slice a cs.length cap] 27)).alloc (.cells #[.int .i64 0, .slice none 0 0] 34))) := (((Ext.refl w).alloc _).alloc _).alloc _
  simp only [plCells]
  go_enter Yabn.func19, Yabn.ntmps19
  go_wp2_with fail
  generalize (((w.alloc (.cells #[.int .i64 nc, .slice ca code.length cc, .int .i64 wh, .slice ia its.length ic, .slice ga gr.length gc, .int .i64 li, .bool true] 57)).alloc (.cells #[.int .i64 n, .slice a cs.length cap] 27)).alloc (.cells #[.int .i64 0, .slice none 0 0] 34)) = W at *
  refine (baseOK_yes ⟨nc, code, wh, its, gr, li, true⟩ ca ia ga a cc ic gc cap cs n W (hp.out.ext hX.out) hok (ht.out.ext hX.out) hv hnc.out).mono ?_
  rintro e w1 ⟨rfl, x1⟩
  have X1 : Hid (Ext w w1) := hX.out.trans x1
  replace hB1 := hide (hB1.out.ext x1)
  replace hB2 := hide (hB2.out.ext x1)
  replace hG := hide (hG.out.ext x1)
  clear x1 hX
  obtain ⟨CV, hV⟩ : ∃ CV, Hid (costV ⟨nc, code, wh, its, gr, li, true⟩ cs.length n = CV) := ⟨_, rfl⟩
  rw [hV.out]
  cases CV with
  | false =>
    dsimp only
    go_wp2_with (refine wpList_storeB (vs := rsz) rfl rfl (by rfl) (by rfl) hG.out size_res rfl rsz_one ?_; intro w9 hb9 hg9; replace hb9 := hide hb9; replace hg9 := hide hg9)
    refine bodyPost_ret (results_cell2 rfl (by rfl) hb9.out Yabn.underlying34 size_res) rfl ?_
    exact ⟨X1.out.grown hg9.out (fun q hq => by cases hq; omega), .inr ⟨(fun h => by rw [hV.out] at h; cases h), rfl⟩⟩
  | true =>
  have t0 := hB2.out.box 0 _ rfl
  have t1 := hB2.out.box 1 _ rfl
  dsimp only
  go_wp2_with fail
  refine (decodeAll cs n a cap w1 (ht.out.ext X1.out) hv).mono ?_
  rintro e w2 ⟨ra, rc, rfl, hr, x2⟩
  have X2 : Hid (Ext w w2) := X1.out.trans x2
  replace hB1 := hide (hB1.out.ext x2)
  replace hB2 := hide (hB2.out.ext x2)
  replace hG := hide (hG.out.ext x2)
  replace hr := hide hr
  clear x2 t0 t1 X1
  have q0 := hB1.out.box 0 _ rfl
  have q1 := hB1.out.box 1 _ rfl
  have q2 := hB1.out.box 2 _ rfl
  have q3 := hB1.out.box 3 _ rfl
  have q4 := hB1.out.box 4 _ rfl
  have q5 := hB1.out.box 5 _ rfl
  have q6 := hB1.out.box 6 _ rfl
  have t0 := hB2.out.box 0 _ rfl
  go_wp2_with fail
  have hsel := selectRows ⟨nc, code, wh, its, gr, li, true⟩ ca ia ga cc ic gc (colF cs) cs.length n ra rc w2 (hp.out.ext X2.out) hok hnc.out hr (fun j hj => colF_len hv.out hj) hl3 hn2
  rw [rowAt_T] at hsel
  have hslok : Hid (SelOK (slTo ⟨nc, code, wh, its, gr, li, true⟩ (rowT cs) n) n) := slTo_sel n
  obtain ⟨sl, hsl⟩ : ∃ sl, Hid (slTo ⟨nc, code, wh, its, gr, li, true⟩ (rowT cs) n = sl) := ⟨_, rfl⟩
  rw [hsl.out] at hsel hslok
  refine hsel.mono ?_
  clear hsel
  rintro e w3 ⟨sa, sc, rfl, hO, x3⟩
  have X3 : Hid (Ext w w3) := X2.out.trans x3
  replace hB1 := hide (hB1.out.ext x3)
  replace hG := hide (hG.out.ext x3)
  replace hr := hide (hr.out.ext x3)
  have hS := hide (OwnI.ints hO)
  have hsln : sl.length ≤ n := hslok.out.length
  clear x3 hO q0 q1 q2 q3 q4 q5 q6 t0 hB2 X2
  have hrun0 := hrun
  clear hrun
  rw [hsl.out] at hrun0
  clear hsl
  obtain ⟨R, hRb⟩ : ∃ R, w3.heap.size = R := ⟨_, rfl⟩
  have q1 := hB1.out.box 1 _ rfl
  have q3 := hB1.out.box 3 _ rfl
  replace hcode : Hid (NodesAt w3 ca code) := hcode.out.ext X3.out
  replace hitp : Hid (PairsAt w3 ia its) := hitp.out.ext X3.out
  (try simp only at hrun0)
  have hcg : Hid (sl.length * gr.length ≤ 16777216) := cost_gr hV.out hslok.out
  have hcit : Hid (∀ m, m ≤ n → m * its.length ≤ 16777216) := fun m hm => cost_it hV.out hm
  go_wp2_with (first | (at_make; refine mk_i64 rfl rfl cs.length rfl rfl (by omega) R hRb ?_; intro w4 O4 x4 z4; have hX4 : Hid (Ext w3 w4) := x4; replace O4 := hide O4; clear x4; have hB14 := hide (hB1.out.ext hX4.out)) | (at_make; refine mk_i64 rfl rfl code.length rfl rfl (by omega) (R + 1) z4 ?_; intro w5 O5 x5 z5; have hX5 : Hid (Ext w3 w5) := hX4.out.trans x5; replace O5 := hide O5; have O45 := hide (OwnI.ext O4.out x5); clear x5; have hB15 := hide (hB1.out.ext hX5.out); have q6 := hB15.out.box 6 _ rfl; have q5 := hB15.out.box 5 _ rfl; have q4 := hB15.out.box 4 _ rfl; have q39 := hB15.out.box 3 _ rfl; have q2 := hB15.out.box 2 _ rfl; have q19 := hB15.out.box 1 _ rfl; have q0 := hB15.out.box 0 _ rfl))
  have hgr := groupRows ⟨nc, code, wh, its, gr, li, true⟩ ca ia ga cc ic gc (colF cs) cs.length n ra sa rc sc sl w5 (hp.out.ext (X3.out.trans hX5.out)) (by have := hgp.out; rw [hnc.out] at this; exact this) (hr.out.ext hX5.out) (fun j hj => colF_len hv.out hj) (hS.out.ext hX5.out) (fun j hj => ⟨(hslok.out j hj).1, (hslok.out j hj).2.1⟩) hl3 hn2 (by omega) hcg.out
  rw [rowAt_T] at hgr
  refine hgr.mono ?_
  clear hgr q6 q5 q4 q39 q2 q19 q0 q1 q3
  rintro e w6 ⟨ka, ga', kc, gc', rfl, hOG, x6⟩
  have hX6 : Hid (Ext w3 w6) := hX5.out.trans x6
  have O46 := hide (OwnI.ext O45.out x6)
  have O56 := hide (OwnI.ext O5.out x6)
  have hgid0 := hide hOG.gid
  have hids0 := hide (gIds_lt gr (rowT cs) sl)
  have hNGl := gNum_le gr (rowT cs) sl
  have hz6 := x6.size
  clear O4 O5 O45 x6 hOG hX4 hX5 hB14 hB15
  simp only [gpCells]
  obtain ⟨NG, hNG⟩ : ∃ NG, Hid (gNum gr (rowT cs) sl = NG) := ⟨_, rfl⟩
  obtain ⟨ids, hids⟩ : ∃ ids, Hid (gIds gr (rowT cs) sl = ids) := ⟨_, rfl⟩
  obtain ⟨KL, hKL⟩ : ∃ KL, Hid ((gKeys gr (rowT cs) sl).flatten.length = KL) := ⟨_, rfl⟩
  have hidl : Hid (ids.length = sl.length) := by show _ = _; rw [← hids.out]; exact gIds_len _ _ _
  rw [hNG.out, hKL.out]
  rw [hNG.out] at hids0 hrun0 hNGl
  rw [hids.out] at hgid0 hids0 hrun0
  clear hNG hids hKL
  -- the plain values
  obtain ⟨FC, hFCe⟩ : ∃ FC, Hid (grpV ⟨nc, code, wh, its, gr, li, true⟩ (rowT cs) sl ids cs.length = FC) := ⟨_, rfl⟩
  obtain ⟨AJ, hAJe⟩ : ∃ AJ, Hid (accJ ⟨nc, code, wh, its, gr, li, true⟩ (rowT cs) sl ids = AJ) := ⟨_, rfl⟩
  have hAJ0 : Hid (∀ g k, AJ g k 0 = (0, false)) := fun g k => by rw [← hAJe.out]; rfl
  have hAJin : Hid (∀ (g k j s : Nat), ids.getD j 0 = (g : Int) → sl.getD j 0 = (s : Int) → AJ g k (j + 1) = (stepV (its.getD k (0, 0)).1 (AJ g k j) (if (its.getD k (0, 0)).2 < 0 then 0 else evX code (rowT cs s) (its.getD k (0, 0)).2.toNat), true)) := fun g k j s h hs => by
    rw [← hAJe.out, accJ_in _ _ _ _ _ _ _ h]
    unfold vJ itV
    rw [hs, Int.toNat_natCast]
  have hAJout : Hid (∀ (g k j : Nat), ids.getD j 0 ≠ (g : Int) → AJ g k (j + 1) = AJ g k j) := fun g k j h => by rw [← hAJe.out, accJ_out _ _ _ _ _ _ _ h]
  have hFCs : Hid (∀ g k, FC g k = if (its.getD k (0, 0)).1 = 0 ∧ (AJ g k sl.length).2 = false then (if (its.getD k (0, 0)).2 < 0 then 0 else evX code (List.replicate cs.length 0) (its.getD k (0, 0)).2.toNat) else (AJ g k sl.length).1) := fun g k => by rw [← hFCe.out, ← hAJe.out, grpV_seen]; rfl
  rw [hFCe.out] at hrun0
  clear hFCe hAJe
  have hrun : Hid (RS = flC FC its.length (lim li NG)) := hrun0.out
  clear hrun0
  obtain ⟨MN, hMN⟩ : ∃ MN, Hid (NG * its.length = MN) := ⟨_, rfl⟩
  have hmul : (NG : Int) * (its.length : Int) = (MN : Int) := by rw [← hMN.out]; simp
  have hMNc : MN ≤ 16777216 := by
    rw [← hMN.out]
    rcases Nat.eq_zero_or_pos NG with h0 | h0
    · rw [h0]; omega
    · rcases hNGl.2 h0 with h | h
      · rw [h]; omega
      · exact hcit.out NG (by omega)
  have hNG2 : NG ≤ 65537 := by have := hNGl.1; omega
  have hb7 : Hid (Blk (w6.alloc (.cells #[.int .i64 gr.length, .int .i64 NG, .slice ka KL kc, .slice ga' sl.length gc'] 113)) w6.heap.size 113 [.int .i64 gr.length, .int .i64 NG, .slice ka KL kc, .slice ga' sl.length gc']) := Blk.new w6 _ _
  have hX7 : Hid (Ext w3 (w6.alloc (.cells #[.int .i64 gr.length, .int .i64 NG, .slice ka KL kc, .slice ga' sl.length gc'] 113))) := hX6.out.alloc _
  have O47 := hide (OwnI.alloc O46.out (.cells #[.int .i64 gr.length, .int .i64 NG, .slice ka KL kc, .slice ga' sl.length gc'] 113))
  have O57 := hide (OwnI.alloc O56.out (.cells #[.int .i64 gr.length, .int .i64 NG, .slice ka KL kc, .slice ga' sl.length gc'] 113))
  have hgid7 := hide (OwnI.alloc hgid0.out (.cells #[.int .i64 gr.length, .int .i64 NG, .slice ka KL kc, .slice ga' sl.length gc'] 113))
  have hsz7 : Hid ((w6.alloc (.cells #[.int .i64 gr.length, .int .i64 NG, .slice ka KL kc, .slice ga' sl.length gc'] 113)).heap.size = w6.heap.size + 1) := by show _ = _; simp
  have hRle : Hid (w3.heap.size ≤ R) := by show _ ≤ _; omega
  have r1 := hb7.out.box 1 _ rfl
  clear hNGl hcit hX6 O46 O56 hgid0
  go_wp2_with (first | (at_make; refine mk_i64 rfl rfl MN (by rfl) (by rfl) (by omega) (w6.heap.size + 1) hsz7.out ?_; intro w8 O8 x8 z8; have hX8 : Hid (Ext w3 w8) := hX7.out.trans x8; have O48 := hide (OwnI.ext O47.out x8); have O58 := hide (OwnI.ext O57.out x8); have hgid8 := hide (OwnI.ext hgid7.out x8); have hb8 := hide (hb7.out.ext x8); have hO8 := hide O8; clear O8 x8 r1; have r1 := hb8.out.box 1 _ rfl) | (at_make; refine mk_bool rfl rfl MN (by rfl) (by rfl) (by omega) (w6.heap.size + 1 + 1) z8 ?_; intro w9 O9 x9 z9; have hX9 : Hid (Ext w3 w9) := hX8.out.trans x9; have O49 := hide (OwnI.ext O48.out x9); have O59 := hide (OwnI.ext O58.out x9); have hgid9 := hide (OwnI.ext hgid8.out x9); have hb9 := hide (hb8.out.ext x9); have hO89 := hide (OwnI.ext hO8.out x9); have hO9 := hide O9; clear O9 x9 r1))
  obtain ⟨A, hA⟩ : ∃ A, w6.heap.size + 1 = A := ⟨_, rfl⟩
  obtain ⟨Gb, hGb⟩ : ∃ Gb, w6.heap.size = Gb := ⟨_, rfl⟩
  rw [hA] at hO89 hO9
  rw [hGb] at hb9
  simp only [hA]
  simp only [hGb]
  have hGN : Hid (R + 2 ≤ Gb ∧ Gb < A) := by show _ ∧ _; omega
  have hI0 : Hid (AggI w3 w9 cs.length code.length R A MN Gb (List.replicate cs.length 0) (List.replicate code.length 0) (List.replicate MN 0) (List.replicate MN false) (.slice ga' sl.length gc') ids [.int .i64 gr.length, .int .i64 NG, .slice ka KL kc, .slice ga' sl.length gc']) :=
    ⟨OwnI.mono O49.out hRle.out, by simp, OwnI.mono O59.out (Nat.le_trans hRle.out (Nat.le_succ R)), by simp, OwnI.mono hO89.out (by have := hRle.out; have := hGN.out; omega), by simp, OwnZ.mono hO9.out (by have := hRle.out; have := hGN.out; omega), by simp, OwnI.mono hgid9.out (by omega), hb9.out, hX9.out⟩
  clear O47 O57 O48 O58 O49 O59 hO8 hO89 hO9 hX7 hX8 hX9 hb7 hb8 hb9 hgid7 hgid8 hgid9 hsz7 z8 z9 hA hGb z4 z5 hz6
  go_loopw [141] (fun i wr => ∃ (j : Nat) (yr yv AL : List Int) (NL : List Bool), i = .int .i64 j ∧ j ≤ sl.length ∧ Hid (AggI w3 wr cs.length code.length R A MN Gb yr yv AL NL (.slice ga' sl.length gc') ids [.int .i64 gr.length, .int .i64 NG, .slice ka KL kc, .slice ga' sl.length gc']) ∧ Hid (Cel 0 AL NG its.length (fun g k => (AJ g k j).1)) ∧ Hid (Cel false NL NG its.length (fun g k => (AJ g k j).2))) (fun i _ => sl.length - (intOf i).toNat)
  case atStart => exact ⟨0, _, _, _, _, rfl, Nat.zero_le _, hI0, ⟨by simp; exact hMN.out.symm, fun g k hg hk => by show _ = (AJ g k 0).1; rw [hAJ0.out]; exact cel_zero hMN.out hg hk⟩, ⟨by simp; exact hMN.out.symm, fun g k hg hk => by show _ = (AJ g k 0).2; rw [hAJ0.out]; exact cel_false MN _⟩⟩
  clear hI0
  obtain ⟨j, yr, yv, AL, NL, rfl, hj, hI, hCelA, hCelN⟩ := hrel
  by_cases hjl : j < sl.length
  · have hjs : (j : Int) < sl.length := by omega
    obtain ⟨b1, o1, e1, c1⟩ := (hS.out.ext hI.out.ex) j hjl
    cases e1
    obtain ⟨s, hs, es⟩ : ∃ s : Nat, s < n ∧ sl.getD j 0 = (s : Int) := by
      obtain ⟨h1, h2, _⟩ := hslok.out j (by omega)
      exact ⟨(sl.getD j 0).toNat, by omega, by omega⟩
    rw [es] at c1
    obtain ⟨gi, hgi, eg⟩ := hids0.out j hjl
    have hAin : Hid (∀ k, AJ gi k (j + 1) = (stepV (its.getD k (0, 0)).1 (AJ gi k j) (if (its.getD k (0, 0)).2 < 0 then 0 else evX code (rowT cs s) (its.getD k (0, 0)).2.toNat), true)) := fun k => hAJin.out gi k j s eg es
    have hAout : Hid (∀ (g k : Nat), g ≠ gi → AJ g k (j + 1) = AJ g k j) := fun g k hne => hAJout.out g k j (by rw [eg]; intro e; exact hne (by omega))
    have hX7 := hide hI.out.ex
    have hRo := hide hI.out.row
    have hVo := hide hI.out.val
    have hyr := hide hI.out.rl
    have hyv := hide hI.out.vl
    replace es := hide es
    as_aux_lemma =>
      go_wp2_with fail
      clear c1
      refine (rowOf (colF cs) cs.length s _ rfl ra rc R cs.length yr w3 wr hX7 hr (fun j hj => by rw [colF_len hv.out hj]; exact ⟨hs, hn2⟩) hl3 hRo hyr.out).mono ?_
      rintro e v1 ⟨rfl, oR, b1⟩
      rw [rowAt_T] at oR
      have hXv1 : Hid (Ext w3 v1) := Below.trans hX7.out (b1.below (fun q hq => by omega) hX7.out.size)
      have hBv1 := hide (hB1.out.ext hXv1.out)
      have q1 := hBv1.out.box 1 _ rfl
      have hVv1 := hide (hVo.out.butS b1 (fun q hq hh => by cases hq; have h2 : R + 1 = R := hh; omega))
      have hrl : Hid ((rowT cs s).length = cs.length) := rowT_len cs _
      obtain ⟨row, hrow⟩ : ∃ row, Hid (rowT cs s = row) := ⟨_, rfl⟩
      rw [hrow.out] at oR hrl
      have hri := hide oR.ints
      have hoR := hide oR
      replace b1 := hide b1
      clear oR
      have har : Hid (∀ p, (some ⟨R, 0, none⟩ : Option Addr) = some p → p.block ≠ R + 1) := fun p hp => by cases hp; show R ≠ R + 1; omega
      have hev := hide (evalInto_allK code row yv ca (some ⟨R, 0, none⟩) cc cs.length (R + 1) code.length cs.length ((code.length : Int) - 1) w3 v1 hXv1 hcode hri har hVv1 hyv.out (by omega) (by rw [hrl.out]; omega) (fun i hi => by rw [hrl.out]; exact hwf.out i hi) rfl hrl.out.symm)
      go_wp2_with fail
      refine hev.out.mono ?_
      rintro e v2 ⟨rfl, oV, b2⟩
      have hXv2 : Hid (Ext w3 v2) := Below.trans hXv1.out (b2.below (fun q hq => by omega) hXv1.out.size)
      have hRv2 := hide (hoR.out.butS b2 (fun q hq hh => by cases hq; have h2 : R = R + 1 := hh; omega))
      have hb12 : Hid (But (fun q => q = R ∨ q = R + 1) wr v2) := but_two b1.out b2 (.inl rfl) (.inr rfl)
      have hUl : Hid ((evTo code row code.length).length = code.length) := evTo_len _ _ _
      have hUa : Hid (∀ x, x < code.length → (evTo code row code.length).getD x 0 = evX code row x) := fun x hx => evTo_at code row code.length x hx
      obtain ⟨U, hU⟩ : ∃ U, Hid (evTo code row code.length = U) := ⟨_, rfl⟩
      rw [hU.out] at oV hUl hUa
      have hVv2 := hide oV
      clear oV b2 b1 hev har hri hoR hVv1 hXv1 hBv1 q1 hU hX7 hRo hVo
      rw [hrow.out] at hAin
      have hI2 := hide (hI.out.rows hGN.out hb12.out hXv2.out hRv2.out hrl.out hVv2.out hUl.out)
      have hgc := OwnI.ints hI2.out.gid
      obtain ⟨b5, o5, e5, c5⟩ := hgc j (by rw [hidl.out]; exact hjl)
      cases e5
      rw [eg] at c5
      have r3 := hI2.out.gb.box 3 _ rfl
      have hBr := hide (hB1.out.ext hXv2.out)
      have q3 := hBr.out.box 3 _ rfl
      clear hb12 hRv2 hVv2 hI hgc hyr hyv
      go_wp2_with fail
      clear c5 r3 q3
      go_loopw [165] (fun i wr => ∃ (kk : Nat) (AL : List Int) (NL : List Bool), i = .int .i64 kk ∧ kk ≤ its.length ∧ Hid (AggI w3 wr cs.length code.length R A MN Gb row U AL NL (.slice (some ⟨b5, o5, none⟩) sl.length gc') ids [.int .i64 gr.length, .int .i64 NG, .slice ka KL kc, .slice (some ⟨b5, o5, none⟩) sl.length gc']) ∧ Hid (Cel 0 AL NG its.length (fun g k => (AJ g k (if g = gi ∧ k < kk then j + 1 else j)).1)) ∧ Hid (Cel false NL NG its.length (fun g k => (AJ g k (if g = gi ∧ k < kk then j + 1 else j)).2))) (fun i _ => its.length - (intOf i).toNat)
      case atStart => exact ⟨0, AL, NL, rfl, Nat.zero_le _, hI2, hCelA.out.congr (fun g k _ _ => by rw [if_neg (by omega)]), hCelN.out.congr (fun g k _ _ => by rw [if_neg (by omega)])⟩
      clear hI2 hCelA hCelN
      obtain ⟨kk, AL, NL, rfl, hkk, hI, hCelA, hCelN⟩ := hrel
      by_cases hkl : kk < its.length
      · have hkl' : (kk : Int) < its.length := by omega
        obtain ⟨b3, o3, e3, g1, g2⟩ := (hitp.out.ext hI.out.ex) kk hkl
        have hitj := hits.out _ (getD_mem_it its kk hkl)
        have hAst0 := hAin.out kk
        obtain ⟨JA, hJA⟩ : ∃ JA, Hid (gi * its.length = JA) := ⟨_, rfl⟩
        have hJI : (gi : Int) * (its.length : Int) = (JA : Int) := by rw [← hJA.out]; simp
        have hix := hide (hCelA.out.lt hgi hkl)
        rw [hI.out.al, hJA.out] at hix
        have hix' : (JA : Int) + kk < MN := by have := hix.out; omega
        have ha0 := hCelA.out.2 gi kk hgi hkl
        have hb0 := hCelN.out.2 gi kk hgi hkl
        simp only at ha0 hb0
        rw [if_neg (by omega), hJA.out] at ha0 hb0
        obtain ⟨⟨ac, b⟩, hacb⟩ : ∃ q, Hid (AJ gi kk j = q) := ⟨_, rfl⟩
        rw [hacb.out] at ha0 hb0 hAst0
        have hcN : Hid (Cel false (NL.set (JA + kk) true) NG its.length (fun g k => (AJ g k (if g = gi ∧ k < kk + 1 then j + 1 else j)).2)) := by
          have := hCelN.out.set hgi hkl true (F' := fun g k => (AJ g k (if g = gi ∧ k < kk + 1 then j + 1 else j)).2) (fun g' k' _ _ hne => by
            by_cases hc : g' = gi ∧ k' < kk
            · rw [if_pos hc, if_pos (by omega)]
            · rw [if_neg hc, if_neg (by omega)]) (by rw [if_pos ⟨rfl, by omega⟩, hAin.out kk])
          rw [hJA.out] at this
          exact this
        generalize its.getD kk (0, 0) = itj at *
        obtain ⟨g, E⟩ := itj
        simp only at g1 g2 hAst0 ha0 hb0
        obtain ⟨hg0, hg5, hite⟩ := hitj
        simp only at hg0 hg5 hite
        cases e3
        have hI1 := hide (hI.out.alloc (.cells #[.int .i64 g, .int .i64 E] 89))
        have hT : Hid (Blk (wr.alloc (.cells #[.int .i64 g, .int .i64 E] 89)) wr.heap.size 89 [.int .i64 g, .int .i64 E]) := Blk.new wr _ _
        have t0 := hT.out.box 0 _ rfl
        have t1 := hT.out.box 1 _ rfl
        have ca9 := OwnI.cellAt hI1.out.acc (JA + kk) (by rw [hI1.out.al]; exact hix.out)
        have cn9 := OwnZ.cellAt hI1.out.seen (JA + kk) (by rw [hI1.out.nl]; exact hix.out)
        rw [ha0] at ca9
        rw [hb0] at cn9
        have hAc : Hid (AL.getD (JA + kk) 0 = ac) := ha0
        by_cases hE0 : 0 ≤ E
        · obtain ⟨x, rfl⟩ := Int.eq_ofNat_of_zero_le hE0
          have hx9 : x < code.length := by omega
          have hx9' : (x : Int) < code.length := by omega
          have hE0' : (0 : Int) ≤ (x : Int) := by omega
          rw [if_neg (by omega), Int.toNat_natCast, ← hUa.out x hx9] at hAst0
          have cx := OwnI.cellAt hI1.out.val x (by rw [hUl.out]; exact hx9)
          obtain ⟨X, hX⟩ : ∃ X, Hid (U.getD x 0 = X) := ⟨_, rfl⟩
          rw [hX.out] at cx hAst0
          have hAst : Hid (AJ gi kk (j + 1) = (stepV g (ac, b) X, true)) := hAst0
          clear hAst0 hite ha0 hb0 hacb hI hT
          rcases (by omega : g = 0 ∨ g = 1 ∨ g = 2 ∨ g = 3 ∨ g = 4 ∨ g = 5) with rfl | rfl | rfl | rfl | rfl | rfl
          · cases b with
            | false =>
              have hnew : Hid ((stepV 0 (ac, false) X) = X) := rfl
              as_aux_lemma =>
                have hcA : Hid (Cel 0 (AL.set (JA + kk) (X)) NG its.length (fun g k => (AJ g k (if g = gi ∧ k < kk + 1 then j + 1 else j)).1)) := by
                  have := hCelA.out.set hgi hkl (X) (F' := fun g k => (AJ g k (if g = gi ∧ k < kk + 1 then j + 1 else j)).1) (fun g' k' _ _ hne => by
                    by_cases hc : g' = gi ∧ k' < kk
                    · rw [if_pos hc, if_pos (by omega)]
                    · rw [if_neg hc, if_neg (by omega)]) (by rw [if_pos ⟨rfl, by omega⟩, hAst.out]; exact hnew.out)
                  rw [hJA.out] at this
                  exact this
                go_wp2_with (first | (refine wpList_stI (g := A) (i := JA + kk) (u := X) rfl rfl (by rfl) (by rfl) hI1.out.acc hI1.out.al.symm (by rw [hI1.out.al]; exact hix.out) size_int64 ?_; intro w8 hU8 hg8; have hI8 := hide (hI1.out.setA hGN.out hRle.out hU8 hg8); clear hU8 hg8) | (refine wpList_stZ (g := A + 1) (i := JA + kk) (u := true) rfl rfl (by rfl) (by rfl) hI8.out.seen (by rw [hI8.out.nl]; exact hix.out) size_bool ?_; intro w9 hU9 hg9; have hI9 := hide (hI8.out.setN hGN.out hRle.out hU9 hg9); clear hU9 hg9))
                go_roundw
                case rel => exact ⟨kk + 1, _, _, by go_num, by omega, hI9.out, hcA.out, hcN.out⟩
                case measure => simp [intOf]; omega
            | true =>
              have hnew : Hid ((stepV 0 (ac, true) X) = ac) := rfl
              as_aux_lemma =>
                have hcA : Hid (Cel 0 AL NG its.length (fun g k => (AJ g k (if g = gi ∧ k < kk + 1 then j + 1 else j)).1)) :=
                  hCelA.out.same hgi hkl (fun g' k' _ _ hne => by
                    by_cases hc : g' = gi ∧ k' < kk
                    · rw [if_pos hc, if_pos (by omega)]
                    · rw [if_neg hc, if_neg (by omega)]) (by rw [if_pos ⟨rfl, by omega⟩, hAst.out, hJA.out, hAc.out]; exact hnew.out)
                go_wp2_with (refine wpList_stZ (g := A + 1) (i := JA + kk) (u := true) rfl rfl (by rfl) (by rfl) hI1.out.seen (by rw [hI1.out.nl]; exact hix.out) size_bool ?_; intro w9 hU9 hg9; have hI9 := hide (hI1.out.setN hGN.out hRle.out hU9 hg9); clear hU9 hg9)
                go_roundw
                case rel => exact ⟨kk + 1, _, _, by go_num, by omega, hI9.out, hcA.out, hcN.out⟩
                case measure => simp [intOf]; omega
          · have hnew : Hid ((stepV 1 (ac, b) X) = wrap64 (ac + X)) := rfl
            as_aux_lemma =>
              have hcA : Hid (Cel 0 (AL.set (JA + kk) (wrap64 (ac + X))) NG its.length (fun g k => (AJ g k (if g = gi ∧ k < kk + 1 then j + 1 else j)).1)) := by
                have := hCelA.out.set hgi hkl (wrap64 (ac + X)) (F' := fun g k => (AJ g k (if g = gi ∧ k < kk + 1 then j + 1 else j)).1) (fun g' k' _ _ hne => by
                  by_cases hc : g' = gi ∧ k' < kk
                  · rw [if_pos hc, if_pos (by omega)]
                  · rw [if_neg hc, if_neg (by omega)]) (by rw [if_pos ⟨rfl, by omega⟩, hAst.out]; exact hnew.out)
                rw [hJA.out] at this
                exact this
              go_wp2_with (first | (refine wpList_stI (g := A) (i := JA + kk) (u := wrap64 (ac + X)) rfl rfl (by rfl) (by rfl) hI1.out.acc hI1.out.al.symm (by rw [hI1.out.al]; exact hix.out) size_int64 ?_; intro w8 hU8 hg8; have hI8 := hide (hI1.out.setA hGN.out hRle.out hU8 hg8); clear hU8 hg8) | (refine wpList_stZ (g := A + 1) (i := JA + kk) (u := true) rfl rfl (by rfl) (by rfl) hI8.out.seen (by rw [hI8.out.nl]; exact hix.out) size_bool ?_; intro w9 hU9 hg9; have hI9 := hide (hI8.out.setN hGN.out hRle.out hU9 hg9); clear hU9 hg9))
              go_roundw
              case rel => exact ⟨kk + 1, _, _, by go_num, by omega, hI9.out, hcA.out, hcN.out⟩
              case measure => simp [intOf]; omega
          · cases b with
            | false =>
              have hnew : Hid ((stepV 2 (ac, false) X) = X) := by show _ = _; simp [stepV]
              as_aux_lemma =>
                have hcA : Hid (Cel 0 (AL.set (JA + kk) (X)) NG its.length (fun g k => (AJ g k (if g = gi ∧ k < kk + 1 then j + 1 else j)).1)) := by
                  have := hCelA.out.set hgi hkl (X) (F' := fun g k => (AJ g k (if g = gi ∧ k < kk + 1 then j + 1 else j)).1) (fun g' k' _ _ hne => by
                    by_cases hc : g' = gi ∧ k' < kk
                    · rw [if_pos hc, if_pos (by omega)]
                    · rw [if_neg hc, if_neg (by omega)]) (by rw [if_pos ⟨rfl, by omega⟩, hAst.out]; exact hnew.out)
                  rw [hJA.out] at this
                  exact this
                go_wp2_with (first | (refine wpList_stI (g := A) (i := JA + kk) (u := X) rfl rfl (by rfl) (by rfl) hI1.out.acc hI1.out.al.symm (by rw [hI1.out.al]; exact hix.out) size_int64 ?_; intro w8 hU8 hg8; have hI8 := hide (hI1.out.setA hGN.out hRle.out hU8 hg8); clear hU8 hg8) | (refine wpList_stZ (g := A + 1) (i := JA + kk) (u := true) rfl rfl (by rfl) (by rfl) hI8.out.seen (by rw [hI8.out.nl]; exact hix.out) size_bool ?_; intro w9 hU9 hg9; have hI9 := hide (hI8.out.setN hGN.out hRle.out hU9 hg9); clear hU9 hg9))
                go_roundw
                case rel => exact ⟨kk + 1, _, _, by go_num, by omega, hI9.out, hcA.out, hcN.out⟩
                case measure => simp [intOf]; omega
            | true =>
              by_cases hlt : X < ac
              · have hnew : Hid ((stepV 2 (ac, true) X) = X) := by show _ = _; simp [stepV, hlt]
                as_aux_lemma =>
                  have hcA : Hid (Cel 0 (AL.set (JA + kk) (X)) NG its.length (fun g k => (AJ g k (if g = gi ∧ k < kk + 1 then j + 1 else j)).1)) := by
                    have := hCelA.out.set hgi hkl (X) (F' := fun g k => (AJ g k (if g = gi ∧ k < kk + 1 then j + 1 else j)).1) (fun g' k' _ _ hne => by
                      by_cases hc : g' = gi ∧ k' < kk
                      · rw [if_pos hc, if_pos (by omega)]
                      · rw [if_neg hc, if_neg (by omega)]) (by rw [if_pos ⟨rfl, by omega⟩, hAst.out]; exact hnew.out)
                    rw [hJA.out] at this
                    exact this
                  go_wp2_with (first | (refine wpList_stI (g := A) (i := JA + kk) (u := X) rfl rfl (by rfl) (by rfl) hI1.out.acc hI1.out.al.symm (by rw [hI1.out.al]; exact hix.out) size_int64 ?_; intro w8 hU8 hg8; have hI8 := hide (hI1.out.setA hGN.out hRle.out hU8 hg8); clear hU8 hg8) | (refine wpList_stZ (g := A + 1) (i := JA + kk) (u := true) rfl rfl (by rfl) (by rfl) hI8.out.seen (by rw [hI8.out.nl]; exact hix.out) size_bool ?_; intro w9 hU9 hg9; have hI9 := hide (hI8.out.setN hGN.out hRle.out hU9 hg9); clear hU9 hg9))
                  go_roundw
                  case rel => exact ⟨kk + 1, _, _, by go_num, by omega, hI9.out, hcA.out, hcN.out⟩
                  case measure => simp [intOf]; omega
              · have hnew : Hid ((stepV 2 (ac, true) X) = ac) := by show _ = _; simp [stepV, hlt]
                as_aux_lemma =>
                  have hcA : Hid (Cel 0 AL NG its.length (fun g k => (AJ g k (if g = gi ∧ k < kk + 1 then j + 1 else j)).1)) :=
                    hCelA.out.same hgi hkl (fun g' k' _ _ hne => by
                      by_cases hc : g' = gi ∧ k' < kk
                      · rw [if_pos hc, if_pos (by omega)]
                      · rw [if_neg hc, if_neg (by omega)]) (by rw [if_pos ⟨rfl, by omega⟩, hAst.out, hJA.out, hAc.out]; exact hnew.out)
                  go_wp2_with (refine wpList_stZ (g := A + 1) (i := JA + kk) (u := true) rfl rfl (by rfl) (by rfl) hI1.out.seen (by rw [hI1.out.nl]; exact hix.out) size_bool ?_; intro w9 hU9 hg9; have hI9 := hide (hI1.out.setN hGN.out hRle.out hU9 hg9); clear hU9 hg9)
                  go_roundw
                  case rel => exact ⟨kk + 1, _, _, by go_num, by omega, hI9.out, hcA.out, hcN.out⟩
                  case measure => simp [intOf]; omega
          · cases b with
            | false =>
              have hnew : Hid ((stepV 3 (ac, false) X) = X) := by show _ = _; simp [stepV]
              as_aux_lemma =>
                have hcA : Hid (Cel 0 (AL.set (JA + kk) (X)) NG its.length (fun g k => (AJ g k (if g = gi ∧ k < kk + 1 then j + 1 else j)).1)) := by
                  have := hCelA.out.set hgi hkl (X) (F' := fun g k => (AJ g k (if g = gi ∧ k < kk + 1 then j + 1 else j)).1) (fun g' k' _ _ hne => by
                    by_cases hc : g' = gi ∧ k' < kk
                    · rw [if_pos hc, if_pos (by omega)]
                    · rw [if_neg hc, if_neg (by omega)]) (by rw [if_pos ⟨rfl, by omega⟩, hAst.out]; exact hnew.out)
                  rw [hJA.out] at this
                  exact this
                go_wp2_with (first | (refine wpList_stI (g := A) (i := JA + kk) (u := X) rfl rfl (by rfl) (by rfl) hI1.out.acc hI1.out.al.symm (by rw [hI1.out.al]; exact hix.out) size_int64 ?_; intro w8 hU8 hg8; have hI8 := hide (hI1.out.setA hGN.out hRle.out hU8 hg8); clear hU8 hg8) | (refine wpList_stZ (g := A + 1) (i := JA + kk) (u := true) rfl rfl (by rfl) (by rfl) hI8.out.seen (by rw [hI8.out.nl]; exact hix.out) size_bool ?_; intro w9 hU9 hg9; have hI9 := hide (hI8.out.setN hGN.out hRle.out hU9 hg9); clear hU9 hg9))
                go_roundw
                case rel => exact ⟨kk + 1, _, _, by go_num, by omega, hI9.out, hcA.out, hcN.out⟩
                case measure => simp [intOf]; omega
            | true =>
              by_cases hlt : ac < X
              · have hnew : Hid ((stepV 3 (ac, true) X) = X) := by show _ = _; simp [stepV, hlt]
                as_aux_lemma =>
                  have hcA : Hid (Cel 0 (AL.set (JA + kk) (X)) NG its.length (fun g k => (AJ g k (if g = gi ∧ k < kk + 1 then j + 1 else j)).1)) := by
                    have := hCelA.out.set hgi hkl (X) (F' := fun g k => (AJ g k (if g = gi ∧ k < kk + 1 then j + 1 else j)).1) (fun g' k' _ _ hne => by
                      by_cases hc : g' = gi ∧ k' < kk
                      · rw [if_pos hc, if_pos (by omega)]
                      · rw [if_neg hc, if_neg (by omega)]) (by rw [if_pos ⟨rfl, by omega⟩, hAst.out]; exact hnew.out)
                    rw [hJA.out] at this
                    exact this
                  go_wp2_with (first | (refine wpList_stI (g := A) (i := JA + kk) (u := X) rfl rfl (by rfl) (by rfl) hI1.out.acc hI1.out.al.symm (by rw [hI1.out.al]; exact hix.out) size_int64 ?_; intro w8 hU8 hg8; have hI8 := hide (hI1.out.setA hGN.out hRle.out hU8 hg8); clear hU8 hg8) | (refine wpList_stZ (g := A + 1) (i := JA + kk) (u := true) rfl rfl (by rfl) (by rfl) hI8.out.seen (by rw [hI8.out.nl]; exact hix.out) size_bool ?_; intro w9 hU9 hg9; have hI9 := hide (hI8.out.setN hGN.out hRle.out hU9 hg9); clear hU9 hg9))
                  go_roundw
                  case rel => exact ⟨kk + 1, _, _, by go_num, by omega, hI9.out, hcA.out, hcN.out⟩
                  case measure => simp [intOf]; omega
              · have hnew : Hid ((stepV 3 (ac, true) X) = ac) := by show _ = _; simp [stepV, hlt]
                as_aux_lemma =>
                  have hcA : Hid (Cel 0 AL NG its.length (fun g k => (AJ g k (if g = gi ∧ k < kk + 1 then j + 1 else j)).1)) :=
                    hCelA.out.same hgi hkl (fun g' k' _ _ hne => by
                      by_cases hc : g' = gi ∧ k' < kk
                      · rw [if_pos hc, if_pos (by omega)]
                      · rw [if_neg hc, if_neg (by omega)]) (by rw [if_pos ⟨rfl, by omega⟩, hAst.out, hJA.out, hAc.out]; exact hnew.out)
                  go_wp2_with (refine wpList_stZ (g := A + 1) (i := JA + kk) (u := true) rfl rfl (by rfl) (by rfl) hI1.out.seen (by rw [hI1.out.nl]; exact hix.out) size_bool ?_; intro w9 hU9 hg9; have hI9 := hide (hI1.out.setN hGN.out hRle.out hU9 hg9); clear hU9 hg9)
                  go_roundw
                  case rel => exact ⟨kk + 1, _, _, by go_num, by omega, hI9.out, hcA.out, hcN.out⟩
                  case measure => simp [intOf]; omega
          · by_cases hz : X = 0
            · have hzb : (X != 0) = false := by simp [hz]
              have hnew : Hid ((stepV 4 (ac, b) X) = ac) := by show _ = _; simp [stepV, hz]
              replace hz := hide hz
              as_aux_lemma =>
                have hcA : Hid (Cel 0 AL NG its.length (fun g k => (AJ g k (if g = gi ∧ k < kk + 1 then j + 1 else j)).1)) :=
                  hCelA.out.same hgi hkl (fun g' k' _ _ hne => by
                    by_cases hc : g' = gi ∧ k' < kk
                    · rw [if_pos hc, if_pos (by omega)]
                    · rw [if_neg hc, if_neg (by omega)]) (by rw [if_pos ⟨rfl, by omega⟩, hAst.out, hJA.out, hAc.out]; exact hnew.out)
                go_wp2_with (refine wpList_stZ (g := A + 1) (i := JA + kk) (u := true) rfl rfl (by rfl) (by rfl) hI1.out.seen (by rw [hI1.out.nl]; exact hix.out) size_bool ?_; intro w9 hU9 hg9; have hI9 := hide (hI1.out.setN hGN.out hRle.out hU9 hg9); clear hU9 hg9)
                go_roundw
                case rel => exact ⟨kk + 1, _, _, by go_num, by omega, hI9.out, hcA.out, hcN.out⟩
                case measure => simp [intOf]; omega
            · have hzb : (X != 0) = true := by simp [hz]
              have hnew : Hid ((stepV 4 (ac, b) X) = wrap64 (ac + 1)) := by show _ = _; simp [stepV, hz]
              replace hz := hide hz
              as_aux_lemma =>
                have hcA : Hid (Cel 0 (AL.set (JA + kk) (wrap64 (ac + 1))) NG its.length (fun g k => (AJ g k (if g = gi ∧ k < kk + 1 then j + 1 else j)).1)) := by
                  have := hCelA.out.set hgi hkl (wrap64 (ac + 1)) (F' := fun g k => (AJ g k (if g = gi ∧ k < kk + 1 then j + 1 else j)).1) (fun g' k' _ _ hne => by
                    by_cases hc : g' = gi ∧ k' < kk
                    · rw [if_pos hc, if_pos (by omega)]
                    · rw [if_neg hc, if_neg (by omega)]) (by rw [if_pos ⟨rfl, by omega⟩, hAst.out]; exact hnew.out)
                  rw [hJA.out] at this
                  exact this
                go_wp2_with (first | (refine wpList_stI (g := A) (i := JA + kk) (u := wrap64 (ac + 1)) rfl rfl (by rfl) (by rfl) hI1.out.acc hI1.out.al.symm (by rw [hI1.out.al]; exact hix.out) size_int64 ?_; intro w8 hU8 hg8; have hI8 := hide (hI1.out.setA hGN.out hRle.out hU8 hg8); clear hU8 hg8) | (refine wpList_stZ (g := A + 1) (i := JA + kk) (u := true) rfl rfl (by rfl) (by rfl) hI8.out.seen (by rw [hI8.out.nl]; exact hix.out) size_bool ?_; intro w9 hU9 hg9; have hI9 := hide (hI8.out.setN hGN.out hRle.out hU9 hg9); clear hU9 hg9))
                go_roundw
                case rel => exact ⟨kk + 1, _, _, by go_num, by omega, hI9.out, hcA.out, hcN.out⟩
                case measure => simp [intOf]; omega
          · have hnew : Hid ((stepV 5 (ac, b) X) = wrap64 (ac + 1)) := rfl
            as_aux_lemma =>
              have hcA : Hid (Cel 0 (AL.set (JA + kk) (wrap64 (ac + 1))) NG its.length (fun g k => (AJ g k (if g = gi ∧ k < kk + 1 then j + 1 else j)).1)) := by
                have := hCelA.out.set hgi hkl (wrap64 (ac + 1)) (F' := fun g k => (AJ g k (if g = gi ∧ k < kk + 1 then j + 1 else j)).1) (fun g' k' _ _ hne => by
                  by_cases hc : g' = gi ∧ k' < kk
                  · rw [if_pos hc, if_pos (by omega)]
                  · rw [if_neg hc, if_neg (by omega)]) (by rw [if_pos ⟨rfl, by omega⟩, hAst.out]; exact hnew.out)
                rw [hJA.out] at this
                exact this
              go_wp2_with (first | (refine wpList_stI (g := A) (i := JA + kk) (u := wrap64 (ac + 1)) rfl rfl (by rfl) (by rfl) hI1.out.acc hI1.out.al.symm (by rw [hI1.out.al]; exact hix.out) size_int64 ?_; intro w8 hU8 hg8; have hI8 := hide (hI1.out.setA hGN.out hRle.out hU8 hg8); clear hU8 hg8) | (refine wpList_stZ (g := A + 1) (i := JA + kk) (u := true) rfl rfl (by rfl) (by rfl) hI8.out.seen (by rw [hI8.out.nl]; exact hix.out) size_bool ?_; intro w9 hU9 hg9; have hI9 := hide (hI8.out.setN hGN.out hRle.out hU9 hg9); clear hU9 hg9))
              go_roundw
              case rel => exact ⟨kk + 1, _, _, by go_num, by omega, hI9.out, hcA.out, hcN.out⟩
              case measure => simp [intOf]; omega
        · have hE0' : ¬ (0 : Int) ≤ E := hE0
          rw [if_pos (by omega)] at hAst0
          have hg59 : g = 5 := by omega
          subst hg59
          have hAst : Hid (AJ gi kk (j + 1) = (stepV 5 (ac, b) 0, true)) := hAst0
          have hnew : Hid ((stepV 5 (ac, b) 0) = wrap64 (ac + 1)) := rfl
          clear hAst0 hite ha0 hb0 hacb hI hT
          as_aux_lemma =>
            have hcA : Hid (Cel 0 (AL.set (JA + kk) (wrap64 (ac + 1))) NG its.length (fun g k => (AJ g k (if g = gi ∧ k < kk + 1 then j + 1 else j)).1)) := by
              have := hCelA.out.set hgi hkl (wrap64 (ac + 1)) (F' := fun g k => (AJ g k (if g = gi ∧ k < kk + 1 then j + 1 else j)).1) (fun g' k' _ _ hne => by
                by_cases hc : g' = gi ∧ k' < kk
                · rw [if_pos hc, if_pos (by omega)]
                · rw [if_neg hc, if_neg (by omega)]) (by rw [if_pos ⟨rfl, by omega⟩, hAst.out]; exact hnew.out)
              rw [hJA.out] at this
              exact this
            go_wp2_with (first | (refine wpList_stI (g := A) (i := JA + kk) (u := wrap64 (ac + 1)) rfl rfl (by rfl) (by rfl) hI1.out.acc hI1.out.al.symm (by rw [hI1.out.al]; exact hix.out) size_int64 ?_; intro w8 hU8 hg8; have hI8 := hide (hI1.out.setA hGN.out hRle.out hU8 hg8); clear hU8 hg8) | (refine wpList_stZ (g := A + 1) (i := JA + kk) (u := true) rfl rfl (by rfl) (by rfl) hI8.out.seen (by rw [hI8.out.nl]; exact hix.out) size_bool ?_; intro w9 hU9 hg9; have hI9 := hide (hI8.out.setN hGN.out hRle.out hU9 hg9); clear hU9 hg9))
            go_roundw
            case rel => exact ⟨kk + 1, _, _, by go_num, by omega, hI9.out, hcA.out, hcN.out⟩
            case measure => simp [intOf]; omega
      · have hkl' : ¬ (kk : Int) < its.length := by omega
        obtain rfl : kk = its.length := by omega
        have hcA2 : Hid (Cel 0 AL NG its.length (fun g k => (AJ g k (j + 1)).1)) := hCelA.out.congr (fun g k hg hk => by
          by_cases hc : g = gi
          · rw [if_pos ⟨hc, hk⟩]
          · rw [if_neg (fun h => hc h.1), hAout.out g k hc])
        have hcN2 : Hid (Cel false NL NG its.length (fun g k => (AJ g k (j + 1)).2)) := hCelN.out.congr (fun g k hg hk => by
          by_cases hc : g = gi
          · rw [if_pos ⟨hc, hk⟩]
          · rw [if_neg (fun h => hc h.1), hAout.out g k hc])
        clear hkl hkk
        go_wp2_with fail
        go_roundw
        case rel => exact ⟨j + 1, row, U, AL, NL, by go_num, by omega, hI.out, hcA2.out, hcN2.out⟩
        case measure => simp [intOf]; omega
  · obtain rfl : j = sl.length := by omega
    have hjl' : ¬ (sl.length : Int) < sl.length := by omega
    clear hjl hj hAJ0 hAJin hAJout
    have hA1 : Hid (A + 2 ≤ wr.heap.size) := by have := (OwnZ.lt hI.out.seen).2; show _ ≤ _; omega
    have hsz0 := hI.out.ex.size
    go_wp2_with (at_make; refine mk_i64 rfl rfl code.length rfl rfl (by omega) wr.heap.size rfl ?_; intro wa Oa xa za; have hIa := hide (hI.out.ext xa); replace Oa := hide Oa; clear xa za)
    obtain ⟨C, hCe⟩ : ∃ C, wr.heap.size = C := ⟨_, rfl⟩
    rw [hCe] at Oa hA1 hsz0
    simp only [hCe]
    have hCA : Hid (A + 2 ≤ C) := hA1
    have Ob := hide (OwnI.mono Oa.out hsz0)
    clear Oa hCe hI hA1
    rw [hnc.out] at hB1
    obtain ⟨Zv, hZv⟩ : ∃ Zv, Hid (evTo code (List.replicate cs.length 0) code.length = Zv) := ⟨_, rfl⟩
    have hZl : Hid (Zv.length = code.length) := by show _ = _; rw [← hZv.out]; exact evTo_len _ _ _
    have hZa : Hid (∀ x, x < code.length → Zv.getD x 0 = evX code (List.replicate cs.length 0) x) := fun x hx => by rw [← hZv.out]; exact evTo_at code _ code.length x hx
    go_loopw [28, 30] (fun v i wr => ∃ (hc : Bool) (gg : Nat) (AL yc : List Int), v = .bool hc ∧ i = .int .i64 gg ∧ gg ≤ NG ∧ Hid (AggI w3 wr cs.length code.length R A MN Gb yr yv AL NL (.slice ga' sl.length gc') ids [.int .i64 gr.length, .int .i64 NG, .slice ka KL kc, .slice ga' sl.length gc']) ∧ Hid (Cel 0 AL NG its.length (fun g' k' => if g' < gg then FC g' k' else (AJ g' k' sl.length).1)) ∧ Hid (OwnI wr w3.heap.size 2 (.slice (some ⟨C, 0, none⟩) code.length code.length) yc) ∧ Hid (yc.length = code.length) ∧ Hid (hc = true → yc = Zv)) (fun _ i _ => NG - (intOf i).toNat)
    case atStart => exact ⟨false, 0, AL, _, rfl, rfl, Nat.zero_le _, hIa, hCelA.out.congr (fun g k _ _ => by simp), Ob, by simp [Hid], fun h => by cases h⟩
    clear hIa hCelA Ob
    obtain ⟨hc0, gg, AL, yc, rfl, rfl, hgg, hI, hCelA, hOc, hyc, hzc⟩ := hrel
    have r1 := hI.out.gb.box 1 _ rfl
    by_cases hgl : gg < NG
    · have hgl' : (gg : Int) < NG := by omega
      have hBr := hide (hB1.out.ext hI.out.ex)
      have q3 := hBr.out.box 3 _ rfl
      as_aux_lemma =>
        go_wp2_with fail
        clear r1 q3 hBr
        go_loopw [28, 277] (fun v i wr => ∃ (hc : Bool) (kk : Nat) (AL yc : List Int), v = .bool hc ∧ i = .int .i64 kk ∧ kk ≤ its.length ∧ Hid (AggI w3 wr cs.length code.length R A MN Gb yr yv AL NL (.slice ga' sl.length gc') ids [.int .i64 gr.length, .int .i64 NG, .slice ka KL kc, .slice ga' sl.length gc']) ∧ Hid (Cel 0 AL NG its.length (fun g' k' => if g' < gg ∨ (g' = gg ∧ k' < kk) then FC g' k' else (AJ g' k' sl.length).1)) ∧ Hid (OwnI wr w3.heap.size 2 (.slice (some ⟨C, 0, none⟩) code.length code.length) yc) ∧ Hid (yc.length = code.length) ∧ Hid (hc = true → yc = Zv)) (fun _ i _ => its.length - (intOf i).toNat)
        case atStart => exact ⟨hc0, 0, AL, yc, rfl, rfl, Nat.zero_le _, hI, hCelA.out.congr (fun g k _ _ => by simp), hOc, hyc, hzc⟩
        clear hI hCelA hOc hyc hzc
        obtain ⟨hc, kk, AL, yc, rfl, rfl, hkk, hI, hCelA, hOc, hyc, hzc⟩ := hrel
        by_cases hkl : kk < its.length
        · have hkl' : (kk : Int) < its.length := by omega
          obtain ⟨b3, o3, e3, g1, g2⟩ := (hitp.out.ext hI.out.ex) kk hkl
          have hitj := hits.out _ (getD_mem_it its kk hkl)
          have hfc := hFCs.out gg kk
          obtain ⟨JA, hJA⟩ : ∃ JA, Hid (gg * its.length = JA) := ⟨_, rfl⟩
          have hJI : (gg : Int) * (its.length : Int) = (JA : Int) := by rw [← hJA.out]; simp
          have hix := hide (hCelA.out.lt hgl hkl)
          rw [hI.out.al, hJA.out] at hix
          have hix' : (JA : Int) + kk < MN := by have := hix.out; omega
          have ha0 := hCelA.out.2 gg kk hgl hkl
          have hb0 := hCelN.out.2 gg kk hgl hkl
          simp only at ha0 hb0
          rw [if_neg (by omega), hJA.out] at ha0
          rw [hJA.out] at hb0
          obtain ⟨⟨ac, b⟩, hacb⟩ : ∃ q, Hid (AJ gg kk sl.length = q) := ⟨_, rfl⟩
          rw [hacb.out] at ha0 hb0 hfc
          generalize its.getD kk (0, 0) = itj at *
          obtain ⟨g, E⟩ := itj
          simp only at g1 g2 ha0 hb0 hfc
          obtain ⟨hg0, hg5, hite⟩ := hitj
          simp only at hg0 hg5 hite
          cases e3
          have hI1 := hide (hI.out.alloc (.cells #[.int .i64 g, .int .i64 E] 89))
          have hO1 := hide (OwnI.alloc hOc.out (.cells #[.int .i64 g, .int .i64 E] 89))
          have hT : Hid (Blk (wr.alloc (.cells #[.int .i64 g, .int .i64 E] 89)) wr.heap.size 89 [.int .i64 g, .int .i64 E]) := Blk.new wr _ _
          have t0 := hT.out.box 0 _ rfl
          have t1 := hT.out.box 1 _ rfl
          have cn9 := OwnZ.cellAt hI1.out.seen (JA + kk) (by rw [hI1.out.nl]; exact hix.out)
          rw [hb0] at cn9
          have hsame : Hid (FC gg kk = ac → Cel 0 AL NG its.length (fun g' k' => if g' < gg ∨ (g' = gg ∧ k' < kk + 1) then FC g' k' else (AJ g' k' sl.length).1)) := fun hfa => hCelA.out.same hgl hkl (fun g' k' _ _ hne => by
            by_cases hc9 : g' < gg ∨ (g' = gg ∧ k' < kk)
            · rw [if_pos hc9, if_pos (by omega)]
            · rw [if_neg hc9, if_neg (by omega)]) (by rw [if_pos (.inr ⟨rfl, by omega⟩), hJA.out, ha0, hfa])
          by_cases hgz : g = 0
          · subst hgz
            cases b with
            | true =>
              have hcA := hide (hsame.out (by rw [hfc]; simp))
              clear hfc hsame
              as_aux_lemma =>
                go_wp2_with fail
                go_roundw
                case rel => exact ⟨hc, kk + 1, _, _, rfl, by go_num, by omega, hI1.out, hcA.out, hO1.out, hyc.out, hzc.out⟩
                case measure => simp [intOf]; omega
            | false =>
              obtain ⟨x, rfl⟩ := Int.eq_ofNat_of_zero_le (show 0 ≤ E by omega)
              have hx9 : x < code.length := by omega
              have hx9' : (x : Int) < code.length := by omega
              rw [if_pos ⟨rfl, rfl⟩, if_neg (by omega), Int.toNat_natCast, ← hZa.out x hx9] at hfc
              obtain ⟨Y, hY⟩ : ∃ Y, Hid (Zv.getD x 0 = Y) := ⟨_, rfl⟩
              rw [hY.out] at hfc
              have hcA : Hid (Cel 0 (AL.set (JA + kk) Y) NG its.length (fun g' k' => if g' < gg ∨ (g' = gg ∧ k' < kk + 1) then FC g' k' else (AJ g' k' sl.length).1)) := by
                have := hCelA.out.set hgl hkl Y (F' := fun g' k' => if g' < gg ∨ (g' = gg ∧ k' < kk + 1) then FC g' k' else (AJ g' k' sl.length).1) (fun g' k' _ _ hne => by
                  by_cases hc9 : g' < gg ∨ (g' = gg ∧ k' < kk)
                  · rw [if_pos hc9, if_pos (by omega)]
                  · rw [if_neg hc9, if_neg (by omega)]) (by rw [if_pos (.inr ⟨rfl, by omega⟩), hfc])
                rw [hJA.out] at this
                exact this
              clear hfc hsame hite
              cases hc with
              | true =>
                have hycv : Hid (yc.getD x 0 = Y) := by show _ = _; rw [hzc.out rfl]; exact hY.out
                have hzz : Hid (yc = Zv) := hzc.out rfl
                as_aux_lemma =>
                  have cx := OwnI.cellAt hO1.out x (by rw [hyc.out]; exact hx9)
                  rw [hycv.out] at cx
                  go_wp2_with (refine wpList_stI (g := A) (i := JA + kk) (u := Y) rfl rfl (by rfl) (by rfl) hI1.out.acc hI1.out.al.symm (by rw [hI1.out.al]; exact hix.out) size_int64 ?_; intro w9 hU9 hg9; have hI9 := hide (hI1.out.setA hGN.out hRle.out hU9 hg9); have hO9 := hide (hO1.out.butS (But.of_grown (S := fun q => q = A) hg9 (fun q hq => by cases hq; rfl)) (fun q hq hh => by cases hq; have h9 : C = A := hh; have := hCA.out; omega)); clear hU9 hg9)
                  go_roundw
                  case rel => exact ⟨true, kk + 1, _, _, rfl, by go_num, by omega, hI9.out, hcA.out, hO9.out, hyc.out, fun _ => hzz.out⟩
                  case measure => simp [intOf]; omega
              | false =>
                have hB1r := hide (hB1.out.ext hI1.out.ex)
                have q0 := hB1r.out.box 0 _ rfl
                have q1 := hB1r.out.box 1 _ rfl
                have hwl := hB1.out.lt
                have hcr := hide (hcode.out)
                as_aux_lemma =>
                  go_wp2_with fail
                  generalize (wr.alloc (.cells #[.int .i64 0, .int .i64 (x : Int)] 89)) = W9 at *
                  refine Dr.region_held (fun b => b = w.heap.size) [1] (by kernel_rfl) ?_
                  refine Dr.held_q6 (by rfl) ?_
                  go_wp2_with fail
                  refine Dr.held_act (by rfl) (by rfl) ?_
                  refine wp_mk64 rfl cs.length (by rfl) (by rfl) (by omega) ?_
                  intro w7 O7 x7 z7
                  have hsz9 := hI1.out.ex.size
                  refine ⟨fun b hb => x7.block b (by have h2 : b = w.heap.size := hb; simp only [World.drew]; omega), ?_⟩
                  have hX17 : Hid (Ext W9 w7) := (Ext.refl W9).drew.trans x7
                  have hI7 := hide (hI1.out.ext hX17.out)
                  have hO7 := hide (OwnI.ext hO1.out hX17.out)
                  have hCl := (OwnI.lt hO1.out).2
                  have hr7 : Hid (IntsAt w7 (some ⟨W9.heap.size, 0, none⟩) (List.replicate cs.length 0)) := OwnI.ints O7
                  have har : Hid (∀ p, (some ⟨W9.heap.size, 0, none⟩ : Option Addr) = some p → p.block ≠ C) := fun p hp => by cases hp; show W9.heap.size ≠ C; omega
                  have hwfr : Hid (∀ i : Nat, i < code.length → wfP (code.getD i nd0) i (List.replicate cs.length (0 : Int)).length) := by rw [List.length_replicate]; exact hwf
                  have hX37 := hide hI7.out.ex
                  clear x7 q0 q1 O7 z7
                  refine Dr.held_q1 (by rfl) ?_
                  go_wp2_with fail
                  refine Dr.held_act (by rfl) (by rfl) ?_
                  go_wp2_with fail
                  refine (evalInto_allK code (List.replicate cs.length 0) yc ca (some ⟨W9.heap.size, 0, none⟩) cc cs.length C code.length cs.length ((code.length : Int) - 1) w3 w7 hX37 hcr hr7 har hO7 hyc.out (by omega) (by simp; omega) hwfr rfl (by simp)).mono ?_
                  rintro e w8 ⟨rfl, O8, b8⟩
                  have hCw : w.heap.size ≠ C := by have := hCA.out; have := hGN.out; have := hRle.out; omega
                  refine ⟨fun b hb => b8.block b (by have h2 : b = w.heap.size := hb; have := hX37.out.size; omega) (by have h2 : b = w.heap.size := hb; intro h3; have h4 : b = C := h3; omega), ?_⟩
                  rw [hZv.out] at O8
                  have hI8 := hide (hI7.out.cvd hGN.out hRle.out hO7.out hCA.out b8)
                  have hO8 := hide O8
                  have q9 := (hB1.out.ext hI8.out.ex).box 1 _ rfl
                  refine Dr.held_nil (by rfl) ⟨fun _ => ⟨w.heap.size, 1, rfl, rfl, Dr.isCells_of q9⟩, trivial⟩ ?_
                  have t1' := (FrT.blk (FrT.of_one hO7.out b8) (hT.out.ext hX17.out) (by decide)).box 1 _ rfl
                  clear q9 O8 b8 hI7 hO7 t0 t1
                  have hycv : Hid (Zv.getD x 0 = Y) := hY
                  have hzz : Hid (Zv = Zv) := rfl
                  have cx := OwnI.cellAt hO8.out x (by rw [hZl.out]; exact hx9)
                  rw [hycv.out] at cx
                  go_wp2_with (refine wpList_stI (g := A) (i := JA + kk) (u := Y) rfl rfl (by rfl) (by rfl) hI8.out.acc hI8.out.al.symm (by rw [hI8.out.al]; exact hix.out) size_int64 ?_; intro w9 hU9 hg9; have hI9 := hide (hI8.out.setA hGN.out hRle.out hU9 hg9); have hO9 := hide (hO8.out.butS (But.of_grown (S := fun q => q = A) hg9 (fun q hq => by cases hq; rfl)) (fun q hq hh => by cases hq; have h9 : C = A := hh; have := hCA.out; omega)); clear hU9 hg9)
                  go_roundw
                  case rel => exact ⟨true, kk + 1, _, _, rfl, by go_num, by omega, hI9.out, hcA.out, hO9.out, hZl.out, fun _ => hzz.out⟩
                  case measure => simp [intOf]; omega
          · have hgb : (g == 0) = false := by simp [hgz]
            have hcA := hide (hsame.out (by rw [hfc, if_neg (fun h => hgz h.1)]))
            clear hfc hsame
            replace hgz := hide hgz
            as_aux_lemma =>
              go_wp2_with fail
              go_roundw
              case rel => exact ⟨hc, kk + 1, _, _, rfl, by go_num, by omega, hI1.out, hcA.out, hO1.out, hyc.out, hzc.out⟩
              case measure => simp [intOf]; omega
        · have hkl' : ¬ (kk : Int) < its.length := by omega
          obtain rfl : kk = its.length := by omega
          have hcA2 : Hid (Cel 0 AL NG its.length (fun g' k' => if g' < gg + 1 then FC g' k' else (AJ g' k' sl.length).1)) := hCelA.out.congr (fun g k hg hk => by
            by_cases hc9 : g < gg + 1
            · rw [if_pos (by omega), if_pos hc9]
            · rw [if_neg (by omega), if_neg hc9])
          clear hkl hkk
          go_wp2_with fail
          go_roundw
          case rel => exact ⟨hc, gg + 1, _, _, rfl, by go_num, by omega, hI.out, hcA2.out, hOc.out, hyc.out, hzc.out⟩
          case measure => simp [intOf]; omega
    · obtain rfl : gg = NG := by omega
      have hgl' : ¬ (gg : Int) < gg := by omega
      have hfin : Hid (AL = flC FC its.length gg) := (hCelA.out.congr (fun g k hg hk => by rw [if_pos hg])).eq
      have hG9 := hide (hG.out.ext hI.out.ex)
      have hGl := hG.out.lt
      have hXf : Hid (Ext w wr) := X3.out.trans hI.out.ex
      have hBr := hide (hB1.out.ext hI.out.ex)
      have q5 := hBr.out.box 5 _ rfl
      have hC := hide hI.out.acc
      have hal := hide hI.out.al
      clear hgl hgg hOc hyc hzc hCelA
      by_cases hl0 : 0 ≤ li
      · obtain ⟨l, rfl⟩ := Int.eq_ofNat_of_zero_le hl0
        have hl0' : (0 : Int) ≤ (l : Int) := by omega
        by_cases hlM : l < gg
        · have hlM' : (l : Int) < gg := by omega
          have hres : Hid (RS = flC FC its.length l) := by
            show _ = _
            rw [hrun.out]
            unfold lim
            rw [if_pos ⟨hl0, by omega⟩, Int.toNat_natCast]
          obtain ⟨LN, hLN⟩ : ∃ LN, Hid (l * its.length = LN) := ⟨_, rfl⟩
          have hmul2 : (l : Int) * (its.length : Int) = (LN : Int) := by rw [← hLN.out]; simp
          have hle : LN ≤ MN := by rw [← hLN.out, ← hMN.out]; exact Nat.mul_le_mul_right _ (by omega)
          have hle' : (LN : Int) ≤ MN := by omega
          have hRl : Hid (RS.length = LN) := by show _ = _; rw [hres.out, flC_len, hLN.out]
          go_wp2_with (refine wpList_storeB (vs := [.int .i64 its.length, .slice (some ⟨A, 0, none⟩) LN MN]) rfl rfl (by rfl) (by rfl) hG9.out size_res rfl (by simp [Value.oneCell']) ?_; intro w9 hb9 hg9; replace hb9 := hide hb9; replace hg9 := hide hg9)
          refine bodyPost_ret (results_cell2 rfl (by rfl) hb9.out Yabn.underlying34 size_res) rfl ?_
          refine ⟨hXf.out.grown hg9.out (fun q hq => by cases hq; omega), .inl ⟨hV.out, some ⟨A, 0, none⟩, MN, by first | (rw [hRl.out]; done) | (rw [hRl.out]; rfl), ?_, OwnI.abv hC.out X3.out.size⟩⟩
          have h2 := (OwnI.ints (OwnI.kept hC.out hg9.out (by omega))).take (l * its.length)
          rw [hfin.out, flC_take _ _ _ _ (by omega)] at h2
          rw [hres.out]
          exact h2
        · have hlM' : ¬ (l : Int) < gg := by omega
          have hres : Hid (RS = AL) := by
            show _ = _
            rw [hrun.out, hfin.out]
            unfold lim
            rw [if_neg (by omega)]
          have hRl : Hid (RS.length = MN) := by show _ = _; rw [hres.out, hal.out]
          have hleM : (MN : Int) ≤ MN := by omega
          go_wp2_with (refine wpList_storeB (vs := [.int .i64 its.length, .slice (some ⟨A, 0, none⟩) MN MN]) rfl rfl (by rfl) (by rfl) hG9.out size_res rfl (by simp [Value.oneCell']) ?_; intro w9 hb9 hg9; replace hb9 := hide hb9; replace hg9 := hide hg9)
          refine bodyPost_ret (results_cell2 rfl (by rfl) hb9.out Yabn.underlying34 size_res) rfl ?_
          refine ⟨hXf.out.grown hg9.out (fun q hq => by cases hq; omega), .inl ⟨hV.out, some ⟨A, 0, none⟩, MN, by first | (rw [hRl.out]; done) | (rw [hRl.out]; rfl), ?_, OwnI.abv hC.out X3.out.size⟩⟩
          rw [hres.out]
          exact OwnI.ints (OwnI.kept hC.out hg9.out (by omega))
      · have hl0' : ¬ (0 : Int) ≤ li := hl0
        have hres : Hid (RS = AL) := by
          show _ = _
          rw [hrun.out, hfin.out]
          unfold lim
          rw [if_neg (by omega)]
        have hRl : Hid (RS.length = MN) := by show _ = _; rw [hres.out, hal.out]
        have hleM : (MN : Int) ≤ MN := by omega
        go_wp2_with (refine wpList_storeB (vs := [.int .i64 its.length, .slice (some ⟨A, 0, none⟩) MN MN]) rfl rfl (by rfl) (by rfl) hG9.out size_res rfl (by simp [Value.oneCell']) ?_; intro w9 hb9 hg9; replace hb9 := hide hb9; replace hg9 := hide hg9)
        refine bodyPost_ret (results_cell2 rfl (by rfl) hb9.out Yabn.underlying34 size_res) rfl ?_
        refine ⟨hXf.out.grown hg9.out (fun q hq => by cases hq; omega), .inl ⟨hV.out, some ⟨A, 0, none⟩, MN, by first | (rw [hRl.out]; done) | (rw [hRl.out]; rfl), ?_, OwnI.abv hC.out X3.out.size⟩⟩
        rw [hres.out]
        exact OwnI.ints (OwnI.kept hC.out hg9.out (by omega))
end Go.Proofs.YbyabwGreat
