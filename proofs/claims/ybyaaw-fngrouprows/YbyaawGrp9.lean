/- Walk: spec.RefGroupRows -/
import Derived.Test.YbyaawGrp8
namespace Go.Proofs.Ybyaaw
open Go.RowKit
set_option maxRecDepth 100000
set_option linter.unusedVariables false
set_option linter.unusedSimpArgs false

theorem flat_snoc (D : List (List Int)) (i : Nat) (h : i < D.length) : (D.take (i + 1)).flatten = (D.take i).flatten ++ fD D i := by
  rw [List.take_succ_eq_append_getElem h]
  unfold fD
  rw [List.getD_eq_getElem?_getD, List.getElem?_eq_getElem h, List.flatten_append, List.flatten_cons, List.flatten_nil, List.append_nil]
  rfl
set_option maxHeartbeats 8000000 in
theorem RefGroupRows (p : Pl) (ca ia ga a sa : Option Addr) (cc ic gc cap sc : Nat) (cs : List Col) (n : Nat) (sel : List Int) (w : World) (hp : Hid (PAt w p ca ia ga)) (hok : Hid (PlOK p)) (ht : Hid (ColsAt w a cs)) (hv : Hid (ValidT cs n)) (hnc : p.nc = cs.length) (hs : Hid (IntsAt w sa sel)) (hsl : sel.length ≤ 65537) :
    Calls Yaan.prog 134 #[.agg (plCells p ca ia ga cc ic gc).toArray, .agg #[.int .i64 n, .slice a cs.length cap], .slice sa sel.length sc] w (RetGR (GrOK p cs.length n sel) p.gr (rowT cs) sel w) := by
  have hlen := hide hp.out.len
  have hgi := hide hp.out.gr
  have hgp := hide hok.out.gr
  obtain ⟨nc, code, wh, its, gr, li, ag⟩ := p
  simp only at hnc
  replace hnc := hide hnc
  have hl3 : cs.length ≤ 256 := hv.out.2.2.1
  have hn2 : n ≤ 65536 := by have := hv.out.2.1; omega
  have hlg : gr.length ≤ 65600 := hlen.out.lg
  have hB1 : Hid (Blk (((w.alloc (.cells #[.int .i64 nc, .slice ca code.length cc, .int .i64 wh, .slice ia its.length ic, .slice ga gr.length gc, .int .i64 li, .bool ag] 81)).alloc (.cells #[.int .i64 n, .slice a cs.length cap] 66)).alloc (.cells #[.int .i64 0, .int .i64 0, .slice none 0 0, .slice none 0 0] 181)) w.heap.size 81 [.int .i64 nc, .slice ca code.length cc, .int .i64 wh, .slice ia its.length ic, .slice ga gr.length gc, .int .i64 li, .bool ag]) := ((Blk.new w _ _).alloc _).alloc _
  have hB2 : Hid (Blk (((w.alloc (.cells #[.int .i64 nc, .slice ca code.length cc, .int .i64 wh, .slice ia its.length ic, .slice ga gr.length gc, .int .i64 li, .bool ag] 81)).alloc (.cells #[.int .i64 n, .slice a cs.length cap] 66)).alloc (.cells #[.int .i64 0, .int .i64 0, .slice none 0 0, .slice none 0 0] 181)) (w.heap.size + 1) 66 [.int .i64 n, .slice a cs.length cap]) := by
    have := Blk.new (w.alloc (.cells #[.int .i64 nc, .slice ca code.length cc, .int .i64 wh, .slice ia its.length ic, .slice ga gr.length gc, .int .i64 li, .bool ag] 81)) #[.int .i64 n, .slice a cs.length cap] 66
    rw [show (w.alloc (.cells #[.int .i64 nc, .slice ca code.length cc, .int .i64 wh, .slice ia its.length ic, .slice ga gr.length gc, .int .i64 li, .bool ag] 81)).heap.size = w.heap.size + 1 by simp] at this
    exact this.alloc _
  have hG : Hid (Blk (((w.alloc (.cells #[.int .i64 nc, .slice ca code.length cc, .int .i64 wh, .slice ia its.length ic, .slice ga gr.length gc, .int .i64 li, .bool ag] 81)).alloc (.cells #[.int .i64 n, .slice a cs.length cap] 66)).alloc (.cells #[.int .i64 0, .int .i64 0, .slice none 0 0, .slice none 0 0] 181)) (w.heap.size + 2) 181 gpz) := by
    have := Blk.new ((w.alloc (.cells #[.int .i64 nc, .slice ca code.length cc, .int .i64 wh, .slice ia its.length ic, .slice ga gr.length gc, .int .i64 li, .bool ag] 81)).alloc (.cells #[.int .i64 n, .slice a cs.length cap] 66)) #[.int .i64 0, .int .i64 0, .slice none 0 0, .slice none 0 0] 181
    rw [show ((w.alloc (.cells #[.int .i64 nc, .slice ca code.length cc, .int .i64 wh, .slice ia its.length ic, .slice ga gr.length gc, .int .i64 li, .bool ag] 81)).alloc (.cells #[.int .i64 n, .slice a cs.length cap] 66)).heap.size = w.heap.size + 2 by simp] at this
    exact this
  have hX : Hid (Ext w (((w.alloc (.cells #[.int .i64 nc, .slice ca code.length cc, .int .i64 wh, .slice ia its.length ic, .slice ga gr.length gc, .int .i64 li, .bool ag] 81)).alloc (.cells #[.int .i64 n, .slice a cs.length cap] 66)).alloc (.cells #[.int .i64 0, .int .i64 0, .slice none 0 0, .slice none 0 0] 181))) := (((Ext.refl w).alloc _).alloc _).alloc _
  simp only [plCells]
  go_enter Yaan.func134, Yaan.ntmps134
  go_wp2_with fail
  generalize (((w.alloc (.cells #[.int .i64 nc, .slice ca code.length cc, .int .i64 wh, .slice ia its.length ic, .slice ga gr.length gc, .int .i64 li, .bool ag] 81)).alloc (.cells #[.int .i64 n, .slice a cs.length cap] 66)).alloc (.cells #[.int .i64 0, .int .i64 0, .slice none 0 0, .slice none 0 0] 181)) = W at *
  refine (planTableOK_yes ⟨nc, code, wh, its, gr, li, ag⟩ ca ia ga a cc ic gc cap cs n W (hp.out.ext hX.out) hok (ht.out.ext hX.out) hv hnc.out).mono ?_
  rintro e w1 ⟨rfl, x1⟩
  have X1 : Hid (Ext w w1) := hX.out.trans x1
  replace hB1 := hide (hB1.out.ext x1)
  replace hB2 := hide (hB2.out.ext x1)
  replace hG := hide (hG.out.ext x1)
  clear x1 hX
  obtain ⟨V, hV⟩ : ∃ V, Hid (costV ⟨nc, code, wh, its, gr, li, ag⟩ cs.length n = V) := ⟨_, rfl⟩
  rw [hV.out]
  cases V with
  | false =>
    dsimp only
    go_wp2_with (refine wpList_storeB (vs := gpz) rfl rfl (by rfl) (by rfl) hG.out size_gp rfl gpz_one ?_; intro w9 hb9 hg9; replace hb9 := hide hb9; replace hg9 := hide hg9)
    refine bodyPost_ret (results_cell2 rfl (by rfl) hb9.out Yaan.underlying181 size_gp) rfl ?_
    exact ⟨X1.out.grown hg9.out (fun q hq => by cases hq; omega), .inr ⟨(fun hh => by have h1 := hh.1; rw [hV.out] at h1; cases h1), rfl⟩⟩
  | true =>
  have t0 := hB2.out.box 0 _ rfl
  have t1 := hB2.out.box 1 _ rfl
  dsimp only
  go_wp2_with fail
  refine (selOK_spec sel sa sc n w1 (hs.out.ext X1.out) (by omega)).mono ?_
  rintro e w2 ⟨bz, rfl, hbz, x2⟩
  have X2 : Hid (Ext w w2) := X1.out.trans x2
  replace hB1 := hide (hB1.out.ext x2)
  replace hB2 := hide (hB2.out.ext x2)
  replace hG := hide (hG.out.ext x2)
  replace hbz := hide hbz
  clear x2 t0 t1 X1
  cases bz with
  | false =>
    dsimp only
    go_wp2_with (refine wpList_storeB (vs := gpz) rfl rfl (by rfl) (by rfl) hG.out size_gp rfl gpz_one ?_; intro w9 hb9 hg9; replace hb9 := hide hb9; replace hg9 := hide hg9)
    refine bodyPost_ret (results_cell2 rfl (by rfl) hb9.out Yaan.underlying181 size_gp) rfl ?_
    exact ⟨X2.out.grown hg9.out (fun q hq => by cases hq; omega), .inr ⟨(fun hh => absurd (hbz.out.2 hh.2) (by decide)), rfl⟩⟩
  | true =>
  have hsel : Hid (SelOK sel n) := hbz.out.1 rfl
  have hcond : Hid (GrOK ⟨nc, code, wh, its, gr, li, ag⟩ cs.length n sel) := ⟨hV.out, hsel.out⟩
  have hsl2 : sel.length ≤ n := hsel.out.length
  have hcg : Hid (sel.length * gr.length ≤ 16777216) := cost_gr hV.out hsel.out
  clear hbz
  have t0 := hB2.out.box 0 _ rfl
  have t1 := hB2.out.box 1 _ rfl
  dsimp only
  go_wp2_with fail
  refine (RefDecodeTable_yes cs n a cap w2 (ht.out.ext X2.out) hl3 hn2 hv).mono ?_
  rintro e w3 ⟨ra, rc, rfl, hr, x3⟩
  have X3 : Hid (Ext w w3) := X2.out.trans x3
  have hB3 := hide (hB1.out.ext x3)
  have hG3 := hide (hG.out.ext x3)
  have hr3 := hide hr
  clear x3 hr t0 t1 hB1 hB2 X2 hG
  have q4 := hB3.out.box 4 _ rfl
  by_cases hg0 : gr.length = 0
  · have hgb : ((gr.length : Int) == 0) = true := by rw [hg0]; rfl
    have e1 := hide (gKeys_nil (rowT cs) sel gr hg0)
    have e2 := hide (gIds_nil (rowT cs) sel gr hg0)
    have e3 : Hid (gNum gr (rowT cs) sel = 1) := by show _ = _; unfold gNum; rw [if_pos hg0]
    replace hg0 := hide hg0
    rw [hg0.out] at q4
    dsimp only
    go_wp2_with fail
    refine (groupKeys_nil ra sa ga rc sc gc n sel.length w3 (by omega)).mono ?_
    rintro e w4 ⟨ka, kc, oa, oc, rfl, hKR, hGI, x4⟩
    have X4 : Hid (Ext w w4) := X3.out.trans x4
    have hG4 := hide (hG3.out.ext x4)
    have q5 := (hB3.out.ext x4).box 4 _ rfl
    rw [hg0.out] at q5
    have hz3 := hG3.out.lt
    rw [← e2.out] at hGI ⊢
    have hids : Hid ((gIds gr (rowT cs) sel).length = sel.length) := gIds_len _ _ _
    rw [hids.out] at hGI ⊢
    replace hGI := hide hGI
    clear x4 q4 hKR
    simp only [List.length_nil]
    go_wp2_with fail
    go_loopw [12, 13] (fun v i wr => v = .slice none 0 0 ∧ i = .int .i64 0 ∧ w4 = wr) (fun _ _ _ => 0)
    case atStart => exact ⟨rfl, rfl, rfl⟩
    obtain ⟨rfl, rfl, rfl⟩ := hrel
    go_wp2_with (refine wpList_storeB (vs := [.int .i64 0, .int .i64 1, .slice none 0 0, .slice oa sel.length oc]) rfl rfl (by rfl) (by rfl) hG4.out size_gp rfl (by simp [Value.oneCell']) ?_; intro w9 hb9 hg9; replace hb9 := hide hb9; replace hg9 := hide hg9)
    refine bodyPost_ret (results_cell2 rfl (by rfl) hb9.out Yaan.underlying181 size_gp) rfl ?_
    refine ⟨X4.out.grown hg9.out (fun q hq => by cases hq; omega), .inl ⟨hcond.out, none, oa, 0, oc, ?_, ?_, ?_⟩⟩
    · simp only [gpCells]
      rw [e1.out, e3.out, hg0.out]
      rfl
    · rw [e1.out]
      exact OwnI.nil _ _ _
    · exact OwnI.mono (OwnI.kept hGI.out hg9.out (by omega)) X3.out.size
  · have hgb : ((gr.length : Int) == 0) = false := beq_eq_false_iff_ne.2 (by omega)
    have hgpos : 0 < gr.length := by omega
    replace hg0 := hide hg0
    dsimp only
    go_wp2_with fail
    refine (groupKeys gr sel (rowT cs) ra sa ga rc sc gc n cs.length w3 hr3 (fun i _ => rowT_len cs i) (hs.out.ext X3.out) (fun j hj => ⟨(hsel.out j hj).1, (hsel.out j hj).2.1⟩) (hgi.out.ext X3.out) (fun i hi => by have h1 := hgp.out _ (getD_mem_I gr i hi); have := hnc.out; omega) hn2 (by omega) (by omega) (by omega) hgpos).mono ?_
    rintro e w4 ⟨ka, kc, oa, oc, rfl, hKR, hGI, x4⟩
    have X4 : Hid (Ext w w4) := X3.out.trans x4
    have hB4 := hide (hB3.out.ext x4)
    have hG4 := hide (hG3.out.ext x4)
    have hsz4 := X3.out.size
    have hGI4 := hide hGI
    have hz3 := hG3.out.lt
    have hDl : Hid (∀ i, i < (gKeys gr (rowT cs) sel).length → (fD (gKeys gr (rowT cs) sel) i).length = gr.length) := fun i hi =>
      (grK_law (K := keyJ gr (rowT cs) sel) (w := gr.length) (keyJ_len gr (rowT cs) sel) sel.length).1.len _ (getD_memL hi)
    have hDm : (gKeys gr (rowT cs) sel).length ≤ sel.length := (grK_law (K := keyJ gr (rowT cs) sel) (w := gr.length) (keyJ_len gr (rowT cs) sel) sel.length).2.2
    have hnum : Hid (gNum gr (rowT cs) sel = (gKeys gr (rowT cs) sel).length) := by show _ = _; unfold gNum; rw [if_neg hg0.out]
    have hids : Hid ((gIds gr (rowT cs) sel).length = sel.length) := gIds_len _ _ _
    replace hKR := hide hKR
    clear hGI x4 q4 hB3 hG3
    rw [hids.out] at hGI4 ⊢
    obtain ⟨D, hD⟩ : ∃ D, Hid (gKeys gr (rowT cs) sel = D) := ⟨_, rfl⟩
    rw [hD.out] at hKR hDl hDm hnum ⊢
    obtain ⟨nd, hnd⟩ : ∃ nd, Hid (D.length = nd) := ⟨_, rfl⟩
    rw [hnd.out] at hKR hDl hDm hnum ⊢
    have hDn : nd ≤ 65536 := by omega
    go_wp2_with fail
    obtain ⟨W4, hW4⟩ : ∃ W4, W4 = w4 := ⟨_, rfl⟩
    rw [← hW4] at X4 hB4 hG4 hGI4 hKR
    rw [← hW4]
    clear hW4
    go_loopw [12, 13] (fun v i wr => ∃ t : Nat, i = .int .i64 t ∧ t ≤ nd ∧ Hid (OwnI wr W4.heap.size 2 v (D.take t).flatten) ∧ Hid ((D.take t).flatten.length = t * gr.length) ∧ Hid (Ext W4 wr)) (fun _ i _ => nd - (intOf i).toNat)
    case atStart => exact ⟨0, rfl, Nat.zero_le _, OwnI.nil _ _ _, by show _ = _; simp, Ext.refl W4⟩
    obtain ⟨t, rfl, ht, hO, hFl, hX5⟩ := hrel
    by_cases htn : t < nd
    · have htn' : (t : Int) < nd := by omega
      obtain ⟨b1, off1, x1, xc1, rfl, c1, hxi⟩ := (hKR.out.ext hX5.out) t htn
      rw [hDl.out t htn] at c1
      have hfs := hide (flat_snoc D t (by rw [hnd.out]; exact htn))
      have hxl := hide (hDl.out t htn)
      obtain ⟨y, hy⟩ : ∃ y, Hid (fD D t = y) := ⟨_, rfl⟩
      rw [hy.out] at hxi hfs hxl
      obtain ⟨b2, off2, rfl, _⟩ := hxi 0 (by rw [hxl.out]; exact hgpos)
      replace hxi := hide hxi
      have hmul : t * gr.length ≤ 65536 * 65600 := Nat.mul_le_mul (by omega) hlg
      have hln := hide (show (t * gr.length) + gr.length < 2 ^ 39 by omega)
      have hF2 : Hid ((D.take (t + 1)).flatten.length = (t + 1) * gr.length) := by show _ = _; rw [hfs.out, List.length_append, hFl.out, hxl.out, Nat.add_mul]; omega
      generalize (D.take t).flatten = F at *
      obtain ⟨z, hz⟩ : ∃ z, Hid (F.length = z) := ⟨_, rfl⟩
      have hzl : Hid (z + gr.length < 2 ^ 39) := by have h1 := hz.out; have h2 := hFl.out; have := hln.out; show _ < _; omega
      obtain ⟨pa, pc, rfl, _⟩ := hO.out.form
      rw [hz.out] at hO ⊢
      clear hmul
      go_wp2_with (at_builtin; refine app_i64L rfl rfl W4.heap.size hX5.out.size _ z F y rfl hO.out hz.out b2 off2 gr.length xc1 (by rfl) hxl.out hgpos hxi.out hzl.out ?_; intro g7 cap7 w7 O7 hgr7 hlt7; have hX7 : Hid (Ext W4 w7) := hX5.out.grown hgr7 (fun q hq => (World.ownsRow.lt hO.out q hq).1); have hO7 := hide O7; clear O7 hgr7 hlt7)
      go_roundw
      case rel => exact ⟨t + 1, by go_num, by omega, by rw [hfs.out]; exact hO7.out, hF2.out, hX7.out⟩
      case measure => simp [intOf]; omega
    · obtain rfl : t = nd := by omega
      have htn' : ¬ (t : Int) < t := by omega
      have hfin : Hid ((D.take t).flatten = D.flatten) := by show _ = _; rw [List.take_of_length_le (by rw [hnd.out]; exact Nat.le_refl _)]
      rw [hfin.out] at hO
      obtain ⟨F, hF⟩ : ∃ F, Hid (D.flatten = F) := ⟨_, rfl⟩
      rw [hF.out] at hO
      obtain ⟨pa, pc, rfl, _⟩ := hO.out.form
      have X5 : Hid (Ext w wr) := X4.out.trans hX5.out
      have q4 := (hB4.out.ext hX5.out).box 4 _ rfl
      have hG5 := hide (hG4.out.ext hX5.out)
      have hz4 := hG4.out.lt
      have hGI5 := hide (OwnI.ext hGI4.out hX5.out)
      clear hFl hfin
      go_wp2_with (refine wpList_storeB (vs := [.int .i64 gr.length, .int .i64 t, .slice pa F.length pc, .slice oa sel.length oc]) rfl rfl (by rfl) (by rfl) hG5.out size_gp rfl (by simp [Value.oneCell']) ?_; intro w9 hb9 hg9; replace hb9 := hide hb9; replace hg9 := hide hg9)
      refine bodyPost_ret (results_cell2 rfl (by rfl) hb9.out Yaan.underlying181 size_gp) rfl ?_
      refine ⟨X5.out.grown hg9.out (fun q hq => by cases hq; omega), .inl ⟨hcond.out, pa, oa, pc, oc, ?_, ?_, ?_⟩⟩
      · simp only [gpCells]
        rw [hnum.out, hD.out, hF.out]
        rfl
      · rw [hD.out, hF.out]
        exact OwnI.mono (OwnI.kept hO.out hg9.out (by omega)) X4.out.size
      · exact OwnI.mono (OwnI.kept hGI5.out hg9.out (by omega)) X3.out.size
end Go.Proofs.Ybyaaw
