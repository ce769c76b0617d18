/- Walk: impl.RunPlan without groups -/
import Derived.Test.YbyabwGreatRun0
import Derived.Test.YbyabwGreatEx3
namespace Go.Proofs.YbyabwGreat
open Go.RowKit
set_option maxRecDepth 100000
set_option linter.unusedVariables false
set_option linter.unusedSimpArgs false

theorem cel_zero {M w MN g k : Nat} (h : M * w = MN) (hg : g < M) (hk : k < w) : (List.replicate MN (0 : Int)).getD (g * w + k) 0 = 0 := by
  rw [List.getD_eq_getElem?_getD, List.getElem?_replicate]
  split <;> rfl
set_option maxHeartbeats 16000000 in
theorem RunPlan_na (p : Pl) (hag : p.ag = false) (ca ia ga a : Option Addr) (cc ic gc cap : Nat) (cs : List Col) (n : Nat) (w : World) (hp : Hid (PAt w p ca ia ga)) (hok : Hid (PlOK p)) (ht : Hid (ColsAt w a cs)) (hv : Hid (ValidT cs n)) (hnc : p.nc = cs.length) :
    Calls Yabn.prog 19 #[.agg (plCells p ca ia ga cc ic gc).toArray, .agg #[.int .i64 n, .slice a cs.length cap]] w (RetRes (costV p cs.length n = true) p.its.length (run p (rowT cs) n cs.length) w) := by
  have hrun0 : run p (rowT cs) n cs.length = flC (vJ p (rowT cs) (slTo p (rowT cs) n)) p.its.length (lim p.li (slTo p (rowT cs) n).length) := by
    unfold run runC runM
    rw [hag]
    simp only [Bool.false_eq_true, if_false]
  obtain ⟨RS, hRe⟩ : ∃ R, Hid (run p (rowT cs) n cs.length = R) := ⟨_, rfl⟩
  rw [hRe.out] at hrun0
  rw [hRe.out]
  clear hRe
  have hrun := hide hrun0
  clear hrun0
  have hcode := hide hp.out.code
  have hitp := hide hp.out.its
  have hlen := hide hp.out.len
  have hgi := hide hp.out.gr
  have hgp := hide hok.out.gr
  have hwf0 := hide hok.out.wf
  have hits := hide hok.out.its
  have hni := hok.out.ni
  obtain ⟨nc, code, wh, its, gr, li, ag⟩ := p
  simp only at hnc hwf0 hits hni hag
  subst hag
  replace hnc := hide hnc
  replace hni := hide hni
  have hl3 : cs.length ≤ 256 := hv.out.2.2.1
  have hn2 : n ≤ 65536 := by have := hv.out.2.1; omega
  have hlg : gr.length ≤ 65600 := hlen.out.lg
  have hlc : code.length ≤ 65536 := hlen.out.lc
  have hlI : its.length ≤ 65536 := hlen.out.li
  have hwf : Hid (WfA code cs.length) := by have := hwf0.out; rw [hnc.out] at this; exact this
  clear hwf0
  have hB1 : Hid (Blk (((w.alloc (.cells #[.int .i64 nc, .slice ca code.length cc, .int .i64 wh, .slice ia its.length ic, .slice ga gr.length gc, .int .i64 li, .bool false] 57)).alloc (.cells #[.int .i64 n, .slice a cs.length cap] 27)).alloc (.cells #[.int .i64 0, .slice none 0 0] 34)) w.heap.size 57 [.int .i64 nc, .slice ca code.length cc, .int .i64 wh, .slice ia its.length ic, .slice ga gr.length gc, .int .i64 li, .bool false]) := ((Blk.new w _ _).alloc _).alloc _
  have hB2 : Hid (Blk (((w.alloc (.cells #[.int .i64 nc, .slice ca code.length cc, .int .i64 wh, .slice ia its.length ic, .slice ga gr.length gc, .int .i64 li, .bool false] 57)).alloc (.cells #[.int .i64 n, .slice a cs.length cap] 27)).alloc (.cells #[.int .i64 0, .slice none 0 0] 34)) (w.heap.size + 1) 27 [.int .i64 n, .slice a cs.length cap]) := by
    have := Blk.new (w.alloc (.cells #[.int .i64 nc, .slice ca code.length cc, .int .i64 wh, .slice ia its.length ic, .slice ga gr.length gc, .int .i64 li, .bool false] 57)) #[.int .i64 n, .slice a cs.length cap] 27
    rw [show (w.alloc (.cells #[.int .i64 nc, .slice ca code.length cc, .int .i64 wh, .slice ia its.length ic, .slice ga gr.length gc, .int .i64 li, .bool false] 57)).heap.size = w.heap.size + 1 by simp] at this
    exact this.alloc _
  have hG : Hid (Blk (((w.alloc (.cells #[.int .i64 nc, .slice ca code.length cc, .int .i64 wh, .slice ia its.length ic, .slice ga gr.length gc, .int .i64 li, .bool false] 57)).alloc (.cells #[.int .i64 n, .slice a cs.length cap] 27)).alloc (.cells #[.int .i64 0, .slice none 0 0] 34)) (w.heap.size + 2) 34 rsz) := by
    have := Blk.new ((w.alloc (.cells #[.int .i64 nc, .slice ca code.length cc, .int .i64 wh, .slice ia its.length ic, .slice ga gr.length gc, .int .i64 li, .bool false] 57)).alloc (.cells #[.int .i64 n, .slice a cs.length cap] 27)) #[.int .i64 0, .slice none 0 0] 34
    rw [show ((w.alloc (.cells #[.int .i64 nc, .slice ca code.length cc, .int .i64 wh, .slice ia its.length ic, .slice ga gr.length gc, .int .i64 li, .bool false] 57)).alloc (.cells #[.int .i64 n, .slice a cs.length cap] 27)).heap.size = w.heap.size + 2 by simp] at this
    exact this
  have hX : Hid (Ext w (((w.alloc (.cells #[.int .i64 nc, .slice ca code.length cc, .int .i64 wh, .slice ia its.length ic, .slice ga gr.length gc, .int .i64 li, .bool false] 57)).alloc (.cells #[.int .i64 n, .slice a cs.length cap] 27)).alloc (.cells #[.int .i64 0, .slice none 0 0] 34))) := (((Ext.refl w).alloc _).alloc _).alloc _
  simp only [plCells]
  go_enter Yabn.func19, Yabn.ntmps19
  go_wp2_with fail
  generalize (((w.alloc (.cells #[.int .i64 nc, .slice ca code.length cc, .int .i64 wh, .slice ia its.length ic, .slice ga gr.length gc, .int .i64 li, .bool false] 57)).alloc (.cells #[.int .i64 n, .slice a cs.length cap] 27)).alloc (.cells #[.int .i64 0, .slice none 0 0] 34)) = W at *
  refine (baseOK_yes ⟨nc, code, wh, its, gr, li, false⟩ ca ia ga a cc ic gc cap cs n W (hp.out.ext hX.out) hok (ht.out.ext hX.out) hv hnc.out).mono ?_
  rintro e w1 ⟨rfl, x1⟩
  have X1 : Hid (Ext w w1) := hX.out.trans x1
  replace hB1 := hide (hB1.out.ext x1)
  replace hB2 := hide (hB2.out.ext x1)
  replace hG := hide (hG.out.ext x1)
  clear x1 hX
  obtain ⟨CV, hV⟩ : ∃ CV, Hid (costV ⟨nc, code, wh, its, gr, li, false⟩ cs.length n = CV) := ⟨_, rfl⟩
  rw [hV.out]
  cases CV with
  | false =>
    dsimp only
    go_wp2_with (refine wpList_storeB (vs := rsz) rfl rfl (by rfl) (by rfl) hG.out size_res rfl rsz_one ?_; intro w9 hb9 hg9; replace hb9 := hide hb9; replace hg9 := hide hg9)
    refine bodyPost_ret (results_cell2 rfl (by rfl) hb9.out Yabn.underlying34 size_res) rfl ?_
    exact ⟨X1.out.grown hg9.out (fun q hq => by cases hq; omega), .inr ⟨(fun h => by rw [hV.out] at h; cases h), rfl⟩⟩
  | true =>
  have t0 := hB2.out.box 0 _ rfl
  have t1 := hB2.out.box 1 _ rfl
  dsimp only
  go_wp2_with fail
  refine (decodeAll cs n a cap w1 (ht.out.ext X1.out) hv).mono ?_
  rintro e w2 ⟨ra, rc, rfl, hr, x2⟩
  have X2 : Hid (Ext w w2) := X1.out.trans x2
  replace hB1 := hide (hB1.out.ext x2)
  replace hB2 := hide (hB2.out.ext x2)
  replace hG := hide (hG.out.ext x2)
  replace hr := hide hr
  clear x2 t0 t1 X1
  have q0 := hB1.out.box 0 _ rfl
  have q1 := hB1.out.box 1 _ rfl
  have q2 := hB1.out.box 2 _ rfl
  have q3 := hB1.out.box 3 _ rfl
  have q4 := hB1.out.box 4 _ rfl
  have q5 := hB1.out.box 5 _ rfl
  have q6 := hB1.out.box 6 _ rfl
  have t0 := hB2.out.box 0 _ rfl
  go_wp2_with fail
  have hsel := selectRows ⟨nc, code, wh, its, gr, li, false⟩ ca ia ga cc ic gc (colF cs) cs.length n ra rc w2 (hp.out.ext X2.out) hok hnc.out hr (fun j hj => colF_len hv.out hj) hl3 hn2
  rw [rowAt_T] at hsel
  have hslok : Hid (SelOK (slTo ⟨nc, code, wh, its, gr, li, false⟩ (rowT cs) n) n) := slTo_sel n
  obtain ⟨sl, hsl⟩ : ∃ sl, Hid (slTo ⟨nc, code, wh, its, gr, li, false⟩ (rowT cs) n = sl) := ⟨_, rfl⟩
  rw [hsl.out] at hsel hslok
  refine hsel.mono ?_
  clear hsel
  rintro e w3 ⟨sa, sc, rfl, hO, x3⟩
  have X3 : Hid (Ext w w3) := X2.out.trans x3
  replace hB1 := hide (hB1.out.ext x3)
  replace hG := hide (hG.out.ext x3)
  replace hr := hide (hr.out.ext x3)
  have hS := hide (OwnI.ints hO)
  have hsln : sl.length ≤ n := hslok.out.length
  clear x3 hO q0 q1 q2 q3 q4 q5 q6 t0 hB2 X2
  have hrun0 := hrun
  clear hrun
  rw [hsl.out] at hrun0
  clear hsl
  obtain ⟨R, hRb⟩ : ∃ R, w3.heap.size = R := ⟨_, rfl⟩
  have q1 := hB1.out.box 1 _ rfl
  have q3 := hB1.out.box 3 _ rfl
  replace hcode : Hid (NodesAt w3 ca code) := hcode.out.ext X3.out
  replace hitp : Hid (PairsAt w3 ia its) := hitp.out.ext X3.out
  obtain ⟨FC, hFCe⟩ : ∃ FC, Hid (vJ ⟨nc, code, wh, its, gr, li, false⟩ (rowT cs) sl = FC) := ⟨_, rfl⟩
  have hFC : Hid (∀ (j s : Nat), sl.getD j 0 = (s : Int) → ∀ kk, FC j kk = if (its.getD kk (0, 0)).2 < 0 then 0 else evX code (rowT cs s) (its.getD kk (0, 0)).2.toNat) := fun j s es kk => by
    rw [← hFCe.out]
    unfold vJ itV
    rw [es, Int.toNat_natCast]
  (try simp only at hrun0)
  rw [hFCe.out] at hrun0
  clear hFCe
  by_cases hl0 : 0 ≤ li
  · obtain ⟨l, rfl⟩ := Int.eq_ofNat_of_zero_le hl0
    have hl0' : (0 : Int) ≤ (l : Int) := by omega
    by_cases hlM : l < sl.length
    · have hlM' : (l : Int) < sl.length := by omega
      as_aux_lemma =>
        have hMn : l ≤ sl.length := by omega
        obtain ⟨MN, hMN⟩ : ∃ MN, Hid (l * its.length = MN) := ⟨_, rfl⟩
        have hmul : ((l : Nat) : Int) * (its.length : Int) = (MN : Int) := by rw [← hMN.out]; simp
        have hMNc : MN ≤ 16777216 := by rw [← hMN.out]; exact cost_it hV.out (show l ≤ n by omega)
        have hres : Hid (RS = flC FC its.length l) := by show _ = _; rw [hrun0.out]; unfold lim; rw [if_pos ⟨hl0, by omega⟩, Int.toNat_natCast]
        go_wp2_with (first | (at_make; refine mk_i64 rfl rfl cs.length rfl rfl (by omega) R hRb ?_; intro w4 O4 x4 z4; have hX4 : Hid (Ext w3 w4) := x4; replace O4 := hide O4; clear x4; have hB14 := hide (hB1.out.ext hX4.out)) | (at_make; refine mk_i64 rfl rfl code.length rfl rfl (by omega) (R + 1) z4 ?_; intro w5 O5 x5 z5; have hX5 : Hid (Ext w3 w5) := hX4.out.trans x5; replace O5 := hide O5; have O45 := hide (OwnI.ext O4.out x5); clear x5; have hB15 := hide (hB1.out.ext hX5.out); have q6 := hB15.out.box 6 _ rfl; have q5 := hB15.out.box 5 _ rfl) | (at_make; refine mk_i64 rfl rfl MN (by rfl) (by rfl) (by omega) (R + 2) z5 ?_; intro w6 O6 x6 z6; have hX6 : Hid (Ext w3 w6) := hX5.out.trans x6; replace O6 := hide O6; have O46 := hide (OwnI.ext O45.out x6); have O56 := hide (OwnI.ext O5.out x6); clear x6 q5 q6))
        have hRle : Hid (w3.heap.size ≤ R) := by show _ ≤ _; omega
        have O4b := hide (OwnI.mono O46.out hRle.out)
        have O5b := hide (OwnI.mono O56.out (Nat.le_trans hRle.out (Nat.le_succ R)))
        have O6b := hide (OwnI.mono O6.out (Nat.le_trans hRle.out (Nat.le_add_right R 2)))
        clear O4 O5 O45 O46 O56 O6 hX4 hX5 hB14 hB15 z4 z5 z6 q1 q3
        go_loopw [14] (fun i wr => ∃ (j : Nat) (yr yv CL : List Int), i = .int .i64 j ∧ j ≤ l ∧ Hid (OwnI wr w3.heap.size 2 (.slice (some ⟨R, 0, none⟩) cs.length cs.length) yr) ∧ Hid (yr.length = cs.length) ∧ Hid (OwnI wr w3.heap.size 2 (.slice (some ⟨R + 1, 0, none⟩) code.length code.length) yv) ∧ Hid (yv.length = code.length) ∧ Hid (OwnI wr w3.heap.size 2 (.slice (some ⟨R + 2, 0, none⟩) MN MN) CL) ∧ Hid (Cel 0 CL l its.length (fun g k => if g < j then FC g k else 0)) ∧ Hid (Ext w3 wr)) (fun i _ => l - (intOf i).toNat)
        case atStart => exact ⟨0, _, _, _, rfl, Nat.zero_le _, O4b, by simp [Hid], O5b, by simp [Hid], O6b, ⟨by simp; exact hMN.out.symm, fun g k hg hk => by simp; exact cel_zero hMN.out hg hk⟩, hX6⟩
        clear O4b O5b O6b hX6
        obtain ⟨j, yr, yv, CL, rfl, hj, hRo, hyr, hVo, hyv, hCo, hCel, hX7⟩ := hrel
        by_cases hjl : j < l
        · have hjl' : (j : Int) < (l : Nat) := by omega
          have hjs : (j : Int) < sl.length := by omega
          obtain ⟨b1, o1, e1, c1⟩ := (hS.out.ext hX7.out) j (by omega)
          cases e1
          obtain ⟨s, hs, es⟩ : ∃ s : Nat, s < n ∧ sl.getD j 0 = (s : Int) := by
            obtain ⟨h1, h2, _⟩ := hslok.out j (by omega)
            exact ⟨(sl.getD j 0).toNat, by omega, by omega⟩
          rw [es] at c1
          have hFCj := hide (hFC.out j s es)
          have hBr := hide (hB1.out.ext hX7.out)
          go_wp2_with fail
          clear c1
          refine (rowOf (colF cs) cs.length s _ rfl ra rc R cs.length yr w3 wr hX7 hr (fun j hj => by rw [colF_len hv.out hj]; exact ⟨hs, hn2⟩) hl3 hRo hyr.out).mono ?_
          rintro e v1 ⟨rfl, oR, b1⟩
          rw [rowAt_T] at oR
          have hXv1 : Hid (Ext w3 v1) := Below.trans hX7.out (b1.below (fun q hq => by omega) hX7.out.size)
          have hBv1 := hide (hB1.out.ext hXv1.out)
          have q1 := hBv1.out.box 1 _ rfl
          have hVv1 := hide (hVo.out.butS b1 (fun q hq hh => by cases hq; have h2 : R + 1 = R := hh; omega))
          have hrl : Hid ((rowT cs s).length = cs.length) := rowT_len cs _
          obtain ⟨row, hrow⟩ : ∃ row, Hid (rowT cs s = row) := ⟨_, rfl⟩
          rw [hrow.out] at oR hrl
          have hri := hide oR.ints
          have hoR := hide oR
          replace b1 := hide b1
          clear oR
          have har : Hid (∀ p, (some ⟨R, 0, none⟩ : Option Addr) = some p → p.block ≠ R + 1) := fun p hp => by cases hp; show R ≠ R + 1; omega
          have hev := hide (evalInto_allK code row yv ca (some ⟨R, 0, none⟩) cc cs.length (R + 1) code.length cs.length ((code.length : Int) - 1) w3 v1 hXv1 hcode hri har hVv1 hyv.out (by omega) (by rw [hrl.out]; omega) (fun i hi => by rw [hrl.out]; exact hwf.out i hi) rfl hrl.out.symm)
          go_wp2_with fail
          refine hev.out.mono ?_
          rintro e v2 ⟨rfl, oV, b2⟩
          have hXv2 : Hid (Ext w3 v2) := Below.trans hXv1.out (b2.below (fun q hq => by omega) hXv1.out.size)
          have hRv2 := hide (hoR.out.butS b2 (fun q hq hh => by cases hq; have h2 : R = R + 1 := hh; omega))
          have hb12 : Hid (But (fun q => q = R ∨ q = R + 1) wr v2) := but_two b1.out b2 (.inl rfl) (.inr rfl)
          have hUl : Hid ((evTo code row code.length).length = code.length) := evTo_len _ _ _
          have hUa : Hid (∀ x, x < code.length → (evTo code row code.length).getD x 0 = evX code row x) := fun x hx => evTo_at code row code.length x hx
          obtain ⟨U, hU⟩ : ∃ U, Hid (evTo code row code.length = U) := ⟨_, rfl⟩
          rw [hU.out] at oV hUl hUa
          have hVv2 := hide oV
          clear oV b2 b1 hev har hri hoR hVv1 hXv1 hBv1 q1 hU hX7 hRo hVo
          rw [hrow.out] at hFCj
          have hC2 := hide (hCo.out.butS hb12.out (fun q hq hh => by cases hq; have h2 : R + 2 = R ∨ R + 2 = R + 1 := hh; omega))
          clear hCo hb12 hBr hyr hyv
          obtain ⟨W6, rfl⟩ : ∃ W6, W6 = v2 := ⟨_, rfl⟩
          go_wp2_with fail
          go_loopw [15] (fun i wr => ∃ (kk : Nat) (CL : List Int), i = .int .i64 kk ∧ kk ≤ its.length ∧ Hid (OwnI wr w3.heap.size 2 (.slice (some ⟨R + 2, 0, none⟩) MN MN) CL) ∧ Hid (Cel 0 CL l its.length (fun g k => if g < j ∨ (g = j ∧ k < kk) then FC g k else 0)) ∧ Hid (But (fun q => q = R + 2) W6 wr)) (fun i _ => its.length - (intOf i).toNat)
          case atStart => exact ⟨0, CL, rfl, Nat.zero_le _, hC2, hCel.out.congr (fun g k _ _ => by simp), But.refl _ _⟩
          clear hC2 hCel
          obtain ⟨kk, CL, rfl, hkk, hCo, hCel, hbt⟩ := hrel
          have hXr : Hid (Ext w3 wr) := Below.trans hXv2.out (hbt.out.below (fun q hq => by omega) hXv2.out.size)
          have hVr := hide (hVv2.out.butS hbt.out (fun q hq hh => by cases hq; have h2 : R + 1 = R + 2 := hh; omega))
          by_cases hkl : kk < its.length
          · have hkl' : (kk : Int) < its.length := by omega
            have hBr := hide (hB1.out.ext hXr.out)
            have q3 := hBr.out.box 3 _ rfl
            obtain ⟨b3, o3, e3, g1, g2⟩ := (hitp.out.ext hXr.out) kk hkl
            have hitj := hits.out _ (getD_mem_it its kk hkl)
            have hval := hFCj.out kk
            obtain ⟨JA, hJA⟩ : ∃ JA, Hid (j * its.length = JA) := ⟨_, rfl⟩
            have hJI : (j : Int) * (its.length : Int) = (JA : Int) := by rw [← hJA.out]; simp
            have hix := hide (hCel.out.lt hjl hkl)
            have hcll : Hid (CL.length = MN) := by show _ = _; rw [hCel.out.1, hMN.out]
            rw [hcll.out, hJA.out] at hix
            have hix' : (JA : Int) + kk < MN := by have := hix.out; omega
            have hset := hide (hCel.out.set hjl hkl (FC j kk) (F' := fun g k => if g < j ∨ (g = j ∧ k < kk + 1) then FC g k else 0) (fun g k _ _ hne => by
              by_cases hc : g < j ∨ (g = j ∧ k < kk)
              · rw [if_pos hc, if_pos (by omega)]
              · rw [if_neg hc, if_neg (by omega)]) (by rw [if_pos (.inr ⟨rfl, by omega⟩)]))
            rw [hJA.out] at hset
            generalize its.getD kk (0, 0) = itj at *
            obtain ⟨A, E⟩ := itj
            simp only at g1 g2 hval
            obtain ⟨_, _, hite⟩ := hitj
            simp only at hite
            cases e3
            by_cases hE0 : 0 ≤ E
            · obtain ⟨x, rfl⟩ := Int.eq_ofNat_of_zero_le hE0
              have hx9 : x < code.length := by omega
              have hx9' : (x : Int) < code.length := by omega
              rw [if_neg (by omega), Int.toNat_natCast, ← hUa.out x hx9] at hval
              have cv := OwnI.cellAt hVr.out x (by rw [hUl.out]; exact hx9)
              rw [← hval] at cv
              have hE0' : (0 : Int) ≤ (x : Int) := by omega
              generalize FC j kk = Y at *
              clear hval hite g1
              go_wp2_with (refine wpList_stI (g := R + 2) (i := JA + kk) (u := Y) rfl rfl (by rfl) (by rfl) hCo.out hcll.out.symm (by rw [hcll.out]; exact hix.out) size_int64 ?_; intro w8 hU8 hg8; have hC8 := hide hU8; have hb8 := hide (hbt.out.trans (But.of_grown (S := fun q => q = R + 2) hg8 (fun q hq => by cases hq; rfl))); clear hU8 hg8)
              go_roundw
              case rel => exact ⟨kk + 1, _, by go_num, by omega, hC8.out, hset.out, hb8.out⟩
              case measure => simp [intOf]; omega
            · rw [if_pos (by omega)] at hval
              rw [hval] at hset
              have hE0' : ¬ (0 : Int) ≤ E := hE0
              obtain ⟨Y, hY⟩ : ∃ Y : Int, Y = 0 := ⟨0, rfl⟩
              clear hval hite g1
              rw [← hY] at hset
              subst hY
              go_wp2_with (refine wpList_stI (g := R + 2) (i := JA + kk) (u := 0) rfl rfl (by rfl) (by rfl) hCo.out hcll.out.symm (by rw [hcll.out]; exact hix.out) size_int64 ?_; intro w8 hU8 hg8; have hC8 := hide hU8; have hb8 := hide (hbt.out.trans (But.of_grown (S := fun q => q = R + 2) hg8 (fun q hq => by cases hq; rfl))); clear hU8 hg8)
              go_roundw
              case rel => exact ⟨kk + 1, _, by go_num, by omega, hC8.out, hset.out, hb8.out⟩
              case measure => simp [intOf]; omega
          · have hkl' : ¬ (kk : Int) < its.length := by omega
            obtain rfl : kk = its.length := by omega
            have hRr := hide (hRv2.out.butS hbt.out (fun q hq hh => by cases hq; have h2 : R = R + 2 := hh; omega))
            have hCel2 : Hid (Cel 0 CL l its.length (fun g k => if g < j + 1 then FC g k else 0)) := hCel.out.congr (fun g k hg hk => by
              by_cases hc : g < j + 1
              · rw [if_pos (by omega), if_pos hc]
              · rw [if_neg (by omega), if_neg hc])
            clear hkl hkk
            go_wp2_with fail
            go_roundw
            case rel => exact ⟨j + 1, row, U, CL, by go_num, by omega, hRr.out, hrl.out, hVr.out, hUl.out, hCo.out, hCel2.out, hXr.out⟩
            case measure => simp [intOf]; omega
        · obtain rfl : l = j := by omega
          have hjl' : ¬ ((l : Nat) : Int) < (l : Nat) := by omega
          have hfin : Hid (CL = RS) := by
            show _ = _
            rw [hres.out]
            exact (hCel.out.congr (fun g k hg hk => by rw [if_pos hg])).eq
          rw [hfin.out] at hCo
          have hlr : Hid (RS.length = MN) := by show _ = _; rw [hres.out, flC_len, hMN.out]
          have hG9 := hide (hG.out.ext hX7.out)
          have hGl := hG.out.lt
          have hXf : Hid (Ext w wr) := X3.out.trans hX7.out
          go_wp2_with (refine wpList_storeB (vs := [.int .i64 its.length, (.slice (some ⟨R + 2, 0, none⟩) MN MN)]) rfl rfl (by rfl) (by rfl) hG9.out size_res rfl (by simp [Value.oneCell']) ?_; intro w9 hb9 hg9; replace hb9 := hide hb9; replace hg9 := hide hg9)
          refine bodyPost_ret (results_cell2 rfl (by rfl) hb9.out Yabn.underlying34 size_res) rfl ?_
          refine ⟨hXf.out.grown hg9.out (fun q hq => by cases hq; omega), .inl ⟨hV.out, some ⟨R + 2, 0, none⟩, MN, by first | (rw [hlr.out]; done) | (rw [hlr.out]; rfl), ?_, OwnI.abv hCo.out X3.out.size⟩⟩
          exact OwnI.ints (OwnI.kept hCo.out hg9.out (by omega))
    · have hlM' : ¬ (l : Int) < sl.length := by omega
      as_aux_lemma =>
        have hMn : sl.length ≤ sl.length := Nat.le_refl _
        obtain ⟨MN, hMN⟩ : ∃ MN, Hid (sl.length * its.length = MN) := ⟨_, rfl⟩
        have hmul : ((sl.length : Nat) : Int) * (its.length : Int) = (MN : Int) := by rw [← hMN.out]; simp
        have hMNc : MN ≤ 16777216 := by rw [← hMN.out]; exact cost_it hV.out (show sl.length ≤ n by omega)
        have hres : Hid (RS = flC FC its.length sl.length) := by show _ = _; rw [hrun0.out]; unfold lim; rw [if_neg (by omega)]
        go_wp2_with (first | (at_make; refine mk_i64 rfl rfl cs.length rfl rfl (by omega) R hRb ?_; intro w4 O4 x4 z4; have hX4 : Hid (Ext w3 w4) := x4; replace O4 := hide O4; clear x4; have hB14 := hide (hB1.out.ext hX4.out)) | (at_make; refine mk_i64 rfl rfl code.length rfl rfl (by omega) (R + 1) z4 ?_; intro w5 O5 x5 z5; have hX5 : Hid (Ext w3 w5) := hX4.out.trans x5; replace O5 := hide O5; have O45 := hide (OwnI.ext O4.out x5); clear x5; have hB15 := hide (hB1.out.ext hX5.out); have q6 := hB15.out.box 6 _ rfl; have q5 := hB15.out.box 5 _ rfl) | (at_make; refine mk_i64 rfl rfl MN (by rfl) (by rfl) (by omega) (R + 2) z5 ?_; intro w6 O6 x6 z6; have hX6 : Hid (Ext w3 w6) := hX5.out.trans x6; replace O6 := hide O6; have O46 := hide (OwnI.ext O45.out x6); have O56 := hide (OwnI.ext O5.out x6); clear x6 q5 q6))
        have hRle : Hid (w3.heap.size ≤ R) := by show _ ≤ _; omega
        have O4b := hide (OwnI.mono O46.out hRle.out)
        have O5b := hide (OwnI.mono O56.out (Nat.le_trans hRle.out (Nat.le_succ R)))
        have O6b := hide (OwnI.mono O6.out (Nat.le_trans hRle.out (Nat.le_add_right R 2)))
        clear O4 O5 O45 O46 O56 O6 hX4 hX5 hB14 hB15 z4 z5 z6 q1 q3
        go_loopw [14] (fun i wr => ∃ (j : Nat) (yr yv CL : List Int), i = .int .i64 j ∧ j ≤ sl.length ∧ Hid (OwnI wr w3.heap.size 2 (.slice (some ⟨R, 0, none⟩) cs.length cs.length) yr) ∧ Hid (yr.length = cs.length) ∧ Hid (OwnI wr w3.heap.size 2 (.slice (some ⟨R + 1, 0, none⟩) code.length code.length) yv) ∧ Hid (yv.length = code.length) ∧ Hid (OwnI wr w3.heap.size 2 (.slice (some ⟨R + 2, 0, none⟩) MN MN) CL) ∧ Hid (Cel 0 CL sl.length its.length (fun g k => if g < j then FC g k else 0)) ∧ Hid (Ext w3 wr)) (fun i _ => sl.length - (intOf i).toNat)
        case atStart => exact ⟨0, _, _, _, rfl, Nat.zero_le _, O4b, by simp [Hid], O5b, by simp [Hid], O6b, ⟨by simp; exact hMN.out.symm, fun g k hg hk => by simp; exact cel_zero hMN.out hg hk⟩, hX6⟩
        clear O4b O5b O6b hX6
        obtain ⟨j, yr, yv, CL, rfl, hj, hRo, hyr, hVo, hyv, hCo, hCel, hX7⟩ := hrel
        by_cases hjl : j < sl.length
        · have hjl' : (j : Int) < (sl.length : Nat) := by omega
          have hjs : (j : Int) < sl.length := by omega
          obtain ⟨b1, o1, e1, c1⟩ := (hS.out.ext hX7.out) j (by omega)
          cases e1
          obtain ⟨s, hs, es⟩ : ∃ s : Nat, s < n ∧ sl.getD j 0 = (s : Int) := by
            obtain ⟨h1, h2, _⟩ := hslok.out j (by omega)
            exact ⟨(sl.getD j 0).toNat, by omega, by omega⟩
          rw [es] at c1
          have hFCj := hide (hFC.out j s es)
          have hBr := hide (hB1.out.ext hX7.out)
          go_wp2_with fail
          clear c1
          refine (rowOf (colF cs) cs.length s _ rfl ra rc R cs.length yr w3 wr hX7 hr (fun j hj => by rw [colF_len hv.out hj]; exact ⟨hs, hn2⟩) hl3 hRo hyr.out).mono ?_
          rintro e v1 ⟨rfl, oR, b1⟩
          rw [rowAt_T] at oR
          have hXv1 : Hid (Ext w3 v1) := Below.trans hX7.out (b1.below (fun q hq => by omega) hX7.out.size)
          have hBv1 := hide (hB1.out.ext hXv1.out)
          have q1 := hBv1.out.box 1 _ rfl
          have hVv1 := hide (hVo.out.butS b1 (fun q hq hh => by cases hq; have h2 : R + 1 = R := hh; omega))
          have hrl : Hid ((rowT cs s).length = cs.length) := rowT_len cs _
          obtain ⟨row, hrow⟩ : ∃ row, Hid (rowT cs s = row) := ⟨_, rfl⟩
          rw [hrow.out] at oR hrl
          have hri := hide oR.ints
          have hoR := hide oR
          replace b1 := hide b1
          clear oR
          have har : Hid (∀ p, (some ⟨R, 0, none⟩ : Option Addr) = some p → p.block ≠ R + 1) := fun p hp => by cases hp; show R ≠ R + 1; omega
          have hev := hide (evalInto_allK code row yv ca (some ⟨R, 0, none⟩) cc cs.length (R + 1) code.length cs.length ((code.length : Int) - 1) w3 v1 hXv1 hcode hri har hVv1 hyv.out (by omega) (by rw [hrl.out]; omega) (fun i hi => by rw [hrl.out]; exact hwf.out i hi) rfl hrl.out.symm)
          go_wp2_with fail
          refine hev.out.mono ?_
          rintro e v2 ⟨rfl, oV, b2⟩
          have hXv2 : Hid (Ext w3 v2) := Below.trans hXv1.out (b2.below (fun q hq => by omega) hXv1.out.size)
          have hRv2 := hide (hoR.out.butS b2 (fun q hq hh => by cases hq; have h2 : R = R + 1 := hh; omega))
          have hb12 : Hid (But (fun q => q = R ∨ q = R + 1) wr v2) := but_two b1.out b2 (.inl rfl) (.inr rfl)
          have hUl : Hid ((evTo code row code.length).length = code.length) := evTo_len _ _ _
          have hUa : Hid (∀ x, x < code.length → (evTo code row code.length).getD x 0 = evX code row x) := fun x hx => evTo_at code row code.length x hx
          obtain ⟨U, hU⟩ : ∃ U, Hid (evTo code row code.length = U) := ⟨_, rfl⟩
          rw [hU.out] at oV hUl hUa
          have hVv2 := hide oV
          clear oV b2 b1 hev har hri hoR hVv1 hXv1 hBv1 q1 hU hX7 hRo hVo
          rw [hrow.out] at hFCj
          have hC2 := hide (hCo.out.butS hb12.out (fun q hq hh => by cases hq; have h2 : R + 2 = R ∨ R + 2 = R + 1 := hh; omega))
          clear hCo hb12 hBr hyr hyv
          obtain ⟨W6, rfl⟩ : ∃ W6, W6 = v2 := ⟨_, rfl⟩
          go_wp2_with fail
          go_loopw [15] (fun i wr => ∃ (kk : Nat) (CL : List Int), i = .int .i64 kk ∧ kk ≤ its.length ∧ Hid (OwnI wr w3.heap.size 2 (.slice (some ⟨R + 2, 0, none⟩) MN MN) CL) ∧ Hid (Cel 0 CL sl.length its.length (fun g k => if g < j ∨ (g = j ∧ k < kk) then FC g k else 0)) ∧ Hid (But (fun q => q = R + 2) W6 wr)) (fun i _ => its.length - (intOf i).toNat)
          case atStart => exact ⟨0, CL, rfl, Nat.zero_le _, hC2, hCel.out.congr (fun g k _ _ => by simp), But.refl _ _⟩
          clear hC2 hCel
          obtain ⟨kk, CL, rfl, hkk, hCo, hCel, hbt⟩ := hrel
          have hXr : Hid (Ext w3 wr) := Below.trans hXv2.out (hbt.out.below (fun q hq => by omega) hXv2.out.size)
          have hVr := hide (hVv2.out.butS hbt.out (fun q hq hh => by cases hq; have h2 : R + 1 = R + 2 := hh; omega))
          by_cases hkl : kk < its.length
          · have hkl' : (kk : Int) < its.length := by omega
            have hBr := hide (hB1.out.ext hXr.out)
            have q3 := hBr.out.box 3 _ rfl
            obtain ⟨b3, o3, e3, g1, g2⟩ := (hitp.out.ext hXr.out) kk hkl
            have hitj := hits.out _ (getD_mem_it its kk hkl)
            have hval := hFCj.out kk
            obtain ⟨JA, hJA⟩ : ∃ JA, Hid (j * its.length = JA) := ⟨_, rfl⟩
            have hJI : (j : Int) * (its.length : Int) = (JA : Int) := by rw [← hJA.out]; simp
            have hix := hide (hCel.out.lt hjl hkl)
            have hcll : Hid (CL.length = MN) := by show _ = _; rw [hCel.out.1, hMN.out]
            rw [hcll.out, hJA.out] at hix
            have hix' : (JA : Int) + kk < MN := by have := hix.out; omega
            have hset := hide (hCel.out.set hjl hkl (FC j kk) (F' := fun g k => if g < j ∨ (g = j ∧ k < kk + 1) then FC g k else 0) (fun g k _ _ hne => by
              by_cases hc : g < j ∨ (g = j ∧ k < kk)
              · rw [if_pos hc, if_pos (by omega)]
              · rw [if_neg hc, if_neg (by omega)]) (by rw [if_pos (.inr ⟨rfl, by omega⟩)]))
            rw [hJA.out] at hset
            generalize its.getD kk (0, 0) = itj at *
            obtain ⟨A, E⟩ := itj
            simp only at g1 g2 hval
            obtain ⟨_, _, hite⟩ := hitj
            simp only at hite
            cases e3
            by_cases hE0 : 0 ≤ E
            · obtain ⟨x, rfl⟩ := Int.eq_ofNat_of_zero_le hE0
              have hx9 : x < code.length := by omega
              have hx9' : (x : Int) < code.length := by omega
              rw [if_neg (by omega), Int.toNat_natCast, ← hUa.out x hx9] at hval
              have cv := OwnI.cellAt hVr.out x (by rw [hUl.out]; exact hx9)
              rw [← hval] at cv
              have hE0' : (0 : Int) ≤ (x : Int) := by omega
              generalize FC j kk = Y at *
              clear hval hite g1
              go_wp2_with (refine wpList_stI (g := R + 2) (i := JA + kk) (u := Y) rfl rfl (by rfl) (by rfl) hCo.out hcll.out.symm (by rw [hcll.out]; exact hix.out) size_int64 ?_; intro w8 hU8 hg8; have hC8 := hide hU8; have hb8 := hide (hbt.out.trans (But.of_grown (S := fun q => q = R + 2) hg8 (fun q hq => by cases hq; rfl))); clear hU8 hg8)
              go_roundw
              case rel => exact ⟨kk + 1, _, by go_num, by omega, hC8.out, hset.out, hb8.out⟩
              case measure => simp [intOf]; omega
            · rw [if_pos (by omega)] at hval
              rw [hval] at hset
              have hE0' : ¬ (0 : Int) ≤ E := hE0
              obtain ⟨Y, hY⟩ : ∃ Y : Int, Y = 0 := ⟨0, rfl⟩
              clear hval hite g1
              rw [← hY] at hset
              subst hY
              go_wp2_with (refine wpList_stI (g := R + 2) (i := JA + kk) (u := 0) rfl rfl (by rfl) (by rfl) hCo.out hcll.out.symm (by rw [hcll.out]; exact hix.out) size_int64 ?_; intro w8 hU8 hg8; have hC8 := hide hU8; have hb8 := hide (hbt.out.trans (But.of_grown (S := fun q => q = R + 2) hg8 (fun q hq => by cases hq; rfl))); clear hU8 hg8)
              go_roundw
              case rel => exact ⟨kk + 1, _, by go_num, by omega, hC8.out, hset.out, hb8.out⟩
              case measure => simp [intOf]; omega
          · have hkl' : ¬ (kk : Int) < its.length := by omega
            obtain rfl : kk = its.length := by omega
            have hRr := hide (hRv2.out.butS hbt.out (fun q hq hh => by cases hq; have h2 : R = R + 2 := hh; omega))
            have hCel2 : Hid (Cel 0 CL sl.length its.length (fun g k => if g < j + 1 then FC g k else 0)) := hCel.out.congr (fun g k hg hk => by
              by_cases hc : g < j + 1
              · rw [if_pos (by omega), if_pos hc]
              · rw [if_neg (by omega), if_neg hc])
            clear hkl hkk
            go_wp2_with fail
            go_roundw
            case rel => exact ⟨j + 1, row, U, CL, by go_num, by omega, hRr.out, hrl.out, hVr.out, hUl.out, hCo.out, hCel2.out, hXr.out⟩
            case measure => simp [intOf]; omega
        · obtain rfl : sl.length = j := by omega
          have hjl' : ¬ ((sl.length : Nat) : Int) < (sl.length : Nat) := by omega
          have hfin : Hid (CL = RS) := by
            show _ = _
            rw [hres.out]
            exact (hCel.out.congr (fun g k hg hk => by rw [if_pos hg])).eq
          rw [hfin.out] at hCo
          have hlr : Hid (RS.length = MN) := by show _ = _; rw [hres.out, flC_len, hMN.out]
          have hG9 := hide (hG.out.ext hX7.out)
          have hGl := hG.out.lt
          have hXf : Hid (Ext w wr) := X3.out.trans hX7.out
          go_wp2_with (refine wpList_storeB (vs := [.int .i64 its.length, (.slice (some ⟨R + 2, 0, none⟩) MN MN)]) rfl rfl (by rfl) (by rfl) hG9.out size_res rfl (by simp [Value.oneCell']) ?_; intro w9 hb9 hg9; replace hb9 := hide hb9; replace hg9 := hide hg9)
          refine bodyPost_ret (results_cell2 rfl (by rfl) hb9.out Yabn.underlying34 size_res) rfl ?_
          refine ⟨hXf.out.grown hg9.out (fun q hq => by cases hq; omega), .inl ⟨hV.out, some ⟨R + 2, 0, none⟩, MN, by first | (rw [hlr.out]; done) | (rw [hlr.out]; rfl), ?_, OwnI.abv hCo.out X3.out.size⟩⟩
          exact OwnI.ints (OwnI.kept hCo.out hg9.out (by omega))
  · have hl0' : ¬ (0 : Int) ≤ li := hl0
    as_aux_lemma =>
      have hMn : sl.length ≤ sl.length := Nat.le_refl _
      obtain ⟨MN, hMN⟩ : ∃ MN, Hid (sl.length * its.length = MN) := ⟨_, rfl⟩
      have hmul : ((sl.length : Nat) : Int) * (its.length : Int) = (MN : Int) := by rw [← hMN.out]; simp
      have hMNc : MN ≤ 16777216 := by rw [← hMN.out]; exact cost_it hV.out (show sl.length ≤ n by omega)
      have hres : Hid (RS = flC FC its.length sl.length) := by show _ = _; rw [hrun0.out]; unfold lim; rw [if_neg (by omega)]
      go_wp2_with (first | (at_make; refine mk_i64 rfl rfl cs.length rfl rfl (by omega) R hRb ?_; intro w4 O4 x4 z4; have hX4 : Hid (Ext w3 w4) := x4; replace O4 := hide O4; clear x4; have hB14 := hide (hB1.out.ext hX4.out)) | (at_make; refine mk_i64 rfl rfl code.length rfl rfl (by omega) (R + 1) z4 ?_; intro w5 O5 x5 z5; have hX5 : Hid (Ext w3 w5) := hX4.out.trans x5; replace O5 := hide O5; have O45 := hide (OwnI.ext O4.out x5); clear x5; have hB15 := hide (hB1.out.ext hX5.out); have q6 := hB15.out.box 6 _ rfl; have q5 := hB15.out.box 5 _ rfl) | (at_make; refine mk_i64 rfl rfl MN (by rfl) (by rfl) (by omega) (R + 2) z5 ?_; intro w6 O6 x6 z6; have hX6 : Hid (Ext w3 w6) := hX5.out.trans x6; replace O6 := hide O6; have O46 := hide (OwnI.ext O45.out x6); have O56 := hide (OwnI.ext O5.out x6); clear x6 q5 q6))
      have hRle : Hid (w3.heap.size ≤ R) := by show _ ≤ _; omega
      have O4b := hide (OwnI.mono O46.out hRle.out)
      have O5b := hide (OwnI.mono O56.out (Nat.le_trans hRle.out (Nat.le_succ R)))
      have O6b := hide (OwnI.mono O6.out (Nat.le_trans hRle.out (Nat.le_add_right R 2)))
      clear O4 O5 O45 O46 O56 O6 hX4 hX5 hB14 hB15 z4 z5 z6 q1 q3
      go_loopw [14] (fun i wr => ∃ (j : Nat) (yr yv CL : List Int), i = .int .i64 j ∧ j ≤ sl.length ∧ Hid (OwnI wr w3.heap.size 2 (.slice (some ⟨R, 0, none⟩) cs.length cs.length) yr) ∧ Hid (yr.length = cs.length) ∧ Hid (OwnI wr w3.heap.size 2 (.slice (some ⟨R + 1, 0, none⟩) code.length code.length) yv) ∧ Hid (yv.length = code.length) ∧ Hid (OwnI wr w3.heap.size 2 (.slice (some ⟨R + 2, 0, none⟩) MN MN) CL) ∧ Hid (Cel 0 CL sl.length its.length (fun g k => if g < j then FC g k else 0)) ∧ Hid (Ext w3 wr)) (fun i _ => sl.length - (intOf i).toNat)
      case atStart => exact ⟨0, _, _, _, rfl, Nat.zero_le _, O4b, by simp [Hid], O5b, by simp [Hid], O6b, ⟨by simp; exact hMN.out.symm, fun g k hg hk => by simp; exact cel_zero hMN.out hg hk⟩, hX6⟩
      clear O4b O5b O6b hX6
      obtain ⟨j, yr, yv, CL, rfl, hj, hRo, hyr, hVo, hyv, hCo, hCel, hX7⟩ := hrel
      by_cases hjl : j < sl.length
      · have hjl' : (j : Int) < (sl.length : Nat) := by omega
        have hjs : (j : Int) < sl.length := by omega
        obtain ⟨b1, o1, e1, c1⟩ := (hS.out.ext hX7.out) j (by omega)
        cases e1
        obtain ⟨s, hs, es⟩ : ∃ s : Nat, s < n ∧ sl.getD j 0 = (s : Int) := by
          obtain ⟨h1, h2, _⟩ := hslok.out j (by omega)
          exact ⟨(sl.getD j 0).toNat, by omega, by omega⟩
        rw [es] at c1
        have hFCj := hide (hFC.out j s es)
        have hBr := hide (hB1.out.ext hX7.out)
        go_wp2_with fail
        clear c1
        refine (rowOf (colF cs) cs.length s _ rfl ra rc R cs.length yr w3 wr hX7 hr (fun j hj => by rw [colF_len hv.out hj]; exact ⟨hs, hn2⟩) hl3 hRo hyr.out).mono ?_
        rintro e v1 ⟨rfl, oR, b1⟩
        rw [rowAt_T] at oR
        have hXv1 : Hid (Ext w3 v1) := Below.trans hX7.out (b1.below (fun q hq => by omega) hX7.out.size)
        have hBv1 := hide (hB1.out.ext hXv1.out)
        have q1 := hBv1.out.box 1 _ rfl
        have hVv1 := hide (hVo.out.butS b1 (fun q hq hh => by cases hq; have h2 : R + 1 = R := hh; omega))
        have hrl : Hid ((rowT cs s).length = cs.length) := rowT_len cs _
        obtain ⟨row, hrow⟩ : ∃ row, Hid (rowT cs s = row) := ⟨_, rfl⟩
        rw [hrow.out] at oR hrl
        have hri := hide oR.ints
        have hoR := hide oR
        replace b1 := hide b1
        clear oR
        have har : Hid (∀ p, (some ⟨R, 0, none⟩ : Option Addr) = some p → p.block ≠ R + 1) := fun p hp => by cases hp; show R ≠ R + 1; omega
        have hev := hide (evalInto_allK code row yv ca (some ⟨R, 0, none⟩) cc cs.length (R + 1) code.length cs.length ((code.length : Int) - 1) w3 v1 hXv1 hcode hri har hVv1 hyv.out (by omega) (by rw [hrl.out]; omega) (fun i hi => by rw [hrl.out]; exact hwf.out i hi) rfl hrl.out.symm)
        go_wp2_with fail
        refine hev.out.mono ?_
        rintro e v2 ⟨rfl, oV, b2⟩
        have hXv2 : Hid (Ext w3 v2) := Below.trans hXv1.out (b2.below (fun q hq => by omega) hXv1.out.size)
        have hRv2 := hide (hoR.out.butS b2 (fun q hq hh => by cases hq; have h2 : R = R + 1 := hh; omega))
        have hb12 : Hid (But (fun q => q = R ∨ q = R + 1) wr v2) := but_two b1.out b2 (.inl rfl) (.inr rfl)
        have hUl : Hid ((evTo code row code.length).length = code.length) := evTo_len _ _ _
        have hUa : Hid (∀ x, x < code.length → (evTo code row code.length).getD x 0 = evX code row x) := fun x hx => evTo_at code row code.length x hx
        obtain ⟨U, hU⟩ : ∃ U, Hid (evTo code row code.length = U) := ⟨_, rfl⟩
        rw [hU.out] at oV hUl hUa
        have hVv2 := hide oV
        clear oV b2 b1 hev har hri hoR hVv1 hXv1 hBv1 q1 hU hX7 hRo hVo
        rw [hrow.out] at hFCj
        have hC2 := hide (hCo.out.butS hb12.out (fun q hq hh => by cases hq; have h2 : R + 2 = R ∨ R + 2 = R + 1 := hh; omega))
        clear hCo hb12 hBr hyr hyv
        obtain ⟨W6, rfl⟩ : ∃ W6, W6 = v2 := ⟨_, rfl⟩
        go_wp2_with fail
        go_loopw [15] (fun i wr => ∃ (kk : Nat) (CL : List Int), i = .int .i64 kk ∧ kk ≤ its.length ∧ Hid (OwnI wr w3.heap.size 2 (.slice (some ⟨R + 2, 0, none⟩) MN MN) CL) ∧ Hid (Cel 0 CL sl.length its.length (fun g k => if g < j ∨ (g = j ∧ k < kk) then FC g k else 0)) ∧ Hid (But (fun q => q = R + 2) W6 wr)) (fun i _ => its.length - (intOf i).toNat)
        case atStart => exact ⟨0, CL, rfl, Nat.zero_le _, hC2, hCel.out.congr (fun g k _ _ => by simp), But.refl _ _⟩
        clear hC2 hCel
        obtain ⟨kk, CL, rfl, hkk, hCo, hCel, hbt⟩ := hrel
        have hXr : Hid (Ext w3 wr) := Below.trans hXv2.out (hbt.out.below (fun q hq => by omega) hXv2.out.size)
        have hVr := hide (hVv2.out.butS hbt.out (fun q hq hh => by cases hq; have h2 : R + 1 = R + 2 := hh; omega))
        by_cases hkl : kk < its.length
        · have hkl' : (kk : Int) < its.length := by omega
          have hBr := hide (hB1.out.ext hXr.out)
          have q3 := hBr.out.box 3 _ rfl
          obtain ⟨b3, o3, e3, g1, g2⟩ := (hitp.out.ext hXr.out) kk hkl
          have hitj := hits.out _ (getD_mem_it its kk hkl)
          have hval := hFCj.out kk
          obtain ⟨JA, hJA⟩ : ∃ JA, Hid (j * its.length = JA) := ⟨_, rfl⟩
          have hJI : (j : Int) * (its.length : Int) = (JA : Int) := by rw [← hJA.out]; simp
          have hix := hide (hCel.out.lt hjl hkl)
          have hcll : Hid (CL.length = MN) := by show _ = _; rw [hCel.out.1, hMN.out]
          rw [hcll.out, hJA.out] at hix
          have hix' : (JA : Int) + kk < MN := by have := hix.out; omega
          have hset := hide (hCel.out.set hjl hkl (FC j kk) (F' := fun g k => if g < j ∨ (g = j ∧ k < kk + 1) then FC g k else 0) (fun g k _ _ hne => by
            by_cases hc : g < j ∨ (g = j ∧ k < kk)
            · rw [if_pos hc, if_pos (by omega)]
            · rw [if_neg hc, if_neg (by omega)]) (by rw [if_pos (.inr ⟨rfl, by omega⟩)]))
          rw [hJA.out] at hset
          generalize its.getD kk (0, 0) = itj at *
          obtain ⟨A, E⟩ := itj
          simp only at g1 g2 hval
          obtain ⟨_, _, hite⟩ := hitj
          simp only at hite
          cases e3
          by_cases hE0 : 0 ≤ E
          · obtain ⟨x, rfl⟩ := Int.eq_ofNat_of_zero_le hE0
            have hx9 : x < code.length := by omega
            have hx9' : (x : Int) < code.length := by omega
            rw [if_neg (by omega), Int.toNat_natCast, ← hUa.out x hx9] at hval
            have cv := OwnI.cellAt hVr.out x (by rw [hUl.out]; exact hx9)
            rw [← hval] at cv
            have hE0' : (0 : Int) ≤ (x : Int) := by omega
            generalize FC j kk = Y at *
            clear hval hite g1
            go_wp2_with (refine wpList_stI (g := R + 2) (i := JA + kk) (u := Y) rfl rfl (by rfl) (by rfl) hCo.out hcll.out.symm (by rw [hcll.out]; exact hix.out) size_int64 ?_; intro w8 hU8 hg8; have hC8 := hide hU8; have hb8 := hide (hbt.out.trans (But.of_grown (S := fun q => q = R + 2) hg8 (fun q hq => by cases hq; rfl))); clear hU8 hg8)
            go_roundw
            case rel => exact ⟨kk + 1, _, by go_num, by omega, hC8.out, hset.out, hb8.out⟩
            case measure => simp [intOf]; omega
          · rw [if_pos (by omega)] at hval
            rw [hval] at hset
            have hE0' : ¬ (0 : Int) ≤ E := hE0
            obtain ⟨Y, hY⟩ : ∃ Y : Int, Y = 0 := ⟨0, rfl⟩
            clear hval hite g1
            rw [← hY] at hset
            subst hY
            go_wp2_with (refine wpList_stI (g := R + 2) (i := JA + kk) (u := 0) rfl rfl (by rfl) (by rfl) hCo.out hcll.out.symm (by rw [hcll.out]; exact hix.out) size_int64 ?_; intro w8 hU8 hg8; have hC8 := hide hU8; have hb8 := hide (hbt.out.trans (But.of_grown (S := fun q => q = R + 2) hg8 (fun q hq => by cases hq; rfl))); clear hU8 hg8)
            go_roundw
            case rel => exact ⟨kk + 1, _, by go_num, by omega, hC8.out, hset.out, hb8.out⟩
            case measure => simp [intOf]; omega
        · have hkl' : ¬ (kk : Int) < its.length := by omega
          obtain rfl : kk = its.length := by omega
          have hRr := hide (hRv2.out.butS hbt.out (fun q hq hh => by cases hq; have h2 : R = R + 2 := hh; omega))
          have hCel2 : Hid (Cel 0 CL sl.length its.length (fun g k => if g < j + 1 then FC g k else 0)) := hCel.out.congr (fun g k hg hk => by
            by_cases hc : g < j + 1
            · rw [if_pos (by omega), if_pos hc]
            · rw [if_neg (by omega), if_neg hc])
          clear hkl hkk
          go_wp2_with fail
          go_roundw
          case rel => exact ⟨j + 1, row, U, CL, by go_num, by omega, hRr.out, hrl.out, hVr.out, hUl.out, hCo.out, hCel2.out, hXr.out⟩
          case measure => simp [intOf]; omega
      · obtain rfl : sl.length = j := by omega
        have hjl' : ¬ ((sl.length : Nat) : Int) < (sl.length : Nat) := by omega
        have hfin : Hid (CL = RS) := by
          show _ = _
          rw [hres.out]
          exact (hCel.out.congr (fun g k hg hk => by rw [if_pos hg])).eq
        rw [hfin.out] at hCo
        have hlr : Hid (RS.length = MN) := by show _ = _; rw [hres.out, flC_len, hMN.out]
        have hG9 := hide (hG.out.ext hX7.out)
        have hGl := hG.out.lt
        have hXf : Hid (Ext w wr) := X3.out.trans hX7.out
        go_wp2_with (refine wpList_storeB (vs := [.int .i64 its.length, (.slice (some ⟨R + 2, 0, none⟩) MN MN)]) rfl rfl (by rfl) (by rfl) hG9.out size_res rfl (by simp [Value.oneCell']) ?_; intro w9 hb9 hg9; replace hb9 := hide hb9; replace hg9 := hide hg9)
        refine bodyPost_ret (results_cell2 rfl (by rfl) hb9.out Yabn.underlying34 size_res) rfl ?_
        refine ⟨hXf.out.grown hg9.out (fun q hq => by cases hq; omega), .inl ⟨hV.out, some ⟨R + 2, 0, none⟩, MN, by first | (rw [hlr.out]; done) | (rw [hlr.out]; rfl), ?_, OwnI.abv hCo.out X3.out.size⟩⟩
        exact OwnI.ints (OwnI.kept hCo.out hg9.out (by omega))
end Go.Proofs.YbyabwGreat
