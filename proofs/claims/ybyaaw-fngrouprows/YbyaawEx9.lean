/- Walk: impl.Project -/
import Derived.Test.YbyaawEx8
namespace Go.Proofs.Ybyaaw
open Go.RowKit
set_option maxRecDepth 100000
set_option linter.unusedVariables false
set_option linter.unusedSimpArgs false

def projL (code : List Nd) (f : Nat → List Int) (x : Nat) (sel : List Int) : List Int := sel.map (fun s => evX code (f s.toNat) x)
theorem projL_len (code : List Nd) (f : Nat → List Int) (x : Nat) (sel : List Int) : (projL code f x sel).length = sel.length := by simp [projL]
theorem projL_at (code : List Nd) (f : Nat → List Int) (x : Nat) (sel : List Int) (j : Nat) (h : j < sel.length) : (projL code f x sel).getD j 0 = evX code (f (sel.getD j 0).toNat) x := by
  simp [projL, h]
def PjOK (p : Pl) (k n : Nat) (root : Int) (sel : List Int) : Prop := costV p k n = true ∧ 0 ≤ root ∧ root < p.code.length ∧ SelOK sel n
def projV (p : Pl) (cs : List Col) (root : Int) (sel : List Int) : List Int := projL p.code (rowT cs) root.toNat sel
set_option maxHeartbeats 16000000 in
theorem Project (p : Pl) (ca ia ga a sa : Option Addr) (cc ic gc cap sc : Nat) (cs : List Col) (n : Nat) (root : Int) (sel : List Int) (w : World) (hp : Hid (PAt w p ca ia ga)) (hok : Hid (PlOK p)) (ht : Hid (ColsAt w a cs)) (hv : Hid (ValidT cs n)) (hnc : p.nc = cs.length) (hs : Hid (IntsAt w sa sel)) (hsl : sel.length ≤ 65537) :
    Calls Yaan.prog 59 #[.agg (plCells p ca ia ga cc ic gc).toArray, .int .i64 root, .agg #[.int .i64 n, .slice a cs.length cap], .slice sa sel.length sc] w (RetVI (PjOK p cs.length n root sel) 2 (projV p cs root sel) w) := by
  have hlen := hide hp.out.len
  have hcode := hide hp.out.code
  have hwf := hide hok.out.wf
  obtain ⟨nc, code, wh, its, gr, li, ag⟩ := p
  simp only at hnc
  replace hnc := hide hnc
  have hl3 : cs.length ≤ 256 := hv.out.2.2.1
  have hn2 : n ≤ 65536 := by have := hv.out.2.1; omega
  have hlc : code.length ≤ 65536 := hlen.out.lc
  have hwfk : Hid (WfA code cs.length) := by have := hwf.out; simp only at this; rw [hnc.out] at this; exact this
  have hB1 : Hid (Blk ((w.alloc (.cells #[.int .i64 nc, .slice ca code.length cc, .int .i64 wh, .slice ia its.length ic, .slice ga gr.length gc, .int .i64 li, .bool ag] 81)).alloc (.cells #[.int .i64 n, .slice a cs.length cap] 66)) w.heap.size 81 [.int .i64 nc, .slice ca code.length cc, .int .i64 wh, .slice ia its.length ic, .slice ga gr.length gc, .int .i64 li, .bool ag]) := (Blk.new w _ _).alloc _
  have hB2 : Hid (Blk ((w.alloc (.cells #[.int .i64 nc, .slice ca code.length cc, .int .i64 wh, .slice ia its.length ic, .slice ga gr.length gc, .int .i64 li, .bool ag] 81)).alloc (.cells #[.int .i64 n, .slice a cs.length cap] 66)) (w.heap.size + 1) 66 [.int .i64 n, .slice a cs.length cap]) := by
    have := Blk.new (w.alloc (.cells #[.int .i64 nc, .slice ca code.length cc, .int .i64 wh, .slice ia its.length ic, .slice ga gr.length gc, .int .i64 li, .bool ag] 81)) #[.int .i64 n, .slice a cs.length cap] 66
    rw [show (w.alloc (.cells #[.int .i64 nc, .slice ca code.length cc, .int .i64 wh, .slice ia its.length ic, .slice ga gr.length gc, .int .i64 li, .bool ag] 81)).heap.size = w.heap.size + 1 by simp] at this
    exact this
  have hX : Hid (Ext w ((w.alloc (.cells #[.int .i64 nc, .slice ca code.length cc, .int .i64 wh, .slice ia its.length ic, .slice ga gr.length gc, .int .i64 li, .bool ag] 81)).alloc (.cells #[.int .i64 n, .slice a cs.length cap] 66))) := ((Ext.refl w).alloc _).alloc _
  simp only [plCells]
  go_enter Yaan.func59, Yaan.ntmps59
  go_wp2_with fail
  generalize ((w.alloc (.cells #[.int .i64 nc, .slice ca code.length cc, .int .i64 wh, .slice ia its.length ic, .slice ga gr.length gc, .int .i64 li, .bool ag] 81)).alloc (.cells #[.int .i64 n, .slice a cs.length cap] 66)) = W at *
  refine (baseOK_yes ⟨nc, code, wh, its, gr, li, ag⟩ ca ia ga a cc ic gc cap cs n W (hp.out.ext hX.out) hok (ht.out.ext hX.out) hv hnc.out).mono ?_
  rintro e w1 ⟨rfl, x1⟩
  have X1 : Hid (Ext w w1) := hX.out.trans x1
  replace hB1 := hide (hB1.out.ext x1)
  replace hB2 := hide (hB2.out.ext x1)
  clear x1 hX
  obtain ⟨V, hV⟩ : ∃ V, Hid (costV ⟨nc, code, wh, its, gr, li, ag⟩ cs.length n = V) := ⟨_, rfl⟩
  rw [hV.out]
  cases V with
  | false =>
    dsimp only
    go_wp2
    go_ret2
    exact .inr ⟨fun hh => (by have h1 := hh.1; rw [hV.out] at h1; cases h1), rfl, X1.out⟩
  | true =>
  by_cases hr0 : root < 0
  · have hr0b : decide (root < 0) = true := by simp [hr0]
    dsimp only
    go_wp2
    go_ret2
    exact .inr ⟨fun hh => by have := hh.2.1; omega, rfl, X1.out⟩
  have hr0b : decide (root < 0) = false := by simp; omega
  have q1 := hB1.out.box 1 _ rfl
  by_cases hr1 : (code.length : Int) ≤ root
  · have hr1b : decide ((code.length : Int) ≤ root) = true := by simp [hr1]
    dsimp only
    go_wp2
    go_ret2
    exact .inr ⟨fun hh => by have := hh.2.2.1; simp only at this; omega, rfl, X1.out⟩
  have hr1b : decide ((code.length : Int) ≤ root) = false := by simp; omega
  obtain ⟨x, hx⟩ : ∃ x : Nat, root = (x : Int) := ⟨root.toNat, by omega⟩
  have hxl : x < code.length := by omega
  subst hx
  have t0 := hB2.out.box 0 _ rfl
  have t1 := hB2.out.box 1 _ rfl
  dsimp only
  go_wp2_with fail
  refine (selOK_impl sel sa sc n w1 (hs.out.ext X1.out) (by omega)).mono ?_
  rintro e w2 ⟨bz, rfl, hbz, x2⟩
  have X2 : Hid (Ext w w2) := X1.out.trans x2
  replace hB1 := hide (hB1.out.ext x2)
  replace hB2 := hide (hB2.out.ext x2)
  replace hbz := hide hbz
  clear x2 q1 t0 t1 X1
  cases bz with
  | false =>
    dsimp only
    go_wp2
    go_ret2
    exact .inr ⟨fun hh => absurd (hbz.out.2 hh.2.2.2) (by decide), rfl, X2.out⟩
  | true =>
  have hsel : Hid (SelOK sel n) := hbz.out.1 rfl
  have hcond : Hid (PjOK ⟨nc, code, wh, its, gr, li, ag⟩ cs.length n (x : Int) sel) := ⟨hV.out, by omega, by simp only; omega, hsel.out⟩
  have hpl : Hid (projV ⟨nc, code, wh, its, gr, li, ag⟩ cs (x : Int) sel = projL code (rowT cs) x sel) := by show _ = _; unfold projV; rw [Int.toNat_natCast]
  clear hbz hr0 hr1 hr0b hr1b
  have t0 := hB2.out.box 0 _ rfl
  have t1 := hB2.out.box 1 _ rfl
  dsimp only
  go_wp2_with fail
  refine (decodeAll cs n a cap w2 (ht.out.ext X2.out) hv).mono ?_
  rintro e w3 ⟨ra, rc, rfl, hr, x3⟩
  have X3 : Hid (Ext w w3) := X2.out.trans x3
  have hB3 := hide (hB1.out.ext x3)
  have hr3 := hide hr
  clear x3 hr t0 t1 hB1 hB2 X2
  obtain ⟨O, hO⟩ : ∃ O, Hid (O = w3.heap.size) := ⟨_, rfl⟩
  obtain ⟨W3, hW3⟩ : ∃ W3, W3 = w3 := ⟨_, rfl⟩
  rw [← hW3] at X3 hB3 hr3 hO
  rw [← hW3]
  clear hW3
  go_wp2_with (first | (at_make; refine mk_i64 rfl rfl sel.length rfl rfl (by omega) O hO.out.symm ?_; intro w4 O4 x4 z4; have hX4 : Hid (Ext W3 w4) := x4; have hO4 := hide O4; have hz4 := hide z4; clear x4 O4 z4) | (at_make; refine mk_i64 rfl rfl cs.length rfl rfl (by omega) (O + 1) hz4.out ?_; intro w5 O5 x5 z5; have hX5 : Hid (Ext W3 w5) := hX4.out.trans x5; have hO5 := hide (OwnI.ext hO4.out x5); have hR5 := hide O5; have hz5 := hide z5; clear x5 O5 z5 hX4 hO4) | (at_make; refine mk_i64 rfl rfl (x + 1) (by rfl) (by rfl) (by omega) (O + 1 + 1) hz5.out ?_; intro w6 O6 x6 z6; have hX6 : Hid (Ext W3 w6) := hX5.out.trans x6; have hO6 := hide (OwnI.ext hO5.out x6); have hR6 := hide (OwnI.ext hR5.out x6); have hV6 := hide O6; clear x6 O6 z6 hX5 hO5 hR5))
  obtain ⟨R, hR⟩ : ∃ R, O + 1 = R := ⟨_, rfl⟩
  obtain ⟨V, hVV⟩ : ∃ V, R + 1 = V := ⟨_, rfl⟩
  rw [hR, hVV] at hV6
  rw [hR] at hR6
  simp only [hR, hVV]
  have hOR : O ≠ R := by omega
  have hOV : O ≠ V := by omega
  have hRV : R ≠ V := by omega
  have hOw := hO.out
  have hRo := hide (OwnI.mono hR6.out (show W3.heap.size ≤ R by omega))
  have hVo := hide (OwnI.mono hV6.out (show W3.heap.size ≤ V by omega))
  have hOo := hide (OwnI.mono hO6.out (show W3.heap.size ≤ O by omega))
  have hgR : W3.heap.size ≤ R := by omega
  have hgV : W3.heap.size ≤ V := by omega
  have hgO : W3.heap.size ≤ O := by omega
  clear hz4 hz5 hR hVV hR6 hV6 hO6 hO hOw
  obtain ⟨PJ, hPJ⟩ : ∃ P, Hid (projL code (rowT cs) x sel = P) := ⟨_, rfl⟩
  have hPl : PJ.length = sel.length := by rw [← hPJ.out]; exact projL_len _ _ _ _
  have hPa : Hid (∀ j, j < sel.length → PJ.getD j 0 = evX code (rowT cs (sel.getD j 0).toNat) x) := fun j hj => by rw [← hPJ.out]; exact projL_at _ _ _ _ _ hj
  go_loopw [14] (fun i wr => ∃ (j : Nat) (yr yv : List Int), i = .int .i64 j ∧ j ≤ sel.length ∧ Hid (OwnI wr W3.heap.size 2 (.slice (some ⟨O, 0, none⟩) sel.length sel.length) (mixR PJ (List.replicate sel.length 0) j)) ∧ Hid (OwnI wr W3.heap.size 2 (.slice (some ⟨R, 0, none⟩) cs.length cs.length) yr) ∧ Hid (yr.length = cs.length) ∧ Hid (OwnI wr W3.heap.size 2 (.slice (some ⟨V, 0, none⟩) (x + 1) (x + 1)) yv) ∧ Hid (yv.length = x + 1) ∧ Hid (Ext W3 wr)) (fun i _ => sel.length - (intOf i).toNat)
  case atStart => exact ⟨0, _, _, rfl, Nat.zero_le _, by rw [mixR_zero]; exact hOo, hRo, by simp [Hid], hVo, by simp [Hid], hX6⟩
  clear hOo hRo hVo hX6
  obtain ⟨j, yr, yv, rfl, hj, hOo, hRo, hyr, hVo, hyv, hXr⟩ := hrel
  have hml : Hid ((mixR PJ (List.replicate sel.length 0) j).length = sel.length) := by show _ = _; rw [mixR_len _ _ _ (by simp [hPl])]; simp
  by_cases hlt : j < sel.length
  · have hlt' : (j : Int) < sel.length := by omega
    have hsj := hsel.out j hlt
    obtain ⟨b, off, rfl, c1⟩ := (hs.out.ext (X3.out.trans hXr.out)) j hlt
    have hset := hide (mixR_set PJ (List.replicate sel.length 0) j (by simp [hPl]) (by omega))
    rw [hPa.out j hlt] at hset
    obtain ⟨r, hr9⟩ : ∃ r : Nat, Hid (sel.getD j 0 = (r : Int)) := ⟨(sel.getD j 0).toNat, by have := hsj.1; show _ = _; omega⟩
    have hrn : r < n := by have h1 := hsj.2.1; have := hr9.out; omega
    rw [hr9.out] at c1
    rw [hr9.out, Int.toNat_natCast] at hset
    clear hsj
    go_wp2_with fail
    refine (rowOf (colF cs) cs.length r (r : Int) rfl ra rc R cs.length yr W3 wr hXr hr3 (fun i hi => by rw [colF_len hv.out hi]; exact ⟨hrn, hn2⟩) hl3 hRo hyr.out).mono ?_
    rintro e v1 ⟨rfl, oR, b1⟩
    rw [rowAt_T] at oR
    have hO1 := hide (hOo.out.butS b1 (fun q hq hh => by cases hq; exact hOR hh))
    have hV1 := hide (hVo.out.butS b1 (fun q hq hh => by cases hq; exact hRV hh.symm))
    have hX1 : Hid (Ext W3 v1) := Below.trans hXr.out (b1.below (fun q hq => by omega) hXr.out.size)
    have hri := hide oR.ints
    have hrl : Hid ((rowT cs r).length = cs.length) := rowT_len cs r
    obtain ⟨row, hrow⟩ : ∃ row, Hid (rowT cs r = row) := ⟨_, rfl⟩
    rw [hrow.out] at oR hri hrl hset
    have oR1 := hide oR
    have har : Hid (∀ p, (some ⟨R, 0, none⟩ : Option Addr) = some p → p.block ≠ V) := fun p hp => by cases hp; exact hRV
    have hev := evalIntoK code row yv ca (some ⟨R, 0, none⟩) cc cs.length V (x + 1) x W3 v1 hX1 (hcode.out.ext X3.out) hri har (by rw [hyv.out]; exact hV1) (by omega) (by rw [hrl.out]; omega) (by rw [hyv.out]; omega) hxl (by rw [hyv.out]; omega) (fun i hi => by rw [hrl.out]; exact hwfk.out i (by omega))
    rw [hrl.out, hyv.out] at hev
    replace hev := hide hev
    clear b1 oR hOo hRo hVo hyr c1
    have q1 := (hB3.out.ext hX1.out).box 1 _ rfl
    go_wp2_with fail
    refine hev.out.mono ?_
    rintro e v2 ⟨rfl, oV, b2⟩
    have hO2 := hide (hO1.out.butS b2 (fun q hq hh => by cases hq; exact hOV hh))
    have hR2 := hide (oR1.out.butS b2 (fun q hq hh => by cases hq; exact hRV hh))
    have hX2 : Hid (Ext W3 v2) := Below.trans hX1.out (b2.below (fun q hq => by omega) hX1.out.size)
    have hml2 : Hid ((mixTo code row yv (x + 1)).length = x + 1) := by show _ = _; rw [mixTo_len _ _ _ _ (by rw [hyv.out]; omega), hyv.out]
    have cv := oV.cellAt x (by rw [hml2.out]; omega)
    rw [mixTo_below _ _ _ _ _ (by omega), evTo_get] at cv
    obtain ⟨Z, hZ⟩ : ∃ Z, Hid (evX code row x = Z) := ⟨_, rfl⟩
    rw [hZ.out] at cv hset
    obtain ⟨yv2, hyv2⟩ : ∃ y, Hid (mixTo code row yv (x + 1) = y) := ⟨_, rfl⟩
    rw [hyv2.out] at oV hml2
    have oV2 := hide oV
    clear b2 oV q1 hO1 hV1 hX1 oR1 hev
    have hxx : (x : Int) < (x : Int) + 1 := by omega
    go_wp2_with (refine wpList_stI (g := O) (i := j) rfl rfl (by rfl) (by rfl) hO2.out hml.out.symm (by rw [hml.out]; exact hlt) size_int64 ?_; intro w7 hU7 hg7; have hO7 := hide (hU7.congr hset.out); have hb7 : But (fun q => q = O) v2 w7 := But.of_grown hg7 (fun q hq => by cases hq; rfl); have hR7 := hide (hR2.out.butS hb7 (fun q hq hh => by cases hq; exact hOR hh.symm)); have hV7 := hide (oV2.out.butS hb7 (fun q hq hh => by cases hq; exact hOV hh.symm)); have hX7 : Hid (Ext W3 w7) := Below.trans hX2.out (hb7.below (fun q hq => by omega) hX2.out.size); clear hU7 hg7 hb7)
    go_roundw
    case rel => exact ⟨j + 1, _, _, by go_num, by omega, hO7.out, hR7.out, hrl.out, hV7.out, hml2.out, hX7.out⟩
    case measure => simp [intOf]; omega
  · have hlt' : ¬ (j : Int) < sel.length := by omega
    have hfin : Hid (mixR PJ (List.replicate sel.length 0) j = PJ) := by
      obtain rfl : j = sel.length := by omega
      have := mixR_all PJ (List.replicate sel.length 0) (by simp [hPl])
      rw [hPl] at this
      exact this
    have hO2 := hide (hOo.out.congr hfin.out)
    go_wp2
    go_ret2
    refine .inl ⟨hcond.out, some ⟨O, 0, none⟩, sel.length, ?_, ?_, X3.out.trans hXr.out⟩
    · rw [hpl.out, hPJ.out, hPl]; rfl
    · rw [hpl.out, hPJ.out, hPl]
      exact OwnI.mono hO2.out X3.out.size
set_option maxHeartbeats 16000000 in
theorem RefProject (p : Pl) (ca ia ga a sa : Option Addr) (cc ic gc cap sc : Nat) (cs : List Col) (n : Nat) (root : Int) (sel : List Int) (w : World) (hp : Hid (PAt w p ca ia ga)) (hok : Hid (PlOK p)) (ht : Hid (ColsAt w a cs)) (hv : Hid (ValidT cs n)) (hnc : p.nc = cs.length) (hs : Hid (IntsAt w sa sel)) (hsl : sel.length ≤ 65537) :
    Calls Yaan.prog 60 #[.agg (plCells p ca ia ga cc ic gc).toArray, .int .i64 root, .agg #[.int .i64 n, .slice a cs.length cap], .slice sa sel.length sc] w (RetVI (PjOK p cs.length n root sel) 2 (projV p cs root sel) w) := by
  have hlen := hide hp.out.len
  have hcode := hide hp.out.code
  have hwf := hide hok.out.wf
  obtain ⟨nc, code, wh, its, gr, li, ag⟩ := p
  simp only at hnc
  replace hnc := hide hnc
  have hl3 : cs.length ≤ 256 := hv.out.2.2.1
  have hn2 : n ≤ 65536 := by have := hv.out.2.1; omega
  have hlc : code.length ≤ 65536 := hlen.out.lc
  have hwfk : Hid (WfA code cs.length) := by have := hwf.out; simp only at this; rw [hnc.out] at this; exact this
  have hB1 : Hid (Blk ((w.alloc (.cells #[.int .i64 nc, .slice ca code.length cc, .int .i64 wh, .slice ia its.length ic, .slice ga gr.length gc, .int .i64 li, .bool ag] 81)).alloc (.cells #[.int .i64 n, .slice a cs.length cap] 66)) w.heap.size 81 [.int .i64 nc, .slice ca code.length cc, .int .i64 wh, .slice ia its.length ic, .slice ga gr.length gc, .int .i64 li, .bool ag]) := (Blk.new w _ _).alloc _
  have hB2 : Hid (Blk ((w.alloc (.cells #[.int .i64 nc, .slice ca code.length cc, .int .i64 wh, .slice ia its.length ic, .slice ga gr.length gc, .int .i64 li, .bool ag] 81)).alloc (.cells #[.int .i64 n, .slice a cs.length cap] 66)) (w.heap.size + 1) 66 [.int .i64 n, .slice a cs.length cap]) := by
    have := Blk.new (w.alloc (.cells #[.int .i64 nc, .slice ca code.length cc, .int .i64 wh, .slice ia its.length ic, .slice ga gr.length gc, .int .i64 li, .bool ag] 81)) #[.int .i64 n, .slice a cs.length cap] 66
    rw [show (w.alloc (.cells #[.int .i64 nc, .slice ca code.length cc, .int .i64 wh, .slice ia its.length ic, .slice ga gr.length gc, .int .i64 li, .bool ag] 81)).heap.size = w.heap.size + 1 by simp] at this
    exact this
  have hX : Hid (Ext w ((w.alloc (.cells #[.int .i64 nc, .slice ca code.length cc, .int .i64 wh, .slice ia its.length ic, .slice ga gr.length gc, .int .i64 li, .bool ag] 81)).alloc (.cells #[.int .i64 n, .slice a cs.length cap] 66))) := ((Ext.refl w).alloc _).alloc _
  simp only [plCells]
  go_enter Yaan.func60, Yaan.ntmps60
  go_wp2_with fail
  generalize ((w.alloc (.cells #[.int .i64 nc, .slice ca code.length cc, .int .i64 wh, .slice ia its.length ic, .slice ga gr.length gc, .int .i64 li, .bool ag] 81)).alloc (.cells #[.int .i64 n, .slice a cs.length cap] 66)) = W at *
  refine (planTableOK_yes ⟨nc, code, wh, its, gr, li, ag⟩ ca ia ga a cc ic gc cap cs n W (hp.out.ext hX.out) hok (ht.out.ext hX.out) hv hnc.out).mono ?_
  rintro e w1 ⟨rfl, x1⟩
  have X1 : Hid (Ext w w1) := hX.out.trans x1
  replace hB1 := hide (hB1.out.ext x1)
  replace hB2 := hide (hB2.out.ext x1)
  clear x1 hX
  obtain ⟨V, hV⟩ : ∃ V, Hid (costV ⟨nc, code, wh, its, gr, li, ag⟩ cs.length n = V) := ⟨_, rfl⟩
  rw [hV.out]
  cases V with
  | false =>
    dsimp only
    go_wp2
    go_ret2
    exact .inr ⟨fun hh => (by have h1 := hh.1; rw [hV.out] at h1; cases h1), rfl, X1.out⟩
  | true =>
  by_cases hr0 : root < 0
  · have hr0b : decide (root < 0) = true := by simp [hr0]
    dsimp only
    go_wp2
    go_ret2
    exact .inr ⟨fun hh => by have := hh.2.1; omega, rfl, X1.out⟩
  have hr0b : decide (root < 0) = false := by simp; omega
  have q1 := hB1.out.box 1 _ rfl
  by_cases hr1 : (code.length : Int) ≤ root
  · have hr1b : decide ((code.length : Int) ≤ root) = true := by simp [hr1]
    dsimp only
    go_wp2
    go_ret2
    exact .inr ⟨fun hh => by have := hh.2.2.1; simp only at this; omega, rfl, X1.out⟩
  have hr1b : decide ((code.length : Int) ≤ root) = false := by simp; omega
  obtain ⟨x, hx⟩ : ∃ x : Nat, root = (x : Int) := ⟨root.toNat, by omega⟩
  have hxl : x < code.length := by omega
  subst hx
  have t0 := hB2.out.box 0 _ rfl
  have t1 := hB2.out.box 1 _ rfl
  dsimp only
  go_wp2_with fail
  refine (selOK_spec sel sa sc n w1 (hs.out.ext X1.out) (by omega)).mono ?_
  rintro e w2 ⟨bz, rfl, hbz, x2⟩
  have X2 : Hid (Ext w w2) := X1.out.trans x2
  replace hB1 := hide (hB1.out.ext x2)
  replace hB2 := hide (hB2.out.ext x2)
  replace hbz := hide hbz
  clear x2 q1 t0 t1 X1
  cases bz with
  | false =>
    dsimp only
    go_wp2
    go_ret2
    exact .inr ⟨fun hh => absurd (hbz.out.2 hh.2.2.2) (by decide), rfl, X2.out⟩
  | true =>
  have hsel : Hid (SelOK sel n) := hbz.out.1 rfl
  have hcond : Hid (PjOK ⟨nc, code, wh, its, gr, li, ag⟩ cs.length n (x : Int) sel) := ⟨hV.out, by omega, by simp only; omega, hsel.out⟩
  have hpl : Hid (projV ⟨nc, code, wh, its, gr, li, ag⟩ cs (x : Int) sel = projL code (rowT cs) x sel) := by show _ = _; unfold projV; rw [Int.toNat_natCast]
  clear hbz hr0 hr1 hr0b hr1b
  have t0 := hB2.out.box 0 _ rfl
  have t1 := hB2.out.box 1 _ rfl
  dsimp only
  go_wp2_with fail
  refine (RefDecodeTable_yes cs n a cap w2 (ht.out.ext X2.out) hl3 hn2 hv).mono ?_
  rintro e w3 ⟨ra, rc, rfl, hr, x3⟩
  have X3 : Hid (Ext w w3) := X2.out.trans x3
  have hB3 := hide (hB1.out.ext x3)
  have hr3 := hide hr
  clear x3 hr t0 t1 hB1 hB2 X2
  obtain ⟨W3, hW3⟩ : ∃ W3, W3 = w3 := ⟨_, rfl⟩
  rw [← hW3] at X3 hB3 hr3
  rw [← hW3]
  clear hW3
  obtain ⟨PJ, hPJ⟩ : ∃ P, Hid (projL code (rowT cs) x sel = P) := ⟨_, rfl⟩
  have hPl : PJ.length = sel.length := by rw [← hPJ.out]; exact projL_len _ _ _ _
  have hPa : Hid (∀ j, j < sel.length → PJ.getD j 0 = evX code (rowT cs (sel.getD j 0).toNat) x) := fun j hj => by rw [← hPJ.out]; exact projL_at _ _ _ _ _ hj
  go_wp2_with fail
  go_loopw [12, 13] (fun v i wr => ∃ (j : Nat), i = .int .i64 j ∧ j ≤ sel.length ∧ Hid (OwnI wr W3.heap.size 2 v (PJ.take j)) ∧ Hid (Ext W3 wr)) (fun _ i _ => sel.length - (intOf i).toNat)
  case atStart => exact ⟨0, rfl, Nat.zero_le _, OwnI.nil _ _ _, Ext.refl W3⟩
  obtain ⟨j, rfl, hj, hO, hXr⟩ := hrel
  by_cases hlt : j < sel.length
  · have hlt' : (j : Int) < sel.length := by omega
    have hsj := hsel.out j hlt
    obtain ⟨b, off, rfl, c1⟩ := (hs.out.ext (X3.out.trans hXr.out)) j hlt
    have htk := hide (take_snoc_I PJ j (by omega))
    rw [hPa.out j hlt] at htk
    obtain ⟨r, hr9⟩ : ∃ r : Nat, Hid (sel.getD j 0 = (r : Int)) := ⟨(sel.getD j 0).toNat, by have := hsj.1; show _ = _; omega⟩
    have hrn : r < n := by have h1 := hsj.2.1; have := hr9.out; omega
    have hrn' : (r : Int) < n := by omega
    rw [hr9.out] at c1
    rw [hr9.out, Int.toNat_natCast] at htk
    clear hsj
    obtain ⟨b2, off2, r', rc', hra, hc, hri⟩ := (hr3.out.ext hXr.out) r hrn
    subst hra
    have hrl : Hid ((rowT cs r).length = cs.length) := rowT_len cs r
    have hln : Hid ((PJ.take j).length < 2 ^ 39) := by show _ < _; simp; omega
    obtain ⟨row, hrow⟩ : ∃ row, Hid (rowT cs r = row) := ⟨_, rfl⟩
    rw [hrow.out] at hrl htk hc hri
    replace hri := hide hri
    obtain ⟨ps, hps⟩ : ∃ ps, Hid (PJ.take j = ps) := ⟨_, rfl⟩
    rw [hps.out] at hO htk hln
    have q1 := (hB3.out.ext hXr.out).box 1 _ rfl
    go_wp2_with fail
    refine Dr.region_text (by kernel_rfl) ?_
    go_wp2_with fail
    refine (evalOn code row ca r' cc rc' x (x : Int) rfl wr.drew (hcode.out.ext (X3.out.trans hXr.out).drew) (hri.out.ext (Ext.refl wr).drew) (by omega) (by rw [hrl.out]; omega) (by rw [hrl.out]; exact hwfk) hxl).mono ?_
    rintro e v2 ⟨rfl, xv⟩
    have hXv : Hid (Ext W3 v2) := hXr.out.drew.trans xv
    have hOv := hide (OwnI.ext hO.out ((Ext.refl wr).drew.trans xv))
    clear xv q1 hc c1
    obtain ⟨Z, hZ⟩ : ∃ Z, Hid (evX code row x = Z) := ⟨_, rfl⟩
    rw [hZ.out] at htk ⊢
    have hX3 : Hid (Ext W3 (v2.alloc (.cells #[.int .i64 Z] 2))) := hXv.out.alloc _
    have hG3 := hide (OwnI.alloc hOv.out (.cells #[.int .i64 Z] 2))
    have hblk := hide (heap_alloc_new v2 (.cells #[.int .i64 Z] 2))
    go_wp2_with (at_builtin; refine app_i64 rfl rfl W3.heap.size hX3.out.size _ ps Z rfl hG3.out v2.heap.size 1 (by rfl) hblk.out hln.out ?_; intro g7 cap7 w7 O7 hgr7 hor7 hlt7; have hX7 : Hid (Ext W3 w7) := hX3.out.grown hgr7 (fun q hq => (World.ownsRow.lt hG3.out q hq).1); have hO7 := hide O7; clear O7 hgr7 hor7 hlt7)
    refine ⟨by rfl, ?_⟩
    go_wp2_with fail
    go_roundw
    case rel => exact ⟨j + 1, by go_num, by omega, by rw [htk.out]; exact hO7.out, hX7.out⟩
    case measure => simp [intOf]; omega
  · have hlt' : ¬ (j : Int) < sel.length := by omega
    have hfin : Hid (PJ.take j = PJ) := by show _ = _; rw [List.take_of_length_le (by omega)]
    rw [hfin.out] at hO
    obtain ⟨pa, pc, rfl, _⟩ := hO.out.form
    go_wp2
    go_ret2
    refine .inl ⟨hcond.out, pa, pc, ?_, ?_, X3.out.trans hXr.out⟩
    · rw [hpl.out, hPJ.out, hPl]; rfl
    · rw [hpl.out, hPJ.out]
      exact OwnI.mono hO.out X3.out.size
end Go.Proofs.Ybyaaw
