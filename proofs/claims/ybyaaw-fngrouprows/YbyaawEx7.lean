/- Walks: spec.RefSelect, the two selOK -/
import Derived.Test.YbyaawEx6
namespace Go.Proofs.Ybyaaw
open Go.RowKit
set_option maxRecDepth 100000
set_option linter.unusedVariables false
set_option linter.unusedSimpArgs false

set_option maxHeartbeats 8000000 in
theorem RefSelect (p : Pl) (ca ia ga a : Option Addr) (cc ic gc cap : Nat) (cs : List Col) (n : Nat) (w : World) (hp : Hid (PAt w p ca ia ga)) (hok : Hid (PlOK p)) (ht : Hid (ColsAt w a cs)) (hv : Hid (ValidT cs n)) (hnc : p.nc = cs.length) :
    Calls Yaan.prog 58 #[.agg (plCells p ca ia ga cc ic gc).toArray, .agg #[.int .i64 n, .slice a cs.length cap]] w (RetSel (costV p cs.length n) (slTo p (rowT cs) n) w) := by
  have hselS : Hid (∀ r, slTo p (rowT cs) (r + 1) = if selB p (rowT cs r) = true then slTo p (rowT cs) r ++ [(r : Int)] else slTo p (rowT cs) r) := fun r => rfl
  have hsl : Hid (∀ r, (slTo p (rowT cs) r).length ≤ r) := slTo_len p (rowT cs)
  have hsB : Hid (∀ row, selB p row = (decide (p.wh = -1) || (evX p.code row p.wh.toNat != 0))) := fun row => rfl
  have hwh := hide hok.out.wh
  have hwf := hide hok.out.wf
  have hlen := hide hp.out.len
  have hcode := hide hp.out.code
  obtain ⟨nc, code, wh, its, gr, li, ag⟩ := p
  simp only at hnc
  replace hnc := hide hnc
  have hl3 : cs.length ≤ 256 := hv.out.2.2.1
  have hn2 : n ≤ 65536 := by have := hv.out.2.1; omega
  have hlc : code.length ≤ 65536 := hlen.out.lc
  have hB1 : Hid (Blk ((w.alloc (.cells #[.int .i64 nc, .slice ca code.length cc, .int .i64 wh, .slice ia its.length ic, .slice ga gr.length gc, .int .i64 li, .bool ag] 81)).alloc (.cells #[.int .i64 n, .slice a cs.length cap] 66)) w.heap.size 81 [.int .i64 nc, .slice ca code.length cc, .int .i64 wh, .slice ia its.length ic, .slice ga gr.length gc, .int .i64 li, .bool ag]) := (Blk.new w _ _).alloc _
  have hB2 : Hid (Blk ((w.alloc (.cells #[.int .i64 nc, .slice ca code.length cc, .int .i64 wh, .slice ia its.length ic, .slice ga gr.length gc, .int .i64 li, .bool ag] 81)).alloc (.cells #[.int .i64 n, .slice a cs.length cap] 66)) (w.heap.size + 1) 66 [.int .i64 n, .slice a cs.length cap]) := by
    have := Blk.new (w.alloc (.cells #[.int .i64 nc, .slice ca code.length cc, .int .i64 wh, .slice ia its.length ic, .slice ga gr.length gc, .int .i64 li, .bool ag] 81)) #[.int .i64 n, .slice a cs.length cap] 66
    rw [show (w.alloc (.cells #[.int .i64 nc, .slice ca code.length cc, .int .i64 wh, .slice ia its.length ic, .slice ga gr.length gc, .int .i64 li, .bool ag] 81)).heap.size = w.heap.size + 1 by simp] at this
    exact this
  have hX : Hid (Ext w ((w.alloc (.cells #[.int .i64 nc, .slice ca code.length cc, .int .i64 wh, .slice ia its.length ic, .slice ga gr.length gc, .int .i64 li, .bool ag] 81)).alloc (.cells #[.int .i64 n, .slice a cs.length cap] 66))) := ((Ext.refl w).alloc _).alloc _
  simp only [plCells]
  go_enter Yaan.func58, Yaan.ntmps58
  go_wp2_with fail
  generalize ((w.alloc (.cells #[.int .i64 nc, .slice ca code.length cc, .int .i64 wh, .slice ia its.length ic, .slice ga gr.length gc, .int .i64 li, .bool ag] 81)).alloc (.cells #[.int .i64 n, .slice a cs.length cap] 66)) = W at *
  refine (planTableOK_yes ⟨nc, code, wh, its, gr, li, ag⟩ ca ia ga a cc ic gc cap cs n W (hp.out.ext hX.out) hok (ht.out.ext hX.out) hv hnc.out).mono ?_
  rintro e w1 ⟨rfl, x1⟩
  have X1 : Hid (Ext w w1) := hX.out.trans x1
  replace hB1 := hide (hB1.out.ext x1)
  replace hB2 := hide (hB2.out.ext x1)
  clear x1 hX
  obtain ⟨V, hV⟩ : ∃ V, Hid (costV ⟨nc, code, wh, its, gr, li, ag⟩ cs.length n = V) := ⟨_, rfl⟩
  rw [hV.out]
  cases V with
  | false =>
    go_wp2
    go_ret2
    exact .inr ⟨hV.out, rfl, X1.out⟩
  | true =>
    have t0 := hB2.out.box 0 _ rfl
    have t1 := hB2.out.box 1 _ rfl
    go_wp2_with fail
    refine (RefDecodeTable_yes cs n a cap w1 (ht.out.ext X1.out) hl3 hn2 hv).mono ?_
    rintro e w2 ⟨ra, rc, rfl, hr, x2⟩
    have X2 : Hid (Ext w w2) := X1.out.trans x2
    have hB12 := hide (hB1.out.ext x2)
    have hr2 := hide hr
    clear x2 hr t0 t1 hB1 hB2 X1
    obtain ⟨S, hS⟩ : ∃ S, Hid (slTo ⟨nc, code, wh, its, gr, li, ag⟩ (rowT cs) = S) := ⟨_, rfl⟩
    have hS0 : Hid (S 0 = []) := by show _ = _; rw [← hS.out]; rfl
    rw [hS.out] at hselS hsl
    (try simp only at hsB)
    (try simp only at hwh)
    (try simp only at hwf)
    go_wp2_with fail
    obtain ⟨W2, hW2⟩ : ∃ W2, W2 = w2 := ⟨_, rfl⟩
    rw [← hW2] at X2 hB12 hr2
    rw [← hW2]
    clear hW2
    go_loopw [8, 9] (fun v i wr => ∃ (r : Nat), i = .int .i64 r ∧ r ≤ n ∧ Hid (OwnI wr W2.heap.size 3 v (S r)) ∧ Hid (Ext W2 wr)) (fun _ i _ => n - (intOf i).toNat)
    case atStart => exact ⟨0, rfl, Nat.zero_le _, by rw [hS0.out]; exact OwnI.nil _ _ _, Ext.refl W2⟩
    obtain ⟨r, rfl, hrn, hO, hXW⟩ := hrel
    by_cases hlt : r < n
    · have hlt' : (r : Int) < n := by omega
      have hss := hide (hselS.out r)
      have hln : Hid ((S r).length < 2 ^ 39) := by have := hsl.out r; show _ < _; omega
      obtain ⟨b, off, r', rc', hra, hc, hri⟩ := (hr2.out.ext hXW.out) r hlt
      subst hra
      have hrl : Hid ((rowT cs r).length = cs.length) := rowT_len cs r
      obtain ⟨row, hrow⟩ : ∃ row, Hid (rowT cs r = row) := ⟨_, rfl⟩
      rw [hrow.out] at hss hrl hc hri
      replace hri := hide hri
      have hsb := hide (hsB.out row)
      have q1 := (hB12.out.ext hXW.out).box 1 _ rfl
      have q2 := (hB12.out.ext hXW.out).box 2 _ rfl
      have hcb := cell_lt hc
      simp only at hcb
      rcases hwh.out with hw | ⟨h0, h1⟩
      · have hwb : (wh == -1) = true := by simp [hw]
        have hSr : Hid (S (r + 1) = S r ++ [(r : Int)]) := by show _ = _; rw [hss.out, if_pos (by rw [hsb.out]; simp [hw])]
        replace hw := hide hw
        go_wp2_with fail
        refine Dr.region_text (by kernel_rfl) ?_
        go_wp2_with fail
        refine ⟨by rfl, ?_⟩
        have hX3 : Hid (Ext W2 (wr.drew.alloc (.cells #[.int .i64 (r : Int)] 3))) := hXW.out.drew.alloc _
        have hG3 := hide (OwnI.alloc (OwnI.drew hO.out) (.cells #[.int .i64 (r : Int)] 3))
        have hblk := hide (heap_alloc_new wr.drew (.cells #[.int .i64 (r : Int)] 3))
        go_wp2_with (at_builtin; refine app_int rfl rfl W2.heap.size hX3.out.size _ (S r) (r : Int) rfl hG3.out wr.heap.size 1 (by rfl) hblk.out hln.out ?_; intro g7 cap7 w7 O7 hgr7 hor7 hlt7; have hX7 : Hid (Ext W2 w7) := hX3.out.grown hgr7 (fun q hq => (World.ownsRow.lt hG3.out q hq).1); have hO7 := hide O7; clear O7 hgr7 hor7 hlt7)
        go_roundw
        case rel => exact ⟨r + 1, by go_num, by omega, by rw [hSr.out]; exact hO7.out, hX7.out⟩
        case measure => simp [intOf]; omega
      · have hwb : (wh == -1) = false := by simp; omega
        obtain ⟨x, hx⟩ : ∃ x : Nat, Hid (wh = (x : Int)) := ⟨wh.toNat, by show _ = _; omega⟩
        have hxl : x < code.length := by have := hx.out; omega
        have hsx : Hid (selB ⟨nc, code, wh, its, gr, li, ag⟩ row = (evX code row x != 0)) := by
          show _ = _
          rw [hsb.out, hx.out, Int.toNat_natCast, decide_eq_false (by omega), Bool.false_or]
        clear h0 h1
        go_wp2_with fail
        refine Dr.region_text (by kernel_rfl) ?_
        go_wp2_with fail
        refine (evalOn code row ca r' cc rc' x wh hx.out wr.drew (hcode.out.ext (X2.out.trans hXW.out).drew) (hri.out.ext (Ext.refl wr).drew) (by omega) (by rw [hrl.out]; omega) (by rw [hrl.out]; have := hwf.out; rw [hnc.out] at this; exact this) hxl).mono ?_
        rintro e v2 ⟨rfl, xv⟩
        have hXv : Hid (Ext W2 v2) := hXW.out.drew.trans xv
        have hOv := hide (OwnI.ext hO.out ((Ext.refl wr).drew.trans xv))
        clear xv q1 q2 hc
        obtain ⟨Z, hZ⟩ : ∃ Z, Hid (evX code row x = Z) := ⟨_, rfl⟩
        rw [hZ.out] at hsx ⊢
        by_cases hz : Z = 0
        · have hzb : (Z != 0) = false := by simp [hz]
          have hSr : Hid (S (r + 1) = S r) := by show _ = _; rw [hss.out, if_neg (by rw [hsx.out, hzb]; simp)]
          replace hz := hide hz
          dsimp only
          go_wp2_with fail
          refine ⟨by rfl, ?_⟩
          go_wp2_with fail
          go_roundw
          case rel => exact ⟨r + 1, by go_num, by omega, by rw [hSr.out]; exact hOv.out, hXv.out⟩
          case measure => simp [intOf]; omega
        · have hzb : (Z != 0) = true := by simp [hz]
          have hSr : Hid (S (r + 1) = S r ++ [(r : Int)]) := by show _ = _; rw [hss.out, if_pos (by rw [hsx.out, hzb])]
          replace hz := hide hz
          dsimp only
          go_wp2_with fail
          refine ⟨by rfl, ?_⟩
          have hX3 : Hid (Ext W2 (v2.alloc (.cells #[.int .i64 (r : Int)] 3))) := hXv.out.alloc _
          have hG3 := hide (OwnI.alloc hOv.out (.cells #[.int .i64 (r : Int)] 3))
          have hblk := hide (heap_alloc_new v2 (.cells #[.int .i64 (r : Int)] 3))
          go_wp2_with (at_builtin; refine app_int rfl rfl W2.heap.size hX3.out.size _ (S r) (r : Int) rfl hG3.out v2.heap.size 1 (by rfl) hblk.out hln.out ?_; intro g7 cap7 w7 O7 hgr7 hor7 hlt7; have hX7 : Hid (Ext W2 w7) := hX3.out.grown hgr7 (fun q hq => (World.ownsRow.lt hG3.out q hq).1); have hO7 := hide O7; clear O7 hgr7 hor7 hlt7)
          go_roundw
          case rel => exact ⟨r + 1, by go_num, by omega, by rw [hSr.out]; exact hO7.out, hX7.out⟩
          case measure => simp [intOf]; omega
    · have hlt' : ¬ (r : Int) < n := by omega
      obtain rfl : r = n := by omega
      obtain ⟨pa, pc, rfl, _⟩ := hO.out.form
      have hSn : Hid (slTo ⟨nc, code, wh, its, gr, li, ag⟩ (rowT cs) r = S r) := by show _ = _; rw [hS.out]
      clear hlt hrn
      go_wp2
      go_ret2
      exact .inl ⟨hV.out, pa, pc, by rw [hSn.out]; rfl, by rw [hSn.out]; exact OwnI.mono hO.out X2.out.size, X2.out.trans hXW.out⟩
end Go.Proofs.Ybyaaw
