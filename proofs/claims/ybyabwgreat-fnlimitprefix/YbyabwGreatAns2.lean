/- Walk: spec.answer with groups -/
import Derived.Test.YbyabwGreatAns1
import Derived.Deep.CutRange
namespace Go.Proofs.YbyabwGreat
open Go.RowKit
set_option maxRecDepth 100000
set_option linter.unusedVariables false
set_option linter.unusedSimpArgs false

def gKall (gr : List Int) (rows : Nat → List Int) (sel : List Int) : List (List Int) := if gr.length = 0 then [] else gKeys gr rows sel
theorem getD_mem_J (l : List Int) (i : Nat) (h : i < l.length) : l.getD i 0 ∈ l := by
  rw [List.getD_eq_getElem?_getD, List.getElem?_eq_getElem h]; exact List.getElem_mem h
theorem groupKeys_all (gr sel : List Int) (rows : Nat → List Int) (ra sa ga : Option Addr) (rc sc gc N k : Nat) (w : World) (hr : Hid (IRows w ra N rows)) (hrl : Hid (∀ i, i < N → (rows i).length = k)) (hs : Hid (IntsAt w sa sel)) (hsi : Hid (SelOK sel N)) (hg : Hid (IntsAt w ga gr)) (hgp : Hid (GrP k gr)) (hN : N ≤ 65536) (hk : k ≤ 256) (hm : sel.length ≤ 65536) (hgl : gr.length ≤ 65600) :
    Calls Yabn.prog 64 #[.slice ra N rc, .slice sa sel.length sc, .slice ga gr.length gc] w (RetGK (gKall gr rows sel) (gIds gr rows sel) w) := by
  by_cases h0 : gr.length = 0
  · have e1 : gKall gr rows sel = [] := by unfold gKall; rw [if_pos h0]
    rw [e1, gIds_nil rows sel gr h0, h0]
    exact groupKeys_nil ra sa ga rc sc gc N sel.length w hm
  · have e1 : gKall gr rows sel = gKeys gr rows sel := by unfold gKall; rw [if_neg h0]
    rw [e1]
    exact groupKeys gr sel rows ra sa ga rc sc gc N k w hr hrl hs (fun j hj => ⟨(hsi.out j hj).1, (hsi.out j hj).2.1⟩) hg (fun i hi => hgp.out _ (getD_mem_J gr i hi)) hN (by omega) hm hgl (by omega)
set_option maxHeartbeats 16000000 in
theorem answer_yes (p : Pl) (hag : p.ag = true) (na ia ga ra : Option Addr) (cn ci cg rc : Nat) (rows : Nat → List Int) (n k : Nat) (w : World)
    (hn : Hid (NodesAt w na p.code)) (hit : Hid (PairsAt w ia p.its)) (hgr : Hid (IntsAt w ga p.gr)) (hrw : Hid (IRows w ra n rows)) (hrl : Hid (∀ i, i < n → (rows i).length = k)) (hwf : Hid (WfA p.code k)) (hwh : WhP p.code.length p.wh) (hits : Hid (∀ it ∈ p.its, ItOK p.code.length it)) (hgp : Hid (GrP k p.gr)) (h1 : 1 ≤ p.its.length) (l1 : p.code.length ≤ 65536) (l2 : p.its.length ≤ 65536) (l3 : p.gr.length ≤ 65600) (hk : k ≤ 256) (hnn : n ≤ 65536) :
    Calls Yabn.prog 26 #[.slice na p.code.length cn, .int .i64 p.wh, .slice ia p.its.length ci, .slice ga p.gr.length cg, .int .i64 p.li, .bool p.ag, .slice ra n rc, .int .i64 k] w (RetAns p.its.length (run p rows n k) w) := by
  have hrun0 : run p rows n k = flC (grpV p rows (slTo p rows n) (gIds p.gr rows (slTo p rows n)) k) p.its.length (lim p.li (gNum p.gr rows (slTo p rows n))) := by
    unfold run runC runM
    rw [hag]
    simp only [if_true]
  obtain ⟨R, hRe⟩ : ∃ R, Hid (run p rows n k = R) := ⟨_, rfl⟩
  rw [hRe.out] at hrun0
  rw [hRe.out]
  clear hRe
  replace hrun0 := hide hrun0
  have hsl0 := slTo_len p rows
  obtain ⟨nc, nd, wh, its, gr, li, ag⟩ := p
  simp only at hn hit hgr hwf hwh hits hgp h1 l1 l2 l3 hag
  subst hag
  obtain ⟨S, hS⟩ : ∃ S, Hid (slTo ⟨nc, nd, wh, its, gr, li, true⟩ rows = S) := ⟨_, rfl⟩
  have hsl : Hid (∀ t, (S t).length ≤ t) := by show ∀ _, _; rw [← hS.out]; exact hsl0
  have hS0 : Hid (S 0 = []) := by show _ = _; rw [← hS.out]; rfl
  obtain ⟨F, hF⟩ : ∃ F, Hid (ivF ⟨nc, nd, wh, its, gr, li, true⟩ rows (S n) = F) := ⟨_, rfl⟩
  have hsb : Hid (∀ t, t < n → selB ⟨nc, nd, wh, its, gr, li, true⟩ (rows t) = true → S (t + 1) = S t ++ [(t : Int)] ∧ F (S t).length = itsV ⟨nc, nd, wh, its, gr, li, true⟩ (rows t)) := fun t ht hb => by
    rw [← hF.out, ← hS.out]
    refine ⟨slTo_yes hb, ?_⟩
    unfold ivF
    rw [slTo_at ht hb, Int.toNat_natCast]
  have hsn : Hid (∀ t, selB ⟨nc, nd, wh, its, gr, li, true⟩ (rows t) = false → S (t + 1) = S t) := fun t hb => by
    rw [← hS.out]
    exact slTo_no hb
  clear hsl0
  have hX0 : Hid (Ext w (w.alloc (.cells #[.int .i64 0, .slice none 0 0] 34))) := (Ext.refl w).alloc _
  have hB0 : Hid (Blk (w.alloc (.cells #[.int .i64 0, .slice none 0 0] 34)) w.heap.size 34 rsz) := Blk.new w _ _
  replace h1 := hide h1
  go_enter Yabn.func26, Yabn.ntmps26
  go_wp2_with fail
  generalize (w.alloc (.cells #[.int .i64 0, .slice none 0 0] 34)) = W at *
  go_loopw [17, 18, 19] (fun v u i wr => ∃ (t : Nat) (ss : List Value), i = .int .i64 t ∧ t ≤ n ∧ Hid (OwnI wr W.heap.size 3 v (S t)) ∧ Hid (wr.ownsRow W.heap.size 23 1 u (S t).length ss) ∧ Hid (RowsI wr W.heap.size ss F (S t).length) ∧ Hid (Ext W wr)) (fun _ _ i _ => n - (intOf i).toNat)
  case atStart => exact ⟨0, [], rfl, Nat.zero_le _, by rw [hS0.out]; exact OwnI.nil _ _ _, by rw [hS0.out]; exact World.ownsRow_nil _ _ _ _, fun j hj => by rw [hS0.out] at hj; simp at hj, Ext.refl W⟩
  obtain ⟨t, ss, rfl, ht, hO, hV, hR, hX⟩ := hrel
  by_cases hlt : t < n
  · have hlt' : (t : Int) < n := by omega
    obtain ⟨b0, o0, a0, c0, e0, cl0, in0⟩ := (hrw.out.ext (hX0.out.trans hX.out)) t hlt
    cases e0
    have hrl0 := hide (hrl.out t hlt)
    rw [hrl0.out] at cl0
    replace in0 := hide in0
    have hsbt := hide (hsb.out t hlt)
    have hsnt := hide (hsn.out t)
    have hoat := hide (itsV_at ⟨nc, nd, wh, its, gr, li, true⟩ (rows t))
    have holt := hide (itsV_len ⟨nc, nd, wh, its, gr, li, true⟩ (rows t))
    have hNr := hide (hn.out.ext (hX0.out.trans hX.out))
    go_wp2_with fail
    refine (nodeValues nd (rows t) na a0 cn c0 k wr hNr in0 (by omega) hrl0.out (by omega) hwf).mono ?_
    rintro e w1 ⟨va, vc, rfl, hU, x1⟩
    have hUl0 := evTo_len nd (rows t) nd.length
    have hUa0 : ∀ x, x < nd.length → (evTo nd (rows t) nd.length).getD x 0 = evX nd (rows t) x := fun x hx => evTo_at nd (rows t) nd.length x hx
    have hUi0 := hU.ints
    obtain ⟨U, hUe⟩ : ∃ U, Hid (evTo nd (rows t) nd.length = U) := ⟨_, rfl⟩
    rw [hUe.out] at hUl0 hUa0 hUi0
    have hlen9 : (evTo nd (rows t) nd.length).length = nd.length := by rw [hUe.out]; exact hUl0
    rw [hlen9]
    have hUl : Hid (U.length = nd.length) := hUl0
    have hUi : Hid (IntsAt w1 va U) := hUi0
    have hX1 : Hid (Ext W w1) := hX.out.trans x1
    have hXw : Hid (Ext w w1) := hX0.out.trans hX1.out
    replace x1 := hide x1
    obtain ⟨OT, hOT⟩ : ∃ OT, Hid (itsV ⟨nc, nd, wh, its, gr, li, true⟩ (rows t) = OT) := ⟨_, rfl⟩
    rw [hOT.out] at hsbt hoat holt
    have hOl : Hid (OT.length = its.length) := holt.out
    have hOa : Hid (∀ j, j < its.length → OT.getD j 0 = if (its.getD j (0, 0)).2 < 0 then 0 else U.getD (its.getD j (0, 0)).2.toNat 0) := fun j hj => by
      rw [hoat.out j hj]
      unfold itV
      simp only
      by_cases hneg : (its.getD j (0, 0)).2 < 0
      · rw [if_pos hneg, if_pos hneg]
      · rw [if_neg hneg, if_neg hneg]
        have := hits.out _ (getD_mem_it its j hj)
        obtain ⟨_, _, h⟩ := this
        rw [hUa0 _ (by omega)]
    clear hUl0 hUi0 hU hlen9 hoat holt cl0
    rcases hwh with hw | ⟨hw0, hw1⟩
    · have hwb : (wh != -1) = false := by simp [hw]
      have hsel : selB ⟨nc, nd, wh, its, gr, li, true⟩ (rows t) = true := by unfold selB; simp [hw]
      have hst : Hid (S (t + 1) = S t ++ [(t : Int)]) := (hsbt.out hsel).1
      have hFt : Hid (F (S t).length = OT) := (hsbt.out hsel).2
      replace hw := hide hw
      clear hsel hUa0 hsbt hsnt hS hF hsb hsn
      as_aux_lemma =>
        go_wp2_with (at_make; refine mk_i64 rfl rfl its.length rfl rfl (by omega) w1.heap.size rfl ?_; intro w2 O2 x2 z2; replace O2 := hide O2; replace x2 := hide x2)
        go_loopw [22] (fun i wr => ∃ j : Nat, i = .int .i64 j ∧ j ≤ its.length ∧ Hid (OwnI wr w1.heap.size 2 (.slice (some ⟨w1.heap.size, 0, none⟩) its.length its.length) (mixR OT (List.replicate its.length 0) j)) ∧ Hid (Ext w1 wr)) (fun i _ => its.length - (intOf i).toNat)
        case atStart => exact ⟨0, rfl, Nat.zero_le _, by rw [mixR_zero]; exact O2, x2⟩
        clear O2 x2 z2
        obtain ⟨j, rfl, hj, hOn, hE1⟩ := hrel
        have hml : Hid ((mixR OT (List.replicate its.length 0) j).length = its.length) := by show _ = _; rw [mixR_len _ _ _ (by simp [hOl.out])]; simp
        by_cases hjl : j < its.length
        · have hjl' : (j : Int) < its.length := by omega
          obtain ⟨b3, o3, e3, g1, g2⟩ := (hit.out.ext (hXw.out.trans hE1.out)) j hjl
          have hitj := hits.out _ (getD_mem_it its j hjl)
          have hoa := hOa.out j hjl
          have hset := mixR_set OT (List.replicate its.length 0) j (by simp [hOl.out]) (by rw [hOl.out]; exact hjl)
          generalize its.getD j (0, 0) = itj at *
          obtain ⟨A, E⟩ := itj
          simp only at g1 g2 hoa
          obtain ⟨_, _, hite⟩ := hitj
          simp only at hite
          cases e3
          by_cases hE0 : 0 ≤ E
          · obtain ⟨x, rfl⟩ := Int.eq_ofNat_of_zero_le hE0
            have hx9 : x < nd.length := by omega
            rw [if_neg (by omega), Int.toNat_natCast] at hoa
            rw [hoa] at hset
            replace hset := hide hset
            obtain ⟨b4, o4, e4, c4⟩ := (hUi.out.ext hE1.out) x (by rw [hUl.out]; exact hx9)
            cases e4
            have hxu : (x : Int) < nd.length := by omega
            generalize U.getD x 0 = Y at *
            clear hite hoa g1
            go_wp2_with (refine wpList_stI (g := w1.heap.size) (i := j) (u := Y) rfl rfl (by rfl) (by rfl) hOn.out hml.out.symm (by rw [hml.out]; exact hjl) size_int64 ?_; intro w3 hU3 hg3; have hO9 := hide (hU3.congr hset.out); have hX9 : Hid (Ext w1 w3) := hE1.out.grown hg3 (fun q hq => by cases hq; exact Nat.le_refl _); clear hU3 hg3)
            go_roundw
            case rel => exact ⟨j + 1, by go_num, by omega, hO9.out, hX9.out⟩
            case measure => simp [intOf]; omega
          · rw [if_pos (by omega)] at hoa
            rw [hoa] at hset
            have hsk : Hid (mixR OT (List.replicate its.length 0) (j + 1) = mixR OT (List.replicate its.length 0) j) := by
              show _ = _
              rw [← hset]
              exact set_same_I _ _ _ (by rw [hml.out]; exact hjl) (by rw [mixR_ge _ _ _ (by simp [hOl.out]) (by simpa using hjl)]; simp [hjl])
            clear hset hite hoa g1
            go_wp2_with fail
            go_roundw
            case rel => exact ⟨j + 1, by go_num, by omega, by rw [hsk.out]; exact hOn.out, hE1.out⟩
            case measure => simp [intOf]; omega
        · have hjl' : ¬ (j : Int) < its.length := by omega
          obtain rfl : j = its.length := by omega
          have hfin : Hid (mixR OT (List.replicate its.length 0) its.length = OT) := by
            have := mixR_all OT (List.replicate its.length 0) (by simp [hOl.out])
            rw [hOl.out] at this
            exact this
          rw [hfin.out] at hOn
          clear hml hfin hjl hj
          have hO1 := hide (OwnI.ext hO.out (x1.out.trans hE1.out))
          have hV1 := hide (ownsRow_ext hV.out (x1.out.trans hE1.out))
          have hR1 := hide (hR.out.ext (x1.out.trans hE1.out))
          have hXr : Hid (Ext W wr) := hX1.out.trans hE1.out
          have hOn2 := hide (OwnI.mono hOn.out hX1.out.size)
          have hln : Hid ((S t).length < 2 ^ 39) := by have := hsl.out t; show _ < _; omega
          have hss : Hid (ss.length = (S t).length) := by have := hV1.out.1; show _ = _; omega
          obtain ⟨St, hSt⟩ : ∃ St, Hid (S t = St) := ⟨_, rfl⟩
          rw [hSt.out] at hO1 hV1 hR1 hln hss hst hFt
          clear hOn hO hV hR
          have hX3 : Hid (Ext wr (wr.alloc (.cells #[.int .i64 (t : Int)] 3))) := (Ext.refl _).alloc _
          have hG3 := hide (OwnI.ext hO1.out hX3.out)
          have hsz3 : Hid (W.heap.size ≤ (wr.alloc (.cells #[.int .i64 (t : Int)] 3)).heap.size) := Nat.le_trans hXr.out.size hX3.out.size
          have hblk := hide (heap_alloc_new wr (.cells #[.int .i64 (t : Int)] 3))
          have hV3 := hide (ownsRow_ext hV1.out hX3.out)
          have hR3 := hide (hR1.out.ext hX3.out)
          have hOn3 := hide (OwnI.ext hOn2.out hX3.out)
          go_wp2_with (first | (at_builtin; refine app_int rfl rfl W.heap.size hsz3.out _ St (t : Int) rfl hG3.out wr.heap.size 1 (by rfl) hblk.out hln.out ?_; intro g7 cap7 w7 O7 hgr7 hor7 hlt7; have hf7 : FrT 3 W.heap.size (wr.alloc (.cells #[.int .i64 (t : Int)] 3)) w7 := FrT.grown hG3.out hgr7; have hV7 := hide (World.ownsRow.alloc (hf7.row hV3.out (by decide)) (.cells #[(.slice (some ⟨w1.heap.size, 0, none⟩) its.length its.length)] 23)); have hR7 : Hid (RowsI (w7.alloc (.cells #[(.slice (some ⟨w1.heap.size, 0, none⟩) its.length its.length)] 23)) W.heap.size ss F St.length) := (RowsI.frT hf7 hR3.out).ext ((Ext.refl w7).alloc _); have hOn7 : Hid (OwnI (w7.alloc (.cells #[(.slice (some ⟨w1.heap.size, 0, none⟩) its.length its.length)] 23)) W.heap.size 2 (.slice (some ⟨w1.heap.size, 0, none⟩) its.length its.length) OT) := OwnI.alloc (hf7.row hOn3.out (by decide)) _; have hX79 : Ext W w7 := Below.trans (hXr.out.trans hX3.out) (But.below hf7 (fun q hq => hq.1) hsz3.out); have hX7 : Hid (Ext W (w7.alloc (.cells #[(.slice (some ⟨w1.heap.size, 0, none⟩) its.length its.length)] 23))) := Ext.alloc hX79 _; have hO7 := hide (OwnI.alloc O7 (.cells #[(.slice (some ⟨w1.heap.size, 0, none⟩) its.length its.length)] 23)); have hblk2 := hide (heap_alloc_new w7 (.cells #[(.slice (some ⟨w1.heap.size, 0, none⟩) its.length its.length)] 23)); clear O7 hgr7 hor7 hlt7 hf7) | (at_builtin; refine app_rows rfl rfl W.heap.size hX7.out.size _ St.length ss (.slice (some ⟨w1.heap.size, 0, none⟩) its.length its.length) rfl hV7.out w7.heap.size 1 (by rfl) hblk2.out rfl hln.out ?_; intro g8 cap8 w8 hV8 hgr8 hlt8; have hO8 := hide (hO7.out.but hgr8 (apart_types hO7.out hV7.out (by decide))); have hX8 : Hid (Ext W w8) := hX7.out.grown hgr8 (fun q hq => (World.ownsRow.lt hV7.out q hq).1); have hV9 := hide hV8; have hgr9 := hide hgr8; clear hV8 hgr8 hlt8))
          have hR8 := hide (RowsI.snoc (w := w) (a := some ⟨w1.heap.size, 0, none⟩) (c := its.length) hR7.out hss.out hV7.out hgr9.out (by rw [hFt.out, hOl.out]; exact hOn7.out))
          go_roundw
          case rel =>
            refine ⟨t + 1, ss ++ [(.slice (some ⟨w1.heap.size, 0, none⟩) its.length its.length)], by go_num, by omega, ?_, ?_, ?_, hX8.out⟩
            · rw [hst.out]; exact hO8.out
            · rw [hst.out, List.length_append]; exact hV9.out
            · rw [hst.out, List.length_append]
              have := hR8.out
              rw [hFt.out, hOl.out] at this
              exact this
          case measure => simp [intOf]; omega
    · obtain ⟨x, rfl⟩ := Int.eq_ofNat_of_zero_le hw0
      have hxl : x < nd.length := by omega
      have hwb : ((x : Int) != -1) = true := by first | (simp; done) | (simp; omega)
      obtain ⟨b4, o4, e4, c4⟩ := hUi.out x (by rw [hUl.out]; exact hxl)
      cases e4
      have hsv : selB ⟨nc, nd, (x : Int), its, gr, li, true⟩ (rows t) = (evX nd (rows t) x != 0) := by
        unfold selB
        simp only
        rw [Int.toNat_natCast, decide_eq_false (by omega), Bool.false_or]
      rw [← hUa0 x hxl] at hsv
      obtain ⟨Z, hZ⟩ : ∃ Z, Hid (U.getD x 0 = Z) := ⟨_, rfl⟩
      rw [hZ.out] at c4 hsv
      by_cases hz : Z = 0
      · have hzb : (Z == 0) = true := by simp [hz]
        have hst : Hid (S (t + 1) = S t) := hsnt.out (by rw [hsv, hz]; rfl)
        replace hz := hide hz
        clear hsv hUa0 hsbt hsnt hS hF hsb hsn
        as_aux_lemma =>
          go_wp2_with fail
          go_roundw
          case rel => exact ⟨t + 1, ss, by go_num, by omega, by rw [hst.out]; exact OwnI.ext hO.out x1.out, by rw [hst.out]; exact ownsRow_ext hV.out x1.out, by rw [hst.out]; exact hR.out.ext x1.out, hX1.out⟩
          case measure => simp [intOf]; omega
      · have hzb : (Z == 0) = false := by simp [hz]
        have hsel : selB ⟨nc, nd, (x : Int), its, gr, li, true⟩ (rows t) = true := by rw [hsv]; simp [hz]
        have hst : Hid (S (t + 1) = S t ++ [(t : Int)]) := (hsbt.out hsel).1
        have hFt : Hid (F (S t).length = OT) := (hsbt.out hsel).2
        replace hz := hide hz
        clear hsel hsv hUa0 hsbt hsnt hS hF hsb hsn
        as_aux_lemma =>
          go_wp2_with (at_make; refine mk_i64 rfl rfl its.length rfl rfl (by omega) w1.heap.size rfl ?_; intro w2 O2 x2 z2; replace O2 := hide O2; replace x2 := hide x2)
          go_loopw [22] (fun i wr => ∃ j : Nat, i = .int .i64 j ∧ j ≤ its.length ∧ Hid (OwnI wr w1.heap.size 2 (.slice (some ⟨w1.heap.size, 0, none⟩) its.length its.length) (mixR OT (List.replicate its.length 0) j)) ∧ Hid (Ext w1 wr)) (fun i _ => its.length - (intOf i).toNat)
          case atStart => exact ⟨0, rfl, Nat.zero_le _, by rw [mixR_zero]; exact O2, x2⟩
          clear O2 x2 z2
          obtain ⟨j, rfl, hj, hOn, hE1⟩ := hrel
          have hml : Hid ((mixR OT (List.replicate its.length 0) j).length = its.length) := by show _ = _; rw [mixR_len _ _ _ (by simp [hOl.out])]; simp
          by_cases hjl : j < its.length
          · have hjl' : (j : Int) < its.length := by omega
            obtain ⟨b3, o3, e3, g1, g2⟩ := (hit.out.ext (hXw.out.trans hE1.out)) j hjl
            have hitj := hits.out _ (getD_mem_it its j hjl)
            have hoa := hOa.out j hjl
            have hset := mixR_set OT (List.replicate its.length 0) j (by simp [hOl.out]) (by rw [hOl.out]; exact hjl)
            generalize its.getD j (0, 0) = itj at *
            obtain ⟨A, E⟩ := itj
            simp only at g1 g2 hoa
            obtain ⟨_, _, hite⟩ := hitj
            simp only at hite
            cases e3
            by_cases hE0 : 0 ≤ E
            · obtain ⟨x, rfl⟩ := Int.eq_ofNat_of_zero_le hE0
              have hx9 : x < nd.length := by omega
              rw [if_neg (by omega), Int.toNat_natCast] at hoa
              rw [hoa] at hset
              replace hset := hide hset
              obtain ⟨b4, o4, e4, c4⟩ := (hUi.out.ext hE1.out) x (by rw [hUl.out]; exact hx9)
              cases e4
              have hxu : (x : Int) < nd.length := by omega
              generalize U.getD x 0 = Y at *
              clear hite hoa g1
              go_wp2_with (refine wpList_stI (g := w1.heap.size) (i := j) (u := Y) rfl rfl (by rfl) (by rfl) hOn.out hml.out.symm (by rw [hml.out]; exact hjl) size_int64 ?_; intro w3 hU3 hg3; have hO9 := hide (hU3.congr hset.out); have hX9 : Hid (Ext w1 w3) := hE1.out.grown hg3 (fun q hq => by cases hq; exact Nat.le_refl _); clear hU3 hg3)
              go_roundw
              case rel => exact ⟨j + 1, by go_num, by omega, hO9.out, hX9.out⟩
              case measure => simp [intOf]; omega
            · rw [if_pos (by omega)] at hoa
              rw [hoa] at hset
              have hsk : Hid (mixR OT (List.replicate its.length 0) (j + 1) = mixR OT (List.replicate its.length 0) j) := by
                show _ = _
                rw [← hset]
                exact set_same_I _ _ _ (by rw [hml.out]; exact hjl) (by rw [mixR_ge _ _ _ (by simp [hOl.out]) (by simpa using hjl)]; simp [hjl])
              clear hset hite hoa g1
              go_wp2_with fail
              go_roundw
              case rel => exact ⟨j + 1, by go_num, by omega, by rw [hsk.out]; exact hOn.out, hE1.out⟩
              case measure => simp [intOf]; omega
          · have hjl' : ¬ (j : Int) < its.length := by omega
            obtain rfl : j = its.length := by omega
            have hfin : Hid (mixR OT (List.replicate its.length 0) its.length = OT) := by
              have := mixR_all OT (List.replicate its.length 0) (by simp [hOl.out])
              rw [hOl.out] at this
              exact this
            rw [hfin.out] at hOn
            clear hml hfin hjl hj
            have hO1 := hide (OwnI.ext hO.out (x1.out.trans hE1.out))
            have hV1 := hide (ownsRow_ext hV.out (x1.out.trans hE1.out))
            have hR1 := hide (hR.out.ext (x1.out.trans hE1.out))
            have hXr : Hid (Ext W wr) := hX1.out.trans hE1.out
            have hOn2 := hide (OwnI.mono hOn.out hX1.out.size)
            have hln : Hid ((S t).length < 2 ^ 39) := by have := hsl.out t; show _ < _; omega
            have hss : Hid (ss.length = (S t).length) := by have := hV1.out.1; show _ = _; omega
            obtain ⟨St, hSt⟩ : ∃ St, Hid (S t = St) := ⟨_, rfl⟩
            rw [hSt.out] at hO1 hV1 hR1 hln hss hst hFt
            clear hOn hO hV hR
            have hX3 : Hid (Ext wr (wr.alloc (.cells #[.int .i64 (t : Int)] 3))) := (Ext.refl _).alloc _
            have hG3 := hide (OwnI.ext hO1.out hX3.out)
            have hsz3 : Hid (W.heap.size ≤ (wr.alloc (.cells #[.int .i64 (t : Int)] 3)).heap.size) := Nat.le_trans hXr.out.size hX3.out.size
            have hblk := hide (heap_alloc_new wr (.cells #[.int .i64 (t : Int)] 3))
            have hV3 := hide (ownsRow_ext hV1.out hX3.out)
            have hR3 := hide (hR1.out.ext hX3.out)
            have hOn3 := hide (OwnI.ext hOn2.out hX3.out)
            go_wp2_with (first | (at_builtin; refine app_int rfl rfl W.heap.size hsz3.out _ St (t : Int) rfl hG3.out wr.heap.size 1 (by rfl) hblk.out hln.out ?_; intro g7 cap7 w7 O7 hgr7 hor7 hlt7; have hf7 : FrT 3 W.heap.size (wr.alloc (.cells #[.int .i64 (t : Int)] 3)) w7 := FrT.grown hG3.out hgr7; have hV7 := hide (World.ownsRow.alloc (hf7.row hV3.out (by decide)) (.cells #[(.slice (some ⟨w1.heap.size, 0, none⟩) its.length its.length)] 23)); have hR7 : Hid (RowsI (w7.alloc (.cells #[(.slice (some ⟨w1.heap.size, 0, none⟩) its.length its.length)] 23)) W.heap.size ss F St.length) := (RowsI.frT hf7 hR3.out).ext ((Ext.refl w7).alloc _); have hOn7 : Hid (OwnI (w7.alloc (.cells #[(.slice (some ⟨w1.heap.size, 0, none⟩) its.length its.length)] 23)) W.heap.size 2 (.slice (some ⟨w1.heap.size, 0, none⟩) its.length its.length) OT) := OwnI.alloc (hf7.row hOn3.out (by decide)) _; have hX79 : Ext W w7 := Below.trans (hXr.out.trans hX3.out) (But.below hf7 (fun q hq => hq.1) hsz3.out); have hX7 : Hid (Ext W (w7.alloc (.cells #[(.slice (some ⟨w1.heap.size, 0, none⟩) its.length its.length)] 23))) := Ext.alloc hX79 _; have hO7 := hide (OwnI.alloc O7 (.cells #[(.slice (some ⟨w1.heap.size, 0, none⟩) its.length its.length)] 23)); have hblk2 := hide (heap_alloc_new w7 (.cells #[(.slice (some ⟨w1.heap.size, 0, none⟩) its.length its.length)] 23)); clear O7 hgr7 hor7 hlt7 hf7) | (at_builtin; refine app_rows rfl rfl W.heap.size hX7.out.size _ St.length ss (.slice (some ⟨w1.heap.size, 0, none⟩) its.length its.length) rfl hV7.out w7.heap.size 1 (by rfl) hblk2.out rfl hln.out ?_; intro g8 cap8 w8 hV8 hgr8 hlt8; have hO8 := hide (hO7.out.but hgr8 (apart_types hO7.out hV7.out (by decide))); have hX8 : Hid (Ext W w8) := hX7.out.grown hgr8 (fun q hq => (World.ownsRow.lt hV7.out q hq).1); have hV9 := hide hV8; have hgr9 := hide hgr8; clear hV8 hgr8 hlt8))
            have hR8 := hide (RowsI.snoc (w := w) (a := some ⟨w1.heap.size, 0, none⟩) (c := its.length) hR7.out hss.out hV7.out hgr9.out (by rw [hFt.out, hOl.out]; exact hOn7.out))
            go_roundw
            case rel =>
              refine ⟨t + 1, ss ++ [(.slice (some ⟨w1.heap.size, 0, none⟩) its.length its.length)], by go_num, by omega, ?_, ?_, ?_, hX8.out⟩
              · rw [hst.out]; exact hO8.out
              · rw [hst.out, List.length_append]; exact hV9.out
              · rw [hst.out, List.length_append]
                have := hR8.out
                rw [hFt.out, hOl.out] at this
                exact this
            case measure => simp [intOf]; omega
  have hlt' : ¬ (t : Int) < n := by omega
  obtain rfl : t = n := by omega
  obtain ⟨sa, sc, rfl, _⟩ := hO.out.form
  obtain ⟨va, vc, rfl⟩ := ownsRow_form hV.out
  have hIV := hide (hR.out.at hV.out)
  have hSi := hide hO.out.ints
  have hSn := hsl.out t
  have hSsel : Hid (SelOK (S t) t) := by have := slTo_sel (p := ⟨nc, nd, wh, its, gr, li, true⟩) (f := rows) t; rw [hS.out] at this; exact this
  clear hV hR hO hsb hsn hlt ht
  obtain ⟨W1, rfl⟩ : ∃ W1, W1 = wr := ⟨_, rfl⟩
  have hXw : Hid (Ext w W1) := hX0.out.trans hX.out
  have hrun1 := hrun0
  clear hrun0
  rw [hS.out] at hrun1
  obtain ⟨sl, hsle⟩ : ∃ sl, Hid (S t = sl) := ⟨_, rfl⟩
  have hivf := hide (ivF_at ⟨nc, nd, wh, its, gr, li, true⟩ rows (S t))
  have hivl : Hid (∀ j, (ivF ⟨nc, nd, wh, its, gr, li, true⟩ rows (S t) j).length = its.length) := fun j => itsV_len ⟨nc, nd, wh, its, gr, li, true⟩ _
  rw [hF.out] at hivf hivl
  rw [hsle.out] at hrun1 hIV hSi hSn hSsel hivf ⊢
  clear hsle hsl hS0 hS hF
  obtain ⟨FC, hFC⟩ : ∃ FC, Hid (grpV ⟨nc, nd, wh, its, gr, li, true⟩ rows sl (gIds gr rows sl) k = FC) := ⟨_, rfl⟩
  simp only at hrun1 hivf
  rw [hFC.out] at hrun1
  obtain ⟨NG, hNG⟩ : ∃ NG, Hid (gNum gr rows sl = NG) := ⟨_, rfl⟩
  rw [hNG.out] at hrun1
  have hrun : Hid (R = flC FC its.length (lim li NG)) := hrun1.out
  have hmne := hide (mem_ne gr rows sl)
  have hgz := hide (gNum_zero gr rows sl)
  rw [hNG.out] at hmne hgz
  have hNGk : Hid (NG = if gr.length = 0 then 1 else (gKall gr rows sl).length) := by
    show _ = _
    rw [← hNG.out]
    unfold gNum gKall
    split <;> rfl
  have hNGl : NG ≤ 65537 := by
    rw [← hNG.out]
    unfold gNum
    split
    · omega
    · have := (grK_law (K := keyJ gr rows sl) (w := gr.length) (keyJ_len gr rows sl) sl.length).2.2
      have h2 : (gKeys gr rows sl).length ≤ sl.length := this
      omega
  have hidl : Hid ((gIds gr rows sl).length = sl.length) := gIds_len _ _ _
  have hFCv : Hid (∀ g kk, FC g kk = aggL (its.getD kk (0, 0)).1 ((memG (gIds gr rows sl) g sl.length).map (fun i => vJ ⟨nc, nd, wh, its, gr, li, true⟩ rows sl i.toNat kk)) (itV ⟨nc, nd, wh, its, gr, li, true⟩ (List.replicate k 0) kk)) := fun g kk => by rw [← hFC.out]; rfl
  clear hrun1 hFC hNG
  go_wp2_with fail
  refine (groupKeys_all gr sl rows ra sa ga rc sc cg t k W1 (hrw.out.ext hXw.out) hrl hSi hSsel (hgr.out.ext hXw.out) hgp hnn hk (by omega) l3).mono ?_
  rintro e w3 ⟨ka, kc, oa, oc, rfl, _, hGI, x3⟩
  rw [hidl.out] at hGI ⊢
  replace hGI := hide hGI.ints
  obtain ⟨ids, hids⟩ : ∃ ids, Hid (gIds gr rows sl = ids) := ⟨_, rfl⟩
  rw [hids.out] at hGI hmne hFCv hidl
  obtain ⟨kl, hkl9⟩ : ∃ kl, Hid ((gKall gr rows sl).length = kl) := ⟨_, rfl⟩
  rw [hkl9.out] at hNGk ⊢
  clear hids hkl9
  replace x3 := hide x3
  go_upto_if 118 with fail
  go_cut [28] from 116 to 118 (fun v28 wc => v28 = .int .i64 NG ∧ w3 = wc)
  case first =>
    by_cases hg0 : gr.length = 0
    · have hgb : ((gr.length : Int) == 0) = true := by simp [hg0]
      have hNG1 : Hid (NG = 1) := by show _ = _; rw [hNGk.out, if_pos hg0]
      replace hg0 := hide hg0
      go_wp2_with fail
      go_meet
      case rel => exact ⟨by rw [hNG1.out]; rfl, by first | trivial | rfl⟩
    · have hgb : ((gr.length : Int) == 0) = false := beq_eq_false_iff_ne.2 (by omega)
      have hNG1 : Hid (NG = kl) := by show _ = _; rw [hNGk.out, if_neg hg0]
      replace hg0 := hide hg0
      go_wp2_with fail
      go_meet
      case rel => exact ⟨by rw [hNG1.out], by first | trivial | rfl⟩
  case rest =>
    obtain ⟨rfl, rfl⟩ := hcut
    by_cases hs0 : sl.length = 0
    · have hsb : ((sl.length : Int) == 0) = true := by simp [hs0]
      have hNG01 : Hid (NG = 0 ∨ NG = 1) := by
        show _ ∨ _
        have := hgz.out hs0
        rw [this]
        split
        · exact .inr rfl
        · exact .inl rfl
      replace hs0 := hide hs0
      by_cases hN1 : NG = 1
      · have hNb : ((NG : Int) == 1) = true := by simp [hN1]
        replace hN1 := hide hN1
        have hrk : (List.replicate k (0 : Int)).length = k := by simp
        have hNr := hide (hn.out.ext (hXw.out.trans x3.out))
        clear hNGk hgz hNG01
        as_aux_lemma =>
          go_wp2_with (at_make; refine mk_i64 rfl rfl k rfl rfl (by omega) w3.heap.size rfl ?_; intro w4 O4 x4 z4; have hX4 : Hid (Ext w3 w4) := x4; have hz4 := hide (OwnI.ints O4); clear O4 x4 z4)
          refine (nodeValues nd (List.replicate k 0) na (some ⟨w3.heap.size, 0, none⟩) cn k k w4 (hNr.out.ext hX4.out) hz4 (by omega) hrk (by omega) hwf).mono ?_
          rintro e w5 ⟨za, zc, rfl, hZ, x5⟩
          have hzl := evTo_len nd (List.replicate k 0) nd.length
          have hzt : Hid (nd.length = nd.length ∧ IntsAt w5 za (evTo nd (List.replicate k 0) nd.length)) := ⟨rfl, hZ.ints⟩
          rw [hzl]
          have hX3 : Hid (Ext w3 w5) := hX4.out.trans x5
          clear hZ x5 hzl hX4 hz4
          go_wp2_with fail
          obtain ⟨W5, rfl⟩ : ∃ W5, W5 = w5 := ⟨_, rfl⟩
          have hXw5 : Hid (Ext w W5) := (hXw.out.trans x3.out).trans hX3.out
          have hX15 : Hid (Ext W1 W5) := x3.out.trans hX3.out
          replace hIV := hide (hIV.out.ext hX15.out)
          replace hGI := hide (hGI.out.ext hX3.out)
          obtain ⟨Z, hZe⟩ : ∃ Z, Hid (evTo nd (List.replicate k 0) nd.length = Z) := ⟨_, rfl⟩
          have hZa : Hid (∀ x, x < nd.length → Z.getD x 0 = evX nd (List.replicate k 0) x) := fun x hx => by rw [← hZe.out]; exact evTo_at nd (List.replicate k 0) nd.length x hx
          have hZl : Hid (Z.length = nd.length) := by show _ = _; rw [← hZe.out]; exact evTo_len _ _ _
          rw [hZe.out] at hzt
          clear hZe x3 hX3 hSi
          replace hX := hide (hX.out.trans hX15.out)
          replace hXw := hXw5
          clear hX15
          go_wp2_with fail
          go_loopw [23, 24, 31] (fun v o i wr => ∃ g : Nat, i = .int .i64 g ∧ o = .int .i64 g ∧ g ≤ NG ∧ Hid (OwnI wr W5.heap.size 2 v (flC FC its.length g)) ∧ Hid (Ext W5 wr)) (fun _ _ i _ => NG - (intOf i).toNat)
          case atStart => exact ⟨0, rfl, rfl, Nat.zero_le _, by rw [show flC FC its.length 0 = [] by simp [flC]]; exact OwnI.nil _ _ _, Ext.refl W5⟩
          obtain ⟨g, rfl, rfl, hg, hC, hX5⟩ := hrel
          by_cases hgl : g < NG
          · have hgl' : (g : Int) < NG := by omega
            have hflg : Hid ((flC FC its.length g).length = g * its.length) := flC_len _ _ _
            have hfls := hide (flC_succ FC its.length g)
            obtain ⟨C0, hC0⟩ : ∃ C0, Hid (flC FC its.length g = C0) := ⟨_, rfl⟩
            rw [hC0.out] at hC hflg hfls
            obtain ⟨W6, rfl⟩ : ∃ W6, W6 = wr := ⟨_, rfl⟩
            as_aux_lemma =>
              go_wp2_with fail
              go_loopw [32, 33] (fun v i wr => ∃ j : Nat, i = .int .i64 j ∧ j ≤ sl.length ∧ Hid (OwnI wr W6.heap.size 3 v (memG ids g j)) ∧ Hid (Ext W6 wr)) (fun _ i _ => sl.length - (intOf i).toNat)
              case atStart => exact ⟨0, rfl, Nat.zero_le _, OwnI.nil _ _ _, Ext.refl W6⟩
              obtain ⟨j, rfl, hj, hM, hX6⟩ := hrel
              by_cases hjl : j < sl.length
              · have hjl' : (j : Int) < sl.length := by omega
                obtain ⟨b1, o1, e1, c1⟩ := (hGI.out.ext (hX5.out.trans hX6.out)) j (by rw [hidl.out]; exact hjl)
                cases e1
                have hmn : memG ids g (j + 1) = if ids.getD j 0 = (g : Int) then memG ids g j ++ [(j : Int)] else memG ids g j := rfl
                have hln : Hid ((memG ids g j).length < 2 ^ 39) := by have := memG_len ids g j; show _ < _; omega
                obtain ⟨y, hy⟩ : ∃ y, Hid (ids.getD j 0 = y) := ⟨_, rfl⟩
                rw [hy.out] at c1 hmn
                by_cases hyg : y = (g : Int)
                · have hygb : (y == (g : Int)) = true := by simp [hyg]
                  rw [if_pos hyg] at hmn
                  replace hmn := hide hmn
                  replace hyg := hide hyg
                  obtain ⟨ML, hML⟩ : ∃ ML, Hid (memG ids g j = ML) := ⟨_, rfl⟩
                  rw [hML.out] at hM hln hmn
                  have hX3 : Hid (Ext wr (wr.alloc (.cells #[.int .i64 (j : Int)] 3))) := (Ext.refl _).alloc _
                  have hG3 := hide (OwnI.ext hM.out hX3.out)
                  have hsz3 : Hid (W6.heap.size ≤ (wr.alloc (.cells #[.int .i64 (j : Int)] 3)).heap.size) := Nat.le_trans hX6.out.size hX3.out.size
                  have hblk := hide (heap_alloc_new wr (.cells #[.int .i64 (j : Int)] 3))
                  go_wp2_with (at_builtin; refine app_int rfl rfl W6.heap.size hsz3.out _ ML (j : Int) rfl hG3.out wr.heap.size 1 (by rfl) hblk.out hln.out ?_; intro g7 cap7 w7 O7 hgr7 hor7 hlt7; have hX7 : Hid (Ext W6 w7) := (hX6.out.trans hX3.out).grown hgr7 (fun q hq => (World.ownsRow.lt hG3.out q hq).1); have hO7 := hide O7; clear O7 hgr7 hor7 hlt7)
                  go_roundw
                  case rel => exact ⟨j + 1, by go_num, by omega, by rw [hmn.out]; exact hO7.out, hX7.out⟩
                  case measure => simp [intOf]; omega
                · have hygb : (y == (g : Int)) = false := by simp [hyg]
                  rw [if_neg hyg] at hmn
                  replace hmn := hide hmn
                  replace hyg := hide hyg
                  go_wp2_with fail
                  go_roundw
                  case rel => exact ⟨j + 1, by go_num, by omega, by rw [hmn.out]; exact hM.out, hX6.out⟩
                  case measure => simp [intOf]; omega
              · obtain rfl : j = sl.length := by omega
                have hjl' : ¬ (sl.length : Int) < sl.length := by omega
                have hml : Hid ((memG ids g sl.length).length ≤ sl.length) := memG_len _ _ _
                have hgo : Hid (∀ i, i < (memG ids g sl.length).length → ∃ j : Nat, j < sl.length ∧ (memG ids g sl.length).getD i 0 = (j : Int)) := fun i hi => by
                  obtain ⟨j, h1, h2, _⟩ := (memG_mem ids g _ sl.length).1 (getD_mem_J _ i hi)
                  exact ⟨j, h1, h2⟩
                have hmn := hide (hmne.out g hgl)
                have hFCg := hide (hFCv.out g)
                obtain ⟨mem, hmem⟩ : ∃ mem, Hid (memG ids g sl.length = mem) := ⟨_, rfl⟩
                rw [hmem.out] at hM hml hgo hmn hFCg
                obtain ⟨ma, mc, rfl, _⟩ := hM.out.form
                have hM5 := hide (OwnI.mono hM.out hX5.out.size)
                have hC6 := hide (OwnI.ext hC.out hX6.out)
                have hX56 : Hid (Ext W5 wr) := hX5.out.trans hX6.out
                clear hmem hM hC hX5 hX6 hjl hj
                obtain ⟨FG, hFG⟩ : ∃ FG, Hid (FC g = FG) := ⟨_, rfl⟩
                rw [hFG.out] at hFCg hfls
                go_wp2_with fail
                go_loopw [23, 34] (fun v i wr => ∃ kk : Nat, i = .int .i64 kk ∧ kk ≤ its.length ∧ Hid (OwnI wr W5.heap.size 2 v (C0 ++ (List.range kk).map FG)) ∧ Hid (OwnI wr W5.heap.size 3 (.slice ma mem.length mc) mem) ∧ Hid (Ext W5 wr)) (fun _ i _ => its.length - (intOf i).toNat)
                case atStart => exact ⟨0, rfl, Nat.zero_le _, by simpa using hC6, hM5, hX56⟩
                clear hC6 hM5 hX56
                obtain ⟨kk, rfl, hkk, hC, hM, hX6⟩ := hrel
                by_cases hkl : kk < its.length
                · have hkl' : (kk : Int) < its.length := by omega
                  obtain ⟨b3, o3, e3, g1, g2⟩ := (hit.out.ext (hXw.out.trans hX6.out)) kk hkl
                  have hitj := hits.out _ (getD_mem_it its kk hkl)
                  have hval := hFCg.out kk
                  have hvz : itV ⟨nc, nd, wh, its, gr, li, true⟩ (List.replicate k 0) kk = if (its.getD kk (0, 0)).2 < 0 then 0 else evX nd (List.replicate k 0) (its.getD kk (0, 0)).2.toNat := rfl
                  have hmap : Hid (mem.map (fun i => vJ ⟨nc, nd, wh, its, gr, li, true⟩ rows sl i.toNat kk) = mem.map (fun i => (F i.toNat).getD kk 0)) := List.map_congr_left (fun i _ => (hivf.out i.toNat kk hkl).symm)
                  have hFk : Hid (∀ j, j < sl.length → kk < (F j).length) := fun j _ => by rw [hivl.out]; exact hkl
                  rw [hmap.out] at hval
                  clear hmap
                  generalize its.getD kk (0, 0) = itj at *
                  obtain ⟨A, E⟩ := itj
                  simp only at g1 g2 hval hvz
                  obtain ⟨hA0, hA5, hite⟩ := hitj
                  simp only at hA0 hA5 hite
                  cases e3
                  have hrs : Hid (C0 ++ (List.range (kk + 1)).map FG = (C0 ++ (List.range kk).map FG) ++ [FG kk]) := by show _ = _; rw [List.range_succ, List.map_append, List.append_assoc]; rfl
                  have hkl2 : Hid ((C0 ++ (List.range kk).map FG).length < 2 ^ 39) := by
                    have hmul : g * its.length ≤ 65537 * 65536 := Nat.mul_le_mul (by omega) l2
                    have := hflg.out
                    show _ < _
                    rw [List.length_append, List.length_map, List.length_range]
                    omega
                  obtain ⟨CL, hCL⟩ : ∃ CL, Hid (C0 ++ (List.range kk).map FG = CL) := ⟨_, rfl⟩
                  rw [hCL.out] at hC hrs hkl2
                  have hkl := hkl2
                  clear hkl2
                  obtain ⟨X, hXe⟩ : ∃ X, Hid (FG kk = X) := ⟨_, rfl⟩
                  rw [hXe.out] at hrs hval
                  have hMi := hide hM.out.ints
                  have hIVr := hide (hIV.out.ext hX6.out)
                  have hX3 : Hid (Ext wr (wr.alloc (.cells #[.int .i64 X] 2))) := (Ext.refl _).alloc _
                  have hG3 := hide (OwnI.ext hC.out hX3.out)
                  have hM3 := hide (OwnI.ext hM.out hX3.out)
                  have hsz3 : Hid (W5.heap.size ≤ (wr.alloc (.cells #[.int .i64 X] 2)).heap.size) := Nat.le_trans hX6.out.size hX3.out.size
                  have hblk := hide (heap_alloc_new wr (.cells #[.int .i64 X] 2))
                  obtain ⟨hzl, hzi⟩ := hzt.out
                  by_cases hE0 : 0 ≤ E
                  · obtain ⟨x, rfl⟩ := Int.eq_ofNat_of_zero_le hE0
                    have hx9 : x < nd.length := by omega
                    rw [if_neg (by omega), Int.toNat_natCast, ← hZa.out x hx9] at hvz
                    obtain ⟨b4, o4, e4, c4⟩ := (hzi.ext hX6.out) x (by rw [hZl.out]; exact hx9)
                    cases e4
                    have hxu : (x : Int) < nd.length := by omega
                    have hE0' : (0 : Int) ≤ (x : Int) := by omega
                    obtain ⟨Y, hY⟩ : ∃ Y, Hid (Z.getD x 0 = Y) := ⟨_, rfl⟩
                    rw [hY.out] at hvz c4
                    have hval2 : Hid (aggL A (mem.map (fun i => (F i.toNat).getD kk 0)) Y = X) := by show _ = _; rw [hval, hvz]
                    clear hval hvz hite hzi
                    have hagg := hide (aggValue A hA0 hA5 kk mem ma va mc vc sl.length F Y wr hMi hIVr hFk hgo.out (by have := hml.out; omega))
                    rw [hval2.out] at hagg
                    go_wp2_with (first | (go_at_call 65; refine hagg.out.mono ?_; rintro e wx ⟨rfl, hwx⟩; obtain rfl := hwx.symm) | (at_builtin; refine app_i64 rfl rfl W5.heap.size hsz3.out _ CL X rfl hG3.out wr.heap.size 1 (by rfl) hblk.out hkl.out ?_; intro g7 cap7 w7 O7 hgr7 hor7 hlt7; have hf7 : FrT 2 W5.heap.size (wr.alloc (.cells #[.int .i64 X] 2)) w7 := FrT.grown hG3.out hgr7; have hM7 : Hid (OwnI w7 W5.heap.size 3 (.slice ma mem.length mc) mem) := hf7.row hM3.out (by decide); have hX7 : Hid (Ext W5 w7) := Below.trans (hX6.out.trans hX3.out) (But.below hf7 (fun q hq => hq.1) hsz3.out); have hO7 := hide O7; clear O7 hgr7 hor7 hlt7 hf7))
                    go_roundw
                    case rel => exact ⟨kk + 1, by go_num, by omega, by rw [hrs.out]; exact hO7.out, hM7.out, hX7.out⟩
                    case measure => simp [intOf]; omega
                  · rw [if_pos (by omega)] at hvz
                    have hE0' : ¬ (0 : Int) ≤ E := hE0
                    have hval2 : Hid (aggL A (mem.map (fun i => (F i.toNat).getD kk 0)) 0 = X) := by show _ = _; rw [hval, hvz]
                    clear hval hvz hite hzi
                    have hagg := hide (aggValue A hA0 hA5 kk mem ma va mc vc sl.length F 0 wr hMi hIVr hFk hgo.out (by have := hml.out; omega))
                    rw [hval2.out] at hagg
                    go_wp2_with (first | (go_at_call 65; refine hagg.out.mono ?_; rintro e wx ⟨rfl, hwx⟩; obtain rfl := hwx.symm) | (at_builtin; refine app_i64 rfl rfl W5.heap.size hsz3.out _ CL X rfl hG3.out wr.heap.size 1 (by rfl) hblk.out hkl.out ?_; intro g7 cap7 w7 O7 hgr7 hor7 hlt7; have hf7 : FrT 2 W5.heap.size (wr.alloc (.cells #[.int .i64 X] 2)) w7 := FrT.grown hG3.out hgr7; have hM7 : Hid (OwnI w7 W5.heap.size 3 (.slice ma mem.length mc) mem) := hf7.row hM3.out (by decide); have hX7 : Hid (Ext W5 w7) := Below.trans (hX6.out.trans hX3.out) (But.below hf7 (fun q hq => hq.1) hsz3.out); have hO7 := hide O7; clear O7 hgr7 hor7 hlt7 hf7))
                    go_roundw
                    case rel => exact ⟨kk + 1, by go_num, by omega, by rw [hrs.out]; exact hO7.out, hM7.out, hX7.out⟩
                    case measure => simp [intOf]; omega
                · obtain rfl : kk = its.length := by omega
                  have hkl' : ¬ (its.length : Int) < its.length := by omega
                  clear hkl hkk
                  go_wp2_with fail
                  go_roundw
                  case rel => exact ⟨g + 1, by go_num, by go_num, by omega, by rw [hfls.out]; exact hC.out, hX6.out⟩
                  case measure => simp [intOf]; omega
          · obtain rfl : g = NG := by omega
            have hgl' : ¬ (g : Int) < g := by omega
            clear hgl hg
            have hfl := flC_len FC its.length g
            obtain ⟨MN, hMN⟩ : ∃ MN, Hid (g * its.length = MN) := ⟨_, rfl⟩
            obtain ⟨CL, hCL⟩ : ∃ CL, Hid (flC FC its.length g = CL) := ⟨_, rfl⟩
            rw [hCL.out] at hC hfl
            rw [hMN.out] at hfl
            have hCi := hide hC
            obtain ⟨ca, cc, rfl, hca⟩ := hC.out.form
            rw [hfl] at hC ⊢
            have hB9 := hide (hB0.out.ext (hX.out.trans hX5.out))
            have hsW := hB0.out.lt
            have hsX := hX.out.size
            have hXf : Hid (Ext w wr) := hXw.out.trans hX5.out
            by_cases hl0 : 0 ≤ li
            · obtain ⟨l, rfl⟩ := Int.eq_ofNat_of_zero_le hl0
              have hl0' : (0 : Int) ≤ (l : Int) := by omega
              by_cases hlM : l < g
              · have hlM' : (l : Int) < (g : Nat) := by omega
                have hres : Hid (R = flC FC its.length l) := by
                  show _ = _
                  rw [hrun.out]
                  congr 1
                  unfold lim
                  rw [if_pos ⟨hl0, by omega⟩, Int.toNat_natCast]
                obtain ⟨LN, hLN⟩ : ∃ LN, Hid (l * its.length = LN) := ⟨_, rfl⟩
                have hmul : (l : Int) * (its.length : Int) = (LN : Int) := by rw [← hLN.out]; simp
                have hMb : MN ≤ 4295032832 := by rw [← hMN.out]; exact Nat.mul_le_mul (show g ≤ 65537 by omega) l2
                have hle : LN ≤ MN := by rw [← hLN.out, ← hMN.out]; exact Nat.mul_le_mul_right _ (by omega)
                have hpos : 0 < MN := by rw [← hMN.out]; exact Nat.mul_pos (by omega) h1.out
                have hcap : Hid (MN ≤ cc) := by have := hC.out.cap_le; show _ ≤ _; omega
                rcases hca with ⟨rfl, rfl⟩ | ⟨gC, rfl⟩
                · have := hcap.out; omega
                have hle2 : LN ≤ cc := by have := hcap.out; omega
                have hle2' : (LN : Int) ≤ cc := by omega
                have hint : Hid (IntsAt wr (some ⟨gC, 0, none⟩) R) := by
                  show IntsAt _ _ _
                  have := (OwnI.ints hC.out).take (l * its.length)
                  rw [← hCL.out, flC_take _ _ _ _ (by omega)] at this
                  rw [hres.out]
                  exact this
                have hRl : Hid (R.length = LN) := by show _ = _; rw [hres.out, flC_len, hLN.out]
                go_wp2_with (refine wpList_storeB (vs := [.int .i64 its.length, .slice (some ⟨gC, 0, none⟩) LN cc]) rfl rfl (by rfl) (by rfl) hB9.out size_res rfl (by simp [Value.oneCell']) ?_; intro w9 hb9 hg9; replace hb9 := hide hb9; replace hg9 := hide hg9)
                refine bodyPost_ret (results_cell1 rfl (by rfl) hb9.out Yabn.underlying34 size_res) rfl ?_
                have hgl := (OwnI.lt hC.out).1
                refine ⟨some ⟨gC, 0, none⟩, cc, by first | (rw [hRl.out]; done) | (rw [hRl.out]; rfl), ?_, OwnI.abv hC.out (by omega), hXf.out.grown hg9.out (fun q hq => by cases hq; exact Nat.le_refl _)⟩
                have := OwnI.kept hC.out hg9.out (by omega)
                have h2 := (OwnI.ints this).take (l * its.length)
                rw [← hCL.out, flC_take _ _ _ _ (by omega)] at h2
                rw [hres.out]
                exact h2
              · have hlM' : ¬ (l : Int) < (g : Nat) := by omega
                have hres : Hid (R = CL) := by
                  show _ = _
                  rw [hrun.out, ← hCL.out]
                  congr 1
                  unfold lim
                  rw [if_neg (by omega)]
                have hRl : Hid (R.length = MN) := by show _ = _; rw [hres.out, hfl]
                go_wp2_with (refine wpList_storeB (vs := [.int .i64 its.length, .slice ca MN cc]) rfl rfl (by rfl) (by rfl) hB9.out size_res rfl (by simp [Value.oneCell']) ?_; intro w9 hb9 hg9; replace hb9 := hide hb9; replace hg9 := hide hg9)
                refine bodyPost_ret (results_cell1 rfl (by rfl) hb9.out Yabn.underlying34 size_res) rfl ?_
                refine ⟨ca, cc, by first | (rw [hRl.out]; done) | (rw [hRl.out]; rfl), ?_, OwnI.abv hC.out (by omega), hXf.out.grown hg9.out (fun q hq => by cases hq; exact Nat.le_refl _)⟩
                rw [hres.out]
                exact OwnI.ints (OwnI.kept hC.out hg9.out (by omega))
            · have hl0' : ¬ (0 : Int) ≤ li := by omega
              have hres : Hid (R = CL) := by
                show _ = _
                rw [hrun.out, ← hCL.out]
                congr 1
                unfold lim
                rw [if_neg (by omega)]
              have hRl : Hid (R.length = MN) := by show _ = _; rw [hres.out, hfl]
              go_wp2_with (refine wpList_storeB (vs := [.int .i64 its.length, .slice ca MN cc]) rfl rfl (by rfl) (by rfl) hB9.out size_res rfl (by simp [Value.oneCell']) ?_; intro w9 hb9 hg9; replace hb9 := hide hb9; replace hg9 := hide hg9)
              refine bodyPost_ret (results_cell1 rfl (by rfl) hb9.out Yabn.underlying34 size_res) rfl ?_
              refine ⟨ca, cc, by first | (rw [hRl.out]; done) | (rw [hRl.out]; rfl), ?_, OwnI.abv hC.out (by omega), hXf.out.grown hg9.out (fun q hq => by cases hq; exact Nat.le_refl _)⟩
              rw [hres.out]
              exact OwnI.ints (OwnI.kept hC.out hg9.out (by omega))
      · have hNb : ((NG : Int) == 1) = false := beq_eq_false_iff_ne.2 (by omega)
        have hN0 : Hid (NG = 0) := by rcases hNG01.out with h | h; exact h; exact absurd h hN1
        have hX3 : Hid (Ext w3 w3) := Ext.refl w3
        replace hN1 := hide hN1
        clear hNGk hgz hNG01
        as_aux_lemma =>
          go_wp2_with fail
          obtain ⟨W5, rfl⟩ : ∃ W5, W5 = w3 := ⟨_, rfl⟩
          have hXw5 : Hid (Ext w W5) := (hXw.out.trans x3.out).trans hX3.out
          have hX15 : Hid (Ext W1 W5) := x3.out.trans hX3.out
          replace hIV := hide (hIV.out.ext hX15.out)
          replace hGI := hide (hGI.out.ext hX3.out)
          have hzf : Hid (0 < sl.length ∨ NG = 0) := .inr hN0.out
          clear x3 hX3 hSi
          replace hX := hide (hX.out.trans hX15.out)
          replace hXw := hXw5
          clear hX15
          go_wp2_with fail
          go_loopw [23, 24, 31] (fun v o i wr => ∃ g : Nat, i = .int .i64 g ∧ o = .int .i64 g ∧ g ≤ NG ∧ Hid (OwnI wr W5.heap.size 2 v (flC FC its.length g)) ∧ Hid (Ext W5 wr)) (fun _ _ i _ => NG - (intOf i).toNat)
          case atStart => exact ⟨0, rfl, rfl, Nat.zero_le _, by rw [show flC FC its.length 0 = [] by simp [flC]]; exact OwnI.nil _ _ _, Ext.refl W5⟩
          obtain ⟨g, rfl, rfl, hg, hC, hX5⟩ := hrel
          by_cases hgl : g < NG
          · have hgl' : (g : Int) < NG := by omega
            have hflg : Hid ((flC FC its.length g).length = g * its.length) := flC_len _ _ _
            have hfls := hide (flC_succ FC its.length g)
            obtain ⟨C0, hC0⟩ : ∃ C0, Hid (flC FC its.length g = C0) := ⟨_, rfl⟩
            rw [hC0.out] at hC hflg hfls
            obtain ⟨W6, rfl⟩ : ∃ W6, W6 = wr := ⟨_, rfl⟩
            as_aux_lemma =>
              go_wp2_with fail
              go_loopw [32, 33] (fun v i wr => ∃ j : Nat, i = .int .i64 j ∧ j ≤ sl.length ∧ Hid (OwnI wr W6.heap.size 3 v (memG ids g j)) ∧ Hid (Ext W6 wr)) (fun _ i _ => sl.length - (intOf i).toNat)
              case atStart => exact ⟨0, rfl, Nat.zero_le _, OwnI.nil _ _ _, Ext.refl W6⟩
              obtain ⟨j, rfl, hj, hM, hX6⟩ := hrel
              by_cases hjl : j < sl.length
              · have hjl' : (j : Int) < sl.length := by omega
                obtain ⟨b1, o1, e1, c1⟩ := (hGI.out.ext (hX5.out.trans hX6.out)) j (by rw [hidl.out]; exact hjl)
                cases e1
                have hmn : memG ids g (j + 1) = if ids.getD j 0 = (g : Int) then memG ids g j ++ [(j : Int)] else memG ids g j := rfl
                have hln : Hid ((memG ids g j).length < 2 ^ 39) := by have := memG_len ids g j; show _ < _; omega
                obtain ⟨y, hy⟩ : ∃ y, Hid (ids.getD j 0 = y) := ⟨_, rfl⟩
                rw [hy.out] at c1 hmn
                by_cases hyg : y = (g : Int)
                · have hygb : (y == (g : Int)) = true := by simp [hyg]
                  rw [if_pos hyg] at hmn
                  replace hmn := hide hmn
                  replace hyg := hide hyg
                  obtain ⟨ML, hML⟩ : ∃ ML, Hid (memG ids g j = ML) := ⟨_, rfl⟩
                  rw [hML.out] at hM hln hmn
                  have hX3 : Hid (Ext wr (wr.alloc (.cells #[.int .i64 (j : Int)] 3))) := (Ext.refl _).alloc _
                  have hG3 := hide (OwnI.ext hM.out hX3.out)
                  have hsz3 : Hid (W6.heap.size ≤ (wr.alloc (.cells #[.int .i64 (j : Int)] 3)).heap.size) := Nat.le_trans hX6.out.size hX3.out.size
                  have hblk := hide (heap_alloc_new wr (.cells #[.int .i64 (j : Int)] 3))
                  go_wp2_with (at_builtin; refine app_int rfl rfl W6.heap.size hsz3.out _ ML (j : Int) rfl hG3.out wr.heap.size 1 (by rfl) hblk.out hln.out ?_; intro g7 cap7 w7 O7 hgr7 hor7 hlt7; have hX7 : Hid (Ext W6 w7) := (hX6.out.trans hX3.out).grown hgr7 (fun q hq => (World.ownsRow.lt hG3.out q hq).1); have hO7 := hide O7; clear O7 hgr7 hor7 hlt7)
                  go_roundw
                  case rel => exact ⟨j + 1, by go_num, by omega, by rw [hmn.out]; exact hO7.out, hX7.out⟩
                  case measure => simp [intOf]; omega
                · have hygb : (y == (g : Int)) = false := by simp [hyg]
                  rw [if_neg hyg] at hmn
                  replace hmn := hide hmn
                  replace hyg := hide hyg
                  go_wp2_with fail
                  go_roundw
                  case rel => exact ⟨j + 1, by go_num, by omega, by rw [hmn.out]; exact hM.out, hX6.out⟩
                  case measure => simp [intOf]; omega
              · obtain rfl : j = sl.length := by omega
                have hjl' : ¬ (sl.length : Int) < sl.length := by omega
                have hml : Hid ((memG ids g sl.length).length ≤ sl.length) := memG_len _ _ _
                have hgo : Hid (∀ i, i < (memG ids g sl.length).length → ∃ j : Nat, j < sl.length ∧ (memG ids g sl.length).getD i 0 = (j : Int)) := fun i hi => by
                  obtain ⟨j, h1, h2, _⟩ := (memG_mem ids g _ sl.length).1 (getD_mem_J _ i hi)
                  exact ⟨j, h1, h2⟩
                have hmn := hide (hmne.out g hgl)
                have hFCg := hide (hFCv.out g)
                obtain ⟨mem, hmem⟩ : ∃ mem, Hid (memG ids g sl.length = mem) := ⟨_, rfl⟩
                rw [hmem.out] at hM hml hgo hmn hFCg
                obtain ⟨ma, mc, rfl, _⟩ := hM.out.form
                have hM5 := hide (OwnI.mono hM.out hX5.out.size)
                have hC6 := hide (OwnI.ext hC.out hX6.out)
                have hX56 : Hid (Ext W5 wr) := hX5.out.trans hX6.out
                clear hmem hM hC hX5 hX6 hjl hj
                obtain ⟨FG, hFG⟩ : ∃ FG, Hid (FC g = FG) := ⟨_, rfl⟩
                rw [hFG.out] at hFCg hfls
                go_wp2_with fail
                go_loopw [23, 34] (fun v i wr => ∃ kk : Nat, i = .int .i64 kk ∧ kk ≤ its.length ∧ Hid (OwnI wr W5.heap.size 2 v (C0 ++ (List.range kk).map FG)) ∧ Hid (OwnI wr W5.heap.size 3 (.slice ma mem.length mc) mem) ∧ Hid (Ext W5 wr)) (fun _ i _ => its.length - (intOf i).toNat)
                case atStart => exact ⟨0, rfl, Nat.zero_le _, by simpa using hC6, hM5, hX56⟩
                clear hC6 hM5 hX56
                obtain ⟨kk, rfl, hkk, hC, hM, hX6⟩ := hrel
                by_cases hkl : kk < its.length
                · have hkl' : (kk : Int) < its.length := by omega
                  obtain ⟨b3, o3, e3, g1, g2⟩ := (hit.out.ext (hXw.out.trans hX6.out)) kk hkl
                  have hitj := hits.out _ (getD_mem_it its kk hkl)
                  have hval := hFCg.out kk
                  have hvz : itV ⟨nc, nd, wh, its, gr, li, true⟩ (List.replicate k 0) kk = if (its.getD kk (0, 0)).2 < 0 then 0 else evX nd (List.replicate k 0) (its.getD kk (0, 0)).2.toNat := rfl
                  have hmap : Hid (mem.map (fun i => vJ ⟨nc, nd, wh, its, gr, li, true⟩ rows sl i.toNat kk) = mem.map (fun i => (F i.toNat).getD kk 0)) := List.map_congr_left (fun i _ => (hivf.out i.toNat kk hkl).symm)
                  have hFk : Hid (∀ j, j < sl.length → kk < (F j).length) := fun j _ => by rw [hivl.out]; exact hkl
                  rw [hmap.out] at hval
                  have hmnz : Hid (∀ z z', aggL (its.getD kk (0, 0)).1 (mem.map (fun i => (F i.toNat).getD kk 0)) z = aggL (its.getD kk (0, 0)).1 (mem.map (fun i => (F i.toNat).getD kk 0)) z') := fun z z' => aggL_z z z' (fun e => by rcases hzf.out with h | h; exact hmn.out h (by simpa using e); omega)
                  clear hmap
                  generalize its.getD kk (0, 0) = itj at *
                  obtain ⟨A, E⟩ := itj
                  simp only at g1 g2 hval hvz
                  obtain ⟨hA0, hA5, hite⟩ := hitj
                  simp only at hA0 hA5 hite
                  cases e3
                  have hrs : Hid (C0 ++ (List.range (kk + 1)).map FG = (C0 ++ (List.range kk).map FG) ++ [FG kk]) := by show _ = _; rw [List.range_succ, List.map_append, List.append_assoc]; rfl
                  have hkl2 : Hid ((C0 ++ (List.range kk).map FG).length < 2 ^ 39) := by
                    have hmul : g * its.length ≤ 65537 * 65536 := Nat.mul_le_mul (by omega) l2
                    have := hflg.out
                    show _ < _
                    rw [List.length_append, List.length_map, List.length_range]
                    omega
                  obtain ⟨CL, hCL⟩ : ∃ CL, Hid (C0 ++ (List.range kk).map FG = CL) := ⟨_, rfl⟩
                  rw [hCL.out] at hC hrs hkl2
                  have hkl := hkl2
                  clear hkl2
                  obtain ⟨X, hXe⟩ : ∃ X, Hid (FG kk = X) := ⟨_, rfl⟩
                  rw [hXe.out] at hrs hval
                  have hMi := hide hM.out.ints
                  have hIVr := hide (hIV.out.ext hX6.out)
                  have hX3 : Hid (Ext wr (wr.alloc (.cells #[.int .i64 X] 2))) := (Ext.refl _).alloc _
                  have hG3 := hide (OwnI.ext hC.out hX3.out)
                  have hM3 := hide (OwnI.ext hM.out hX3.out)
                  have hsz3 : Hid (W5.heap.size ≤ (wr.alloc (.cells #[.int .i64 X] 2)).heap.size) := Nat.le_trans hX6.out.size hX3.out.size
                  have hblk := hide (heap_alloc_new wr (.cells #[.int .i64 X] 2))
                  have hval2 : Hid (aggL A (mem.map (fun i => (F i.toNat).getD kk 0)) 0 = X) := by show _ = _; rw [hval]; exact hmnz.out _ _
                  clear hval hvz hmnz
                  have hagg := hide (aggValue A hA0 hA5 kk mem ma va mc vc sl.length F 0 wr hMi hIVr hFk hgo.out (by have := hml.out; omega))
                  rw [hval2.out] at hagg
                  go_wp2_with (first | (go_at_call 65; refine hagg.out.mono ?_; rintro e wx ⟨rfl, hwx⟩; obtain rfl := hwx.symm) | (at_builtin; refine app_i64 rfl rfl W5.heap.size hsz3.out _ CL X rfl hG3.out wr.heap.size 1 (by rfl) hblk.out hkl.out ?_; intro g7 cap7 w7 O7 hgr7 hor7 hlt7; have hf7 : FrT 2 W5.heap.size (wr.alloc (.cells #[.int .i64 X] 2)) w7 := FrT.grown hG3.out hgr7; have hM7 : Hid (OwnI w7 W5.heap.size 3 (.slice ma mem.length mc) mem) := hf7.row hM3.out (by decide); have hX7 : Hid (Ext W5 w7) := Below.trans (hX6.out.trans hX3.out) (But.below hf7 (fun q hq => hq.1) hsz3.out); have hO7 := hide O7; clear O7 hgr7 hor7 hlt7 hf7))
                  go_roundw
                  case rel => exact ⟨kk + 1, by go_num, by omega, by rw [hrs.out]; exact hO7.out, hM7.out, hX7.out⟩
                  case measure => simp [intOf]; omega
                · obtain rfl : kk = its.length := by omega
                  have hkl' : ¬ (its.length : Int) < its.length := by omega
                  clear hkl hkk
                  go_wp2_with fail
                  go_roundw
                  case rel => exact ⟨g + 1, by go_num, by go_num, by omega, by rw [hfls.out]; exact hC.out, hX6.out⟩
                  case measure => simp [intOf]; omega
          · obtain rfl : g = NG := by omega
            have hgl' : ¬ (g : Int) < g := by omega
            clear hgl hg
            have hfl := flC_len FC its.length g
            obtain ⟨MN, hMN⟩ : ∃ MN, Hid (g * its.length = MN) := ⟨_, rfl⟩
            obtain ⟨CL, hCL⟩ : ∃ CL, Hid (flC FC its.length g = CL) := ⟨_, rfl⟩
            rw [hCL.out] at hC hfl
            rw [hMN.out] at hfl
            have hCi := hide hC
            obtain ⟨ca, cc, rfl, hca⟩ := hC.out.form
            rw [hfl] at hC ⊢
            have hB9 := hide (hB0.out.ext (hX.out.trans hX5.out))
            have hsW := hB0.out.lt
            have hsX := hX.out.size
            have hXf : Hid (Ext w wr) := hXw.out.trans hX5.out
            by_cases hl0 : 0 ≤ li
            · obtain ⟨l, rfl⟩ := Int.eq_ofNat_of_zero_le hl0
              have hl0' : (0 : Int) ≤ (l : Int) := by omega
              by_cases hlM : l < g
              · have hlM' : (l : Int) < (g : Nat) := by omega
                have hres : Hid (R = flC FC its.length l) := by
                  show _ = _
                  rw [hrun.out]
                  congr 1
                  unfold lim
                  rw [if_pos ⟨hl0, by omega⟩, Int.toNat_natCast]
                obtain ⟨LN, hLN⟩ : ∃ LN, Hid (l * its.length = LN) := ⟨_, rfl⟩
                have hmul : (l : Int) * (its.length : Int) = (LN : Int) := by rw [← hLN.out]; simp
                have hMb : MN ≤ 4295032832 := by rw [← hMN.out]; exact Nat.mul_le_mul (show g ≤ 65537 by omega) l2
                have hle : LN ≤ MN := by rw [← hLN.out, ← hMN.out]; exact Nat.mul_le_mul_right _ (by omega)
                have hpos : 0 < MN := by rw [← hMN.out]; exact Nat.mul_pos (by omega) h1.out
                have hcap : Hid (MN ≤ cc) := by have := hC.out.cap_le; show _ ≤ _; omega
                rcases hca with ⟨rfl, rfl⟩ | ⟨gC, rfl⟩
                · have := hcap.out; omega
                have hle2 : LN ≤ cc := by have := hcap.out; omega
                have hle2' : (LN : Int) ≤ cc := by omega
                have hint : Hid (IntsAt wr (some ⟨gC, 0, none⟩) R) := by
                  show IntsAt _ _ _
                  have := (OwnI.ints hC.out).take (l * its.length)
                  rw [← hCL.out, flC_take _ _ _ _ (by omega)] at this
                  rw [hres.out]
                  exact this
                have hRl : Hid (R.length = LN) := by show _ = _; rw [hres.out, flC_len, hLN.out]
                go_wp2_with (refine wpList_storeB (vs := [.int .i64 its.length, .slice (some ⟨gC, 0, none⟩) LN cc]) rfl rfl (by rfl) (by rfl) hB9.out size_res rfl (by simp [Value.oneCell']) ?_; intro w9 hb9 hg9; replace hb9 := hide hb9; replace hg9 := hide hg9)
                refine bodyPost_ret (results_cell1 rfl (by rfl) hb9.out Yabn.underlying34 size_res) rfl ?_
                have hgl := (OwnI.lt hC.out).1
                refine ⟨some ⟨gC, 0, none⟩, cc, by first | (rw [hRl.out]; done) | (rw [hRl.out]; rfl), ?_, OwnI.abv hC.out (by omega), hXf.out.grown hg9.out (fun q hq => by cases hq; exact Nat.le_refl _)⟩
                have := OwnI.kept hC.out hg9.out (by omega)
                have h2 := (OwnI.ints this).take (l * its.length)
                rw [← hCL.out, flC_take _ _ _ _ (by omega)] at h2
                rw [hres.out]
                exact h2
              · have hlM' : ¬ (l : Int) < (g : Nat) := by omega
                have hres : Hid (R = CL) := by
                  show _ = _
                  rw [hrun.out, ← hCL.out]
                  congr 1
                  unfold lim
                  rw [if_neg (by omega)]
                have hRl : Hid (R.length = MN) := by show _ = _; rw [hres.out, hfl]
                go_wp2_with (refine wpList_storeB (vs := [.int .i64 its.length, .slice ca MN cc]) rfl rfl (by rfl) (by rfl) hB9.out size_res rfl (by simp [Value.oneCell']) ?_; intro w9 hb9 hg9; replace hb9 := hide hb9; replace hg9 := hide hg9)
                refine bodyPost_ret (results_cell1 rfl (by rfl) hb9.out Yabn.underlying34 size_res) rfl ?_
                refine ⟨ca, cc, by first | (rw [hRl.out]; done) | (rw [hRl.out]; rfl), ?_, OwnI.abv hC.out (by omega), hXf.out.grown hg9.out (fun q hq => by cases hq; exact Nat.le_refl _)⟩
                rw [hres.out]
                exact OwnI.ints (OwnI.kept hC.out hg9.out (by omega))
            · have hl0' : ¬ (0 : Int) ≤ li := by omega
              have hres : Hid (R = CL) := by
                show _ = _
                rw [hrun.out, ← hCL.out]
                congr 1
                unfold lim
                rw [if_neg (by omega)]
              have hRl : Hid (R.length = MN) := by show _ = _; rw [hres.out, hfl]
              go_wp2_with (refine wpList_storeB (vs := [.int .i64 its.length, .slice ca MN cc]) rfl rfl (by rfl) (by rfl) hB9.out size_res rfl (by simp [Value.oneCell']) ?_; intro w9 hb9 hg9; replace hb9 := hide hb9; replace hg9 := hide hg9)
              refine bodyPost_ret (results_cell1 rfl (by rfl) hb9.out Yabn.underlying34 size_res) rfl ?_
              refine ⟨ca, cc, by first | (rw [hRl.out]; done) | (rw [hRl.out]; rfl), ?_, OwnI.abv hC.out (by omega), hXf.out.grown hg9.out (fun q hq => by cases hq; exact Nat.le_refl _)⟩
              rw [hres.out]
              exact OwnI.ints (OwnI.kept hC.out hg9.out (by omega))
    · have hsb : ((sl.length : Int) == 0) = false := beq_eq_false_iff_ne.2 (by omega)
      have hsp : Hid (0 < sl.length) := by show _ < _; omega
      have hX3 : Hid (Ext w3 w3) := Ext.refl w3
      replace hs0 := hide hs0
      clear hNGk hgz
      as_aux_lemma =>
        go_wp2_with fail
        obtain ⟨W5, rfl⟩ : ∃ W5, W5 = w3 := ⟨_, rfl⟩
        have hXw5 : Hid (Ext w W5) := (hXw.out.trans x3.out).trans hX3.out
        have hX15 : Hid (Ext W1 W5) := x3.out.trans hX3.out
        replace hIV := hide (hIV.out.ext hX15.out)
        replace hGI := hide (hGI.out.ext hX3.out)
        have hzf : Hid (0 < sl.length ∨ NG = 0) := .inl hsp.out
        clear x3 hX3 hSi
        replace hX := hide (hX.out.trans hX15.out)
        replace hXw := hXw5
        clear hX15
        go_wp2_with fail
        go_loopw [23, 24, 31] (fun v o i wr => ∃ g : Nat, i = .int .i64 g ∧ o = .int .i64 g ∧ g ≤ NG ∧ Hid (OwnI wr W5.heap.size 2 v (flC FC its.length g)) ∧ Hid (Ext W5 wr)) (fun _ _ i _ => NG - (intOf i).toNat)
        case atStart => exact ⟨0, rfl, rfl, Nat.zero_le _, by rw [show flC FC its.length 0 = [] by simp [flC]]; exact OwnI.nil _ _ _, Ext.refl W5⟩
        obtain ⟨g, rfl, rfl, hg, hC, hX5⟩ := hrel
        by_cases hgl : g < NG
        · have hgl' : (g : Int) < NG := by omega
          have hflg : Hid ((flC FC its.length g).length = g * its.length) := flC_len _ _ _
          have hfls := hide (flC_succ FC its.length g)
          obtain ⟨C0, hC0⟩ : ∃ C0, Hid (flC FC its.length g = C0) := ⟨_, rfl⟩
          rw [hC0.out] at hC hflg hfls
          obtain ⟨W6, rfl⟩ : ∃ W6, W6 = wr := ⟨_, rfl⟩
          as_aux_lemma =>
            go_wp2_with fail
            go_loopw [32, 33] (fun v i wr => ∃ j : Nat, i = .int .i64 j ∧ j ≤ sl.length ∧ Hid (OwnI wr W6.heap.size 3 v (memG ids g j)) ∧ Hid (Ext W6 wr)) (fun _ i _ => sl.length - (intOf i).toNat)
            case atStart => exact ⟨0, rfl, Nat.zero_le _, OwnI.nil _ _ _, Ext.refl W6⟩
            obtain ⟨j, rfl, hj, hM, hX6⟩ := hrel
            by_cases hjl : j < sl.length
            · have hjl' : (j : Int) < sl.length := by omega
              obtain ⟨b1, o1, e1, c1⟩ := (hGI.out.ext (hX5.out.trans hX6.out)) j (by rw [hidl.out]; exact hjl)
              cases e1
              have hmn : memG ids g (j + 1) = if ids.getD j 0 = (g : Int) then memG ids g j ++ [(j : Int)] else memG ids g j := rfl
              have hln : Hid ((memG ids g j).length < 2 ^ 39) := by have := memG_len ids g j; show _ < _; omega
              obtain ⟨y, hy⟩ : ∃ y, Hid (ids.getD j 0 = y) := ⟨_, rfl⟩
              rw [hy.out] at c1 hmn
              by_cases hyg : y = (g : Int)
              · have hygb : (y == (g : Int)) = true := by simp [hyg]
                rw [if_pos hyg] at hmn
                replace hmn := hide hmn
                replace hyg := hide hyg
                obtain ⟨ML, hML⟩ : ∃ ML, Hid (memG ids g j = ML) := ⟨_, rfl⟩
                rw [hML.out] at hM hln hmn
                have hX3 : Hid (Ext wr (wr.alloc (.cells #[.int .i64 (j : Int)] 3))) := (Ext.refl _).alloc _
                have hG3 := hide (OwnI.ext hM.out hX3.out)
                have hsz3 : Hid (W6.heap.size ≤ (wr.alloc (.cells #[.int .i64 (j : Int)] 3)).heap.size) := Nat.le_trans hX6.out.size hX3.out.size
                have hblk := hide (heap_alloc_new wr (.cells #[.int .i64 (j : Int)] 3))
                go_wp2_with (at_builtin; refine app_int rfl rfl W6.heap.size hsz3.out _ ML (j : Int) rfl hG3.out wr.heap.size 1 (by rfl) hblk.out hln.out ?_; intro g7 cap7 w7 O7 hgr7 hor7 hlt7; have hX7 : Hid (Ext W6 w7) := (hX6.out.trans hX3.out).grown hgr7 (fun q hq => (World.ownsRow.lt hG3.out q hq).1); have hO7 := hide O7; clear O7 hgr7 hor7 hlt7)
                go_roundw
                case rel => exact ⟨j + 1, by go_num, by omega, by rw [hmn.out]; exact hO7.out, hX7.out⟩
                case measure => simp [intOf]; omega
              · have hygb : (y == (g : Int)) = false := by simp [hyg]
                rw [if_neg hyg] at hmn
                replace hmn := hide hmn
                replace hyg := hide hyg
                go_wp2_with fail
                go_roundw
                case rel => exact ⟨j + 1, by go_num, by omega, by rw [hmn.out]; exact hM.out, hX6.out⟩
                case measure => simp [intOf]; omega
            · obtain rfl : j = sl.length := by omega
              have hjl' : ¬ (sl.length : Int) < sl.length := by omega
              have hml : Hid ((memG ids g sl.length).length ≤ sl.length) := memG_len _ _ _
              have hgo : Hid (∀ i, i < (memG ids g sl.length).length → ∃ j : Nat, j < sl.length ∧ (memG ids g sl.length).getD i 0 = (j : Int)) := fun i hi => by
                obtain ⟨j, h1, h2, _⟩ := (memG_mem ids g _ sl.length).1 (getD_mem_J _ i hi)
                exact ⟨j, h1, h2⟩
              have hmn := hide (hmne.out g hgl)
              have hFCg := hide (hFCv.out g)
              obtain ⟨mem, hmem⟩ : ∃ mem, Hid (memG ids g sl.length = mem) := ⟨_, rfl⟩
              rw [hmem.out] at hM hml hgo hmn hFCg
              obtain ⟨ma, mc, rfl, _⟩ := hM.out.form
              have hM5 := hide (OwnI.mono hM.out hX5.out.size)
              have hC6 := hide (OwnI.ext hC.out hX6.out)
              have hX56 : Hid (Ext W5 wr) := hX5.out.trans hX6.out
              clear hmem hM hC hX5 hX6 hjl hj
              obtain ⟨FG, hFG⟩ : ∃ FG, Hid (FC g = FG) := ⟨_, rfl⟩
              rw [hFG.out] at hFCg hfls
              go_wp2_with fail
              go_loopw [23, 34] (fun v i wr => ∃ kk : Nat, i = .int .i64 kk ∧ kk ≤ its.length ∧ Hid (OwnI wr W5.heap.size 2 v (C0 ++ (List.range kk).map FG)) ∧ Hid (OwnI wr W5.heap.size 3 (.slice ma mem.length mc) mem) ∧ Hid (Ext W5 wr)) (fun _ i _ => its.length - (intOf i).toNat)
              case atStart => exact ⟨0, rfl, Nat.zero_le _, by simpa using hC6, hM5, hX56⟩
              clear hC6 hM5 hX56
              obtain ⟨kk, rfl, hkk, hC, hM, hX6⟩ := hrel
              by_cases hkl : kk < its.length
              · have hkl' : (kk : Int) < its.length := by omega
                obtain ⟨b3, o3, e3, g1, g2⟩ := (hit.out.ext (hXw.out.trans hX6.out)) kk hkl
                have hitj := hits.out _ (getD_mem_it its kk hkl)
                have hval := hFCg.out kk
                have hvz : itV ⟨nc, nd, wh, its, gr, li, true⟩ (List.replicate k 0) kk = if (its.getD kk (0, 0)).2 < 0 then 0 else evX nd (List.replicate k 0) (its.getD kk (0, 0)).2.toNat := rfl
                have hmap : Hid (mem.map (fun i => vJ ⟨nc, nd, wh, its, gr, li, true⟩ rows sl i.toNat kk) = mem.map (fun i => (F i.toNat).getD kk 0)) := List.map_congr_left (fun i _ => (hivf.out i.toNat kk hkl).symm)
                have hFk : Hid (∀ j, j < sl.length → kk < (F j).length) := fun j _ => by rw [hivl.out]; exact hkl
                rw [hmap.out] at hval
                have hmnz : Hid (∀ z z', aggL (its.getD kk (0, 0)).1 (mem.map (fun i => (F i.toNat).getD kk 0)) z = aggL (its.getD kk (0, 0)).1 (mem.map (fun i => (F i.toNat).getD kk 0)) z') := fun z z' => aggL_z z z' (fun e => by rcases hzf.out with h | h; exact hmn.out h (by simpa using e); omega)
                clear hmap
                generalize its.getD kk (0, 0) = itj at *
                obtain ⟨A, E⟩ := itj
                simp only at g1 g2 hval hvz
                obtain ⟨hA0, hA5, hite⟩ := hitj
                simp only at hA0 hA5 hite
                cases e3
                have hrs : Hid (C0 ++ (List.range (kk + 1)).map FG = (C0 ++ (List.range kk).map FG) ++ [FG kk]) := by show _ = _; rw [List.range_succ, List.map_append, List.append_assoc]; rfl
                have hkl2 : Hid ((C0 ++ (List.range kk).map FG).length < 2 ^ 39) := by
                  have hmul : g * its.length ≤ 65537 * 65536 := Nat.mul_le_mul (by omega) l2
                  have := hflg.out
                  show _ < _
                  rw [List.length_append, List.length_map, List.length_range]
                  omega
                obtain ⟨CL, hCL⟩ : ∃ CL, Hid (C0 ++ (List.range kk).map FG = CL) := ⟨_, rfl⟩
                rw [hCL.out] at hC hrs hkl2
                have hkl := hkl2
                clear hkl2
                obtain ⟨X, hXe⟩ : ∃ X, Hid (FG kk = X) := ⟨_, rfl⟩
                rw [hXe.out] at hrs hval
                have hMi := hide hM.out.ints
                have hIVr := hide (hIV.out.ext hX6.out)
                have hX3 : Hid (Ext wr (wr.alloc (.cells #[.int .i64 X] 2))) := (Ext.refl _).alloc _
                have hG3 := hide (OwnI.ext hC.out hX3.out)
                have hM3 := hide (OwnI.ext hM.out hX3.out)
                have hsz3 : Hid (W5.heap.size ≤ (wr.alloc (.cells #[.int .i64 X] 2)).heap.size) := Nat.le_trans hX6.out.size hX3.out.size
                have hblk := hide (heap_alloc_new wr (.cells #[.int .i64 X] 2))
                have hval2 : Hid (aggL A (mem.map (fun i => (F i.toNat).getD kk 0)) 0 = X) := by show _ = _; rw [hval]; exact hmnz.out _ _
                clear hval hvz hmnz
                have hagg := hide (aggValue A hA0 hA5 kk mem ma va mc vc sl.length F 0 wr hMi hIVr hFk hgo.out (by have := hml.out; omega))
                rw [hval2.out] at hagg
                go_wp2_with (first | (go_at_call 65; refine hagg.out.mono ?_; rintro e wx ⟨rfl, hwx⟩; obtain rfl := hwx.symm) | (at_builtin; refine app_i64 rfl rfl W5.heap.size hsz3.out _ CL X rfl hG3.out wr.heap.size 1 (by rfl) hblk.out hkl.out ?_; intro g7 cap7 w7 O7 hgr7 hor7 hlt7; have hf7 : FrT 2 W5.heap.size (wr.alloc (.cells #[.int .i64 X] 2)) w7 := FrT.grown hG3.out hgr7; have hM7 : Hid (OwnI w7 W5.heap.size 3 (.slice ma mem.length mc) mem) := hf7.row hM3.out (by decide); have hX7 : Hid (Ext W5 w7) := Below.trans (hX6.out.trans hX3.out) (But.below hf7 (fun q hq => hq.1) hsz3.out); have hO7 := hide O7; clear O7 hgr7 hor7 hlt7 hf7))
                go_roundw
                case rel => exact ⟨kk + 1, by go_num, by omega, by rw [hrs.out]; exact hO7.out, hM7.out, hX7.out⟩
                case measure => simp [intOf]; omega
              · obtain rfl : kk = its.length := by omega
                have hkl' : ¬ (its.length : Int) < its.length := by omega
                clear hkl hkk
                go_wp2_with fail
                go_roundw
                case rel => exact ⟨g + 1, by go_num, by go_num, by omega, by rw [hfls.out]; exact hC.out, hX6.out⟩
                case measure => simp [intOf]; omega
        · obtain rfl : g = NG := by omega
          have hgl' : ¬ (g : Int) < g := by omega
          clear hgl hg
          have hfl := flC_len FC its.length g
          obtain ⟨MN, hMN⟩ : ∃ MN, Hid (g * its.length = MN) := ⟨_, rfl⟩
          obtain ⟨CL, hCL⟩ : ∃ CL, Hid (flC FC its.length g = CL) := ⟨_, rfl⟩
          rw [hCL.out] at hC hfl
          rw [hMN.out] at hfl
          have hCi := hide hC
          obtain ⟨ca, cc, rfl, hca⟩ := hC.out.form
          rw [hfl] at hC ⊢
          have hB9 := hide (hB0.out.ext (hX.out.trans hX5.out))
          have hsW := hB0.out.lt
          have hsX := hX.out.size
          have hXf : Hid (Ext w wr) := hXw.out.trans hX5.out
          by_cases hl0 : 0 ≤ li
          · obtain ⟨l, rfl⟩ := Int.eq_ofNat_of_zero_le hl0
            have hl0' : (0 : Int) ≤ (l : Int) := by omega
            by_cases hlM : l < g
            · have hlM' : (l : Int) < (g : Nat) := by omega
              have hres : Hid (R = flC FC its.length l) := by
                show _ = _
                rw [hrun.out]
                congr 1
                unfold lim
                rw [if_pos ⟨hl0, by omega⟩, Int.toNat_natCast]
              obtain ⟨LN, hLN⟩ : ∃ LN, Hid (l * its.length = LN) := ⟨_, rfl⟩
              have hmul : (l : Int) * (its.length : Int) = (LN : Int) := by rw [← hLN.out]; simp
              have hMb : MN ≤ 4295032832 := by rw [← hMN.out]; exact Nat.mul_le_mul (show g ≤ 65537 by omega) l2
              have hle : LN ≤ MN := by rw [← hLN.out, ← hMN.out]; exact Nat.mul_le_mul_right _ (by omega)
              have hpos : 0 < MN := by rw [← hMN.out]; exact Nat.mul_pos (by omega) h1.out
              have hcap : Hid (MN ≤ cc) := by have := hC.out.cap_le; show _ ≤ _; omega
              rcases hca with ⟨rfl, rfl⟩ | ⟨gC, rfl⟩
              · have := hcap.out; omega
              have hle2 : LN ≤ cc := by have := hcap.out; omega
              have hle2' : (LN : Int) ≤ cc := by omega
              have hint : Hid (IntsAt wr (some ⟨gC, 0, none⟩) R) := by
                show IntsAt _ _ _
                have := (OwnI.ints hC.out).take (l * its.length)
                rw [← hCL.out, flC_take _ _ _ _ (by omega)] at this
                rw [hres.out]
                exact this
              have hRl : Hid (R.length = LN) := by show _ = _; rw [hres.out, flC_len, hLN.out]
              go_wp2_with (refine wpList_storeB (vs := [.int .i64 its.length, .slice (some ⟨gC, 0, none⟩) LN cc]) rfl rfl (by rfl) (by rfl) hB9.out size_res rfl (by simp [Value.oneCell']) ?_; intro w9 hb9 hg9; replace hb9 := hide hb9; replace hg9 := hide hg9)
              refine bodyPost_ret (results_cell1 rfl (by rfl) hb9.out Yabn.underlying34 size_res) rfl ?_
              have hgl := (OwnI.lt hC.out).1
              refine ⟨some ⟨gC, 0, none⟩, cc, by first | (rw [hRl.out]; done) | (rw [hRl.out]; rfl), ?_, OwnI.abv hC.out (by omega), hXf.out.grown hg9.out (fun q hq => by cases hq; exact Nat.le_refl _)⟩
              have := OwnI.kept hC.out hg9.out (by omega)
              have h2 := (OwnI.ints this).take (l * its.length)
              rw [← hCL.out, flC_take _ _ _ _ (by omega)] at h2
              rw [hres.out]
              exact h2
            · have hlM' : ¬ (l : Int) < (g : Nat) := by omega
              have hres : Hid (R = CL) := by
                show _ = _
                rw [hrun.out, ← hCL.out]
                congr 1
                unfold lim
                rw [if_neg (by omega)]
              have hRl : Hid (R.length = MN) := by show _ = _; rw [hres.out, hfl]
              go_wp2_with (refine wpList_storeB (vs := [.int .i64 its.length, .slice ca MN cc]) rfl rfl (by rfl) (by rfl) hB9.out size_res rfl (by simp [Value.oneCell']) ?_; intro w9 hb9 hg9; replace hb9 := hide hb9; replace hg9 := hide hg9)
              refine bodyPost_ret (results_cell1 rfl (by rfl) hb9.out Yabn.underlying34 size_res) rfl ?_
              refine ⟨ca, cc, by first | (rw [hRl.out]; done) | (rw [hRl.out]; rfl), ?_, OwnI.abv hC.out (by omega), hXf.out.grown hg9.out (fun q hq => by cases hq; exact Nat.le_refl _)⟩
              rw [hres.out]
              exact OwnI.ints (OwnI.kept hC.out hg9.out (by omega))
          · have hl0' : ¬ (0 : Int) ≤ li := by omega
            have hres : Hid (R = CL) := by
              show _ = _
              rw [hrun.out, ← hCL.out]
              congr 1
              unfold lim
              rw [if_neg (by omega)]
            have hRl : Hid (R.length = MN) := by show _ = _; rw [hres.out, hfl]
            go_wp2_with (refine wpList_storeB (vs := [.int .i64 its.length, .slice ca MN cc]) rfl rfl (by rfl) (by rfl) hB9.out size_res rfl (by simp [Value.oneCell']) ?_; intro w9 hb9 hg9; replace hb9 := hide hb9; replace hg9 := hide hg9)
            refine bodyPost_ret (results_cell1 rfl (by rfl) hb9.out Yabn.underlying34 size_res) rfl ?_
            refine ⟨ca, cc, by first | (rw [hRl.out]; done) | (rw [hRl.out]; rfl), ?_, OwnI.abv hC.out (by omega), hXf.out.grown hg9.out (fun q hq => by cases hq; exact Nat.le_refl _)⟩
            rw [hres.out]
            exact OwnI.ints (OwnI.kept hC.out hg9.out (by omega))
end Go.Proofs.YbyabwGreat
