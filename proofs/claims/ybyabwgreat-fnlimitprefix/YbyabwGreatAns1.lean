/- Walk: spec.answer without groups -/
import Derived.Test.YbyabwGreatAns0
import Derived.Test.YbyabwGreatNdV
import Derived.Test.YbyabwGreatAggV
namespace Go.Proofs.YbyabwGreat
open Go.RowKit
set_option maxRecDepth 100000
set_option linter.unusedVariables false
set_option linter.unusedSimpArgs false

theorem RowsI.frT {w w1 : World} {b0 base : Nat} {ss : List Value} {f : Nat → List Int} {k : Nat} (hf : FrT 3 b0 w w1) (h : RowsI w base ss f k) : RowsI w1 base ss f k := fun i hi => by
  obtain ⟨a, c, e, ho⟩ := h i hi
  exact ⟨a, c, e, hf.row ho (by decide)⟩
theorem set_same_I (xs : List Int) (j : Nat) (y : Int) (h : j < xs.length) (e : xs.getD j 0 = y) : xs.set j y = xs := by
  apply List.ext_getElem
  · simp
  · intro i h1 h2
    rw [List.getElem_set]
    split
    · rename_i hji
      subst hji
      rw [List.getD_eq_getElem?_getD, List.getElem?_eq_getElem h] at e
      exact e.symm
    · rfl
theorem mixR_ge (xs ys : List Int) (j : Nat) (h : xs.length = ys.length) (hj : j < ys.length) : (mixR xs ys j).getD j 0 = ys.getD j 0 := by
  unfold mixR
  have hl : (xs.take j).length = j := by simp; omega
  rw [List.getD_eq_getElem?_getD, List.getElem?_append_right (by omega), hl, Nat.sub_self, List.getElem?_drop, Nat.add_zero, ← List.getD_eq_getElem?_getD]
set_option maxHeartbeats 16000000 in
theorem answer_no (p : Pl) (hag : p.ag = false) (na ia ga ra : Option Addr) (cn ci cg rc : Nat) (rows : Nat → List Int) (n k : Nat) (w : World)
    (hn : Hid (NodesAt w na p.code)) (hit : Hid (PairsAt w ia p.its)) (hgr : Hid (IntsAt w ga p.gr)) (hrw : Hid (IRows w ra n rows)) (hrl : Hid (∀ i, i < n → (rows i).length = k)) (hwf : Hid (WfA p.code k)) (hwh : WhP p.code.length p.wh) (hits : Hid (∀ it ∈ p.its, ItOK p.code.length it)) (hgp : Hid (GrP k p.gr)) (h1 : 1 ≤ p.its.length) (l1 : p.code.length ≤ 65536) (l2 : p.its.length ≤ 65536) (l3 : p.gr.length ≤ 65600) (hk : k ≤ 256) (hnn : n ≤ 65536) :
    Calls Yabn.prog 26 #[.slice na p.code.length cn, .int .i64 p.wh, .slice ia p.its.length ci, .slice ga p.gr.length cg, .int .i64 p.li, .bool p.ag, .slice ra n rc, .int .i64 k] w (RetAns p.its.length (run p rows n k) w) := by
  have hrun0 : run p rows n k = flC (vJ p rows (slTo p rows n)) p.its.length (lim p.li (slTo p rows n).length) := by
    unfold run runC runM
    rw [hag]
    simp only [Bool.false_eq_true, if_false]
  obtain ⟨R, hRe⟩ : ∃ R, Hid (run p rows n k = R) := ⟨_, rfl⟩
  rw [hRe.out] at hrun0
  rw [hRe.out]
  clear hRe
  replace hrun0 := hide hrun0
  have hsl0 := slTo_len p rows
  obtain ⟨nc, nd, wh, its, gr, li, ag⟩ := p
  simp only at hn hit hgr hwf hwh hits hgp h1 l1 l2 l3 hag
  subst hag
  obtain ⟨S, hS⟩ : ∃ S, Hid (slTo ⟨nc, nd, wh, its, gr, li, false⟩ rows = S) := ⟨_, rfl⟩
  have hsl : Hid (∀ t, (S t).length ≤ t) := by show ∀ _, _; rw [← hS.out]; exact hsl0
  have hS0 : Hid (S 0 = []) := by show _ = _; rw [← hS.out]; rfl
  obtain ⟨F, hF⟩ : ∃ F, Hid (ivF ⟨nc, nd, wh, its, gr, li, false⟩ rows (S n) = F) := ⟨_, rfl⟩
  have hsb : Hid (∀ t, t < n → selB ⟨nc, nd, wh, its, gr, li, false⟩ (rows t) = true → S (t + 1) = S t ++ [(t : Int)] ∧ F (S t).length = itsV ⟨nc, nd, wh, its, gr, li, false⟩ (rows t)) := fun t ht hb => by
    rw [← hF.out, ← hS.out]
    refine ⟨slTo_yes hb, ?_⟩
    unfold ivF
    rw [slTo_at ht hb, Int.toNat_natCast]
  have hsn : Hid (∀ t, selB ⟨nc, nd, wh, its, gr, li, false⟩ (rows t) = false → S (t + 1) = S t) := fun t hb => by
    rw [← hS.out]
    exact slTo_no hb
  clear hsl0
  have hX0 : Hid (Ext w (w.alloc (.cells #[.int .i64 0, .slice none 0 0] 34))) := (Ext.refl w).alloc _
  have hB0 : Hid (Blk (w.alloc (.cells #[.int .i64 0, .slice none 0 0] 34)) w.heap.size 34 rsz) := Blk.new w _ _
  replace h1 := hide h1
  go_enter Yabn.func26, Yabn.ntmps26
  go_wp2_with fail
  generalize (w.alloc (.cells #[.int .i64 0, .slice none 0 0] 34)) = W at *
  go_loopw [17, 18, 19] (fun v u i wr => ∃ (t : Nat) (ss : List Value), i = .int .i64 t ∧ t ≤ n ∧ Hid (OwnI wr W.heap.size 3 v (S t)) ∧ Hid (wr.ownsRow W.heap.size 23 1 u (S t).length ss) ∧ Hid (RowsI wr W.heap.size ss F (S t).length) ∧ Hid (Ext W wr)) (fun _ _ i _ => n - (intOf i).toNat)
  case atStart => exact ⟨0, [], rfl, Nat.zero_le _, by rw [hS0.out]; exact OwnI.nil _ _ _, by rw [hS0.out]; exact World.ownsRow_nil _ _ _ _, fun j hj => by rw [hS0.out] at hj; simp at hj, Ext.refl W⟩
  obtain ⟨t, ss, rfl, ht, hO, hV, hR, hX⟩ := hrel
  by_cases hlt : t < n
  · have hlt' : (t : Int) < n := by omega
    obtain ⟨b0, o0, a0, c0, e0, cl0, in0⟩ := (hrw.out.ext (hX0.out.trans hX.out)) t hlt
    cases e0
    have hrl0 := hide (hrl.out t hlt)
    rw [hrl0.out] at cl0
    replace in0 := hide in0
    have hsbt := hide (hsb.out t hlt)
    have hsnt := hide (hsn.out t)
    have hoat := hide (itsV_at ⟨nc, nd, wh, its, gr, li, false⟩ (rows t))
    have holt := hide (itsV_len ⟨nc, nd, wh, its, gr, li, false⟩ (rows t))
    have hNr := hide (hn.out.ext (hX0.out.trans hX.out))
    go_wp2_with fail
    refine (nodeValues nd (rows t) na a0 cn c0 k wr hNr in0 (by omega) hrl0.out (by omega) hwf).mono ?_
    rintro e w1 ⟨va, vc, rfl, hU, x1⟩
    have hUl0 := evTo_len nd (rows t) nd.length
    have hUa0 : ∀ x, x < nd.length → (evTo nd (rows t) nd.length).getD x 0 = evX nd (rows t) x := fun x hx => evTo_at nd (rows t) nd.length x hx
    have hUi0 := hU.ints
    obtain ⟨U, hUe⟩ : ∃ U, Hid (evTo nd (rows t) nd.length = U) := ⟨_, rfl⟩
    rw [hUe.out] at hUl0 hUa0 hUi0
    have hlen9 : (evTo nd (rows t) nd.length).length = nd.length := by rw [hUe.out]; exact hUl0
    rw [hlen9]
    have hUl : Hid (U.length = nd.length) := hUl0
    have hUi : Hid (IntsAt w1 va U) := hUi0
    have hX1 : Hid (Ext W w1) := hX.out.trans x1
    have hXw : Hid (Ext w w1) := hX0.out.trans hX1.out
    replace x1 := hide x1
    obtain ⟨OT, hOT⟩ : ∃ OT, Hid (itsV ⟨nc, nd, wh, its, gr, li, false⟩ (rows t) = OT) := ⟨_, rfl⟩
    rw [hOT.out] at hsbt hoat holt
    have hOl : Hid (OT.length = its.length) := holt.out
    have hOa : Hid (∀ j, j < its.length → OT.getD j 0 = if (its.getD j (0, 0)).2 < 0 then 0 else U.getD (its.getD j (0, 0)).2.toNat 0) := fun j hj => by
      rw [hoat.out j hj]
      unfold itV
      simp only
      by_cases hneg : (its.getD j (0, 0)).2 < 0
      · rw [if_pos hneg, if_pos hneg]
      · rw [if_neg hneg, if_neg hneg]
        have := hits.out _ (getD_mem_it its j hj)
        obtain ⟨_, _, h⟩ := this
        rw [hUa0 _ (by omega)]
    clear hUl0 hUi0 hU hlen9 hoat holt cl0
    rcases hwh with hw | ⟨hw0, hw1⟩
    · have hwb : (wh != -1) = false := by simp [hw]
      have hsel : selB ⟨nc, nd, wh, its, gr, li, false⟩ (rows t) = true := by unfold selB; simp [hw]
      have hst : Hid (S (t + 1) = S t ++ [(t : Int)]) := (hsbt.out hsel).1
      have hFt : Hid (F (S t).length = OT) := (hsbt.out hsel).2
      replace hw := hide hw
      clear hsel hUa0 hsbt hsnt hS hF hsb hsn
      as_aux_lemma =>
        go_wp2_with (at_make; refine mk_i64 rfl rfl its.length rfl rfl (by omega) w1.heap.size rfl ?_; intro w2 O2 x2 z2; replace O2 := hide O2; replace x2 := hide x2)
        go_loopw [22] (fun i wr => ∃ j : Nat, i = .int .i64 j ∧ j ≤ its.length ∧ Hid (OwnI wr w1.heap.size 2 (.slice (some ⟨w1.heap.size, 0, none⟩) its.length its.length) (mixR OT (List.replicate its.length 0) j)) ∧ Hid (Ext w1 wr)) (fun i _ => its.length - (intOf i).toNat)
        case atStart => exact ⟨0, rfl, Nat.zero_le _, by rw [mixR_zero]; exact O2, x2⟩
        clear O2 x2 z2
        obtain ⟨j, rfl, hj, hOn, hE1⟩ := hrel
        have hml : Hid ((mixR OT (List.replicate its.length 0) j).length = its.length) := by show _ = _; rw [mixR_len _ _ _ (by simp [hOl.out])]; simp
        by_cases hjl : j < its.length
        · have hjl' : (j : Int) < its.length := by omega
          obtain ⟨b3, o3, e3, g1, g2⟩ := (hit.out.ext (hXw.out.trans hE1.out)) j hjl
          have hitj := hits.out _ (getD_mem_it its j hjl)
          have hoa := hOa.out j hjl
          have hset := mixR_set OT (List.replicate its.length 0) j (by simp [hOl.out]) (by rw [hOl.out]; exact hjl)
          generalize its.getD j (0, 0) = itj at *
          obtain ⟨A, E⟩ := itj
          simp only at g1 g2 hoa
          obtain ⟨_, _, hite⟩ := hitj
          simp only at hite
          cases e3
          by_cases hE0 : 0 ≤ E
          · obtain ⟨x, rfl⟩ := Int.eq_ofNat_of_zero_le hE0
            have hx9 : x < nd.length := by omega
            rw [if_neg (by omega), Int.toNat_natCast] at hoa
            rw [hoa] at hset
            replace hset := hide hset
            obtain ⟨b4, o4, e4, c4⟩ := (hUi.out.ext hE1.out) x (by rw [hUl.out]; exact hx9)
            cases e4
            have hxu : (x : Int) < nd.length := by omega
            generalize U.getD x 0 = Y at *
            clear hite hoa g1
            go_wp2_with (refine wpList_stI (g := w1.heap.size) (i := j) (u := Y) rfl rfl (by rfl) (by rfl) hOn.out hml.out.symm (by rw [hml.out]; exact hjl) size_int64 ?_; intro w3 hU3 hg3; have hO9 := hide (hU3.congr hset.out); have hX9 : Hid (Ext w1 w3) := hE1.out.grown hg3 (fun q hq => by cases hq; exact Nat.le_refl _); clear hU3 hg3)
            go_roundw
            case rel => exact ⟨j + 1, by go_num, by omega, hO9.out, hX9.out⟩
            case measure => simp [intOf]; omega
          · rw [if_pos (by omega)] at hoa
            rw [hoa] at hset
            have hsk : Hid (mixR OT (List.replicate its.length 0) (j + 1) = mixR OT (List.replicate its.length 0) j) := by
              show _ = _
              rw [← hset]
              exact set_same_I _ _ _ (by rw [hml.out]; exact hjl) (by rw [mixR_ge _ _ _ (by simp [hOl.out]) (by simpa using hjl)]; simp [hjl])
            clear hset hite hoa g1
            go_wp2_with fail
            go_roundw
            case rel => exact ⟨j + 1, by go_num, by omega, by rw [hsk.out]; exact hOn.out, hE1.out⟩
            case measure => simp [intOf]; omega
        · have hjl' : ¬ (j : Int) < its.length := by omega
          obtain rfl : j = its.length := by omega
          have hfin : Hid (mixR OT (List.replicate its.length 0) its.length = OT) := by
            have := mixR_all OT (List.replicate its.length 0) (by simp [hOl.out])
            rw [hOl.out] at this
            exact this
          rw [hfin.out] at hOn
          clear hml hfin hjl hj
          have hO1 := hide (OwnI.ext hO.out (x1.out.trans hE1.out))
          have hV1 := hide (ownsRow_ext hV.out (x1.out.trans hE1.out))
          have hR1 := hide (hR.out.ext (x1.out.trans hE1.out))
          have hXr : Hid (Ext W wr) := hX1.out.trans hE1.out
          have hOn2 := hide (OwnI.mono hOn.out hX1.out.size)
          have hln : Hid ((S t).length < 2 ^ 39) := by have := hsl.out t; show _ < _; omega
          have hss : Hid (ss.length = (S t).length) := by have := hV1.out.1; show _ = _; omega
          obtain ⟨St, hSt⟩ : ∃ St, Hid (S t = St) := ⟨_, rfl⟩
          rw [hSt.out] at hO1 hV1 hR1 hln hss hst hFt
          clear hOn hO hV hR
          have hX3 : Hid (Ext wr (wr.alloc (.cells #[.int .i64 (t : Int)] 3))) := (Ext.refl _).alloc _
          have hG3 := hide (OwnI.ext hO1.out hX3.out)
          have hsz3 : Hid (W.heap.size ≤ (wr.alloc (.cells #[.int .i64 (t : Int)] 3)).heap.size) := Nat.le_trans hXr.out.size hX3.out.size
          have hblk := hide (heap_alloc_new wr (.cells #[.int .i64 (t : Int)] 3))
          have hV3 := hide (ownsRow_ext hV1.out hX3.out)
          have hR3 := hide (hR1.out.ext hX3.out)
          have hOn3 := hide (OwnI.ext hOn2.out hX3.out)
          go_wp2_with (first | (at_builtin; refine app_int rfl rfl W.heap.size hsz3.out _ St (t : Int) rfl hG3.out wr.heap.size 1 (by rfl) hblk.out hln.out ?_; intro g7 cap7 w7 O7 hgr7 hor7 hlt7; have hf7 : FrT 3 W.heap.size (wr.alloc (.cells #[.int .i64 (t : Int)] 3)) w7 := FrT.grown hG3.out hgr7; have hV7 := hide (World.ownsRow.alloc (hf7.row hV3.out (by decide)) (.cells #[(.slice (some ⟨w1.heap.size, 0, none⟩) its.length its.length)] 23)); have hR7 : Hid (RowsI (w7.alloc (.cells #[(.slice (some ⟨w1.heap.size, 0, none⟩) its.length its.length)] 23)) W.heap.size ss F St.length) := (RowsI.frT hf7 hR3.out).ext ((Ext.refl w7).alloc _); have hOn7 : Hid (OwnI (w7.alloc (.cells #[(.slice (some ⟨w1.heap.size, 0, none⟩) its.length its.length)] 23)) W.heap.size 2 (.slice (some ⟨w1.heap.size, 0, none⟩) its.length its.length) OT) := OwnI.alloc (hf7.row hOn3.out (by decide)) _; have hX79 : Ext W w7 := Below.trans (hXr.out.trans hX3.out) (But.below hf7 (fun q hq => hq.1) hsz3.out); have hX7 : Hid (Ext W (w7.alloc (.cells #[(.slice (some ⟨w1.heap.size, 0, none⟩) its.length its.length)] 23))) := Ext.alloc hX79 _; have hO7 := hide (OwnI.alloc O7 (.cells #[(.slice (some ⟨w1.heap.size, 0, none⟩) its.length its.length)] 23)); have hblk2 := hide (heap_alloc_new w7 (.cells #[(.slice (some ⟨w1.heap.size, 0, none⟩) its.length its.length)] 23)); clear O7 hgr7 hor7 hlt7 hf7) | (at_builtin; refine app_rows rfl rfl W.heap.size hX7.out.size _ St.length ss (.slice (some ⟨w1.heap.size, 0, none⟩) its.length its.length) rfl hV7.out w7.heap.size 1 (by rfl) hblk2.out rfl hln.out ?_; intro g8 cap8 w8 hV8 hgr8 hlt8; have hO8 := hide (hO7.out.but hgr8 (apart_types hO7.out hV7.out (by decide))); have hX8 : Hid (Ext W w8) := hX7.out.grown hgr8 (fun q hq => (World.ownsRow.lt hV7.out q hq).1); have hV9 := hide hV8; have hgr9 := hide hgr8; clear hV8 hgr8 hlt8))
          have hR8 := hide (RowsI.snoc (w := w) (a := some ⟨w1.heap.size, 0, none⟩) (c := its.length) hR7.out hss.out hV7.out hgr9.out (by rw [hFt.out, hOl.out]; exact hOn7.out))
          go_roundw
          case rel =>
            refine ⟨t + 1, ss ++ [(.slice (some ⟨w1.heap.size, 0, none⟩) its.length its.length)], by go_num, by omega, ?_, ?_, ?_, hX8.out⟩
            · rw [hst.out]; exact hO8.out
            · rw [hst.out, List.length_append]; exact hV9.out
            · rw [hst.out, List.length_append]
              have := hR8.out
              rw [hFt.out, hOl.out] at this
              exact this
          case measure => simp [intOf]; omega
    · obtain ⟨x, rfl⟩ := Int.eq_ofNat_of_zero_le hw0
      have hxl : x < nd.length := by omega
      have hwb : ((x : Int) != -1) = true := by first | (simp; done) | (simp; omega)
      obtain ⟨b4, o4, e4, c4⟩ := hUi.out x (by rw [hUl.out]; exact hxl)
      cases e4
      have hsv : selB ⟨nc, nd, (x : Int), its, gr, li, false⟩ (rows t) = (evX nd (rows t) x != 0) := by
        unfold selB
        simp only
        rw [Int.toNat_natCast, decide_eq_false (by omega), Bool.false_or]
      rw [← hUa0 x hxl] at hsv
      obtain ⟨Z, hZ⟩ : ∃ Z, Hid (U.getD x 0 = Z) := ⟨_, rfl⟩
      rw [hZ.out] at c4 hsv
      by_cases hz : Z = 0
      · have hzb : (Z == 0) = true := by simp [hz]
        have hst : Hid (S (t + 1) = S t) := hsnt.out (by rw [hsv, hz]; rfl)
        replace hz := hide hz
        clear hsv hUa0 hsbt hsnt hS hF hsb hsn
        as_aux_lemma =>
          go_wp2_with fail
          go_roundw
          case rel => exact ⟨t + 1, ss, by go_num, by omega, by rw [hst.out]; exact OwnI.ext hO.out x1.out, by rw [hst.out]; exact ownsRow_ext hV.out x1.out, by rw [hst.out]; exact hR.out.ext x1.out, hX1.out⟩
          case measure => simp [intOf]; omega
      · have hzb : (Z == 0) = false := by simp [hz]
        have hsel : selB ⟨nc, nd, (x : Int), its, gr, li, false⟩ (rows t) = true := by rw [hsv]; simp [hz]
        have hst : Hid (S (t + 1) = S t ++ [(t : Int)]) := (hsbt.out hsel).1
        have hFt : Hid (F (S t).length = OT) := (hsbt.out hsel).2
        replace hz := hide hz
        clear hsel hsv hUa0 hsbt hsnt hS hF hsb hsn
        as_aux_lemma =>
          go_wp2_with (at_make; refine mk_i64 rfl rfl its.length rfl rfl (by omega) w1.heap.size rfl ?_; intro w2 O2 x2 z2; replace O2 := hide O2; replace x2 := hide x2)
          go_loopw [22] (fun i wr => ∃ j : Nat, i = .int .i64 j ∧ j ≤ its.length ∧ Hid (OwnI wr w1.heap.size 2 (.slice (some ⟨w1.heap.size, 0, none⟩) its.length its.length) (mixR OT (List.replicate its.length 0) j)) ∧ Hid (Ext w1 wr)) (fun i _ => its.length - (intOf i).toNat)
          case atStart => exact ⟨0, rfl, Nat.zero_le _, by rw [mixR_zero]; exact O2, x2⟩
          clear O2 x2 z2
          obtain ⟨j, rfl, hj, hOn, hE1⟩ := hrel
          have hml : Hid ((mixR OT (List.replicate its.length 0) j).length = its.length) := by show _ = _; rw [mixR_len _ _ _ (by simp [hOl.out])]; simp
          by_cases hjl : j < its.length
          · have hjl' : (j : Int) < its.length := by omega
            obtain ⟨b3, o3, e3, g1, g2⟩ := (hit.out.ext (hXw.out.trans hE1.out)) j hjl
            have hitj := hits.out _ (getD_mem_it its j hjl)
            have hoa := hOa.out j hjl
            have hset := mixR_set OT (List.replicate its.length 0) j (by simp [hOl.out]) (by rw [hOl.out]; exact hjl)
            generalize its.getD j (0, 0) = itj at *
            obtain ⟨A, E⟩ := itj
            simp only at g1 g2 hoa
            obtain ⟨_, _, hite⟩ := hitj
            simp only at hite
            cases e3
            by_cases hE0 : 0 ≤ E
            · obtain ⟨x, rfl⟩ := Int.eq_ofNat_of_zero_le hE0
              have hx9 : x < nd.length := by omega
              rw [if_neg (by omega), Int.toNat_natCast] at hoa
              rw [hoa] at hset
              replace hset := hide hset
              obtain ⟨b4, o4, e4, c4⟩ := (hUi.out.ext hE1.out) x (by rw [hUl.out]; exact hx9)
              cases e4
              have hxu : (x : Int) < nd.length := by omega
              generalize U.getD x 0 = Y at *
              clear hite hoa g1
              go_wp2_with (refine wpList_stI (g := w1.heap.size) (i := j) (u := Y) rfl rfl (by rfl) (by rfl) hOn.out hml.out.symm (by rw [hml.out]; exact hjl) size_int64 ?_; intro w3 hU3 hg3; have hO9 := hide (hU3.congr hset.out); have hX9 : Hid (Ext w1 w3) := hE1.out.grown hg3 (fun q hq => by cases hq; exact Nat.le_refl _); clear hU3 hg3)
              go_roundw
              case rel => exact ⟨j + 1, by go_num, by omega, hO9.out, hX9.out⟩
              case measure => simp [intOf]; omega
            · rw [if_pos (by omega)] at hoa
              rw [hoa] at hset
              have hsk : Hid (mixR OT (List.replicate its.length 0) (j + 1) = mixR OT (List.replicate its.length 0) j) := by
                show _ = _
                rw [← hset]
                exact set_same_I _ _ _ (by rw [hml.out]; exact hjl) (by rw [mixR_ge _ _ _ (by simp [hOl.out]) (by simpa using hjl)]; simp [hjl])
              clear hset hite hoa g1
              go_wp2_with fail
              go_roundw
              case rel => exact ⟨j + 1, by go_num, by omega, by rw [hsk.out]; exact hOn.out, hE1.out⟩
              case measure => simp [intOf]; omega
          · have hjl' : ¬ (j : Int) < its.length := by omega
            obtain rfl : j = its.length := by omega
            have hfin : Hid (mixR OT (List.replicate its.length 0) its.length = OT) := by
              have := mixR_all OT (List.replicate its.length 0) (by simp [hOl.out])
              rw [hOl.out] at this
              exact this
            rw [hfin.out] at hOn
            clear hml hfin hjl hj
            have hO1 := hide (OwnI.ext hO.out (x1.out.trans hE1.out))
            have hV1 := hide (ownsRow_ext hV.out (x1.out.trans hE1.out))
            have hR1 := hide (hR.out.ext (x1.out.trans hE1.out))
            have hXr : Hid (Ext W wr) := hX1.out.trans hE1.out
            have hOn2 := hide (OwnI.mono hOn.out hX1.out.size)
            have hln : Hid ((S t).length < 2 ^ 39) := by have := hsl.out t; show _ < _; omega
            have hss : Hid (ss.length = (S t).length) := by have := hV1.out.1; show _ = _; omega
            obtain ⟨St, hSt⟩ : ∃ St, Hid (S t = St) := ⟨_, rfl⟩
            rw [hSt.out] at hO1 hV1 hR1 hln hss hst hFt
            clear hOn hO hV hR
            have hX3 : Hid (Ext wr (wr.alloc (.cells #[.int .i64 (t : Int)] 3))) := (Ext.refl _).alloc _
            have hG3 := hide (OwnI.ext hO1.out hX3.out)
            have hsz3 : Hid (W.heap.size ≤ (wr.alloc (.cells #[.int .i64 (t : Int)] 3)).heap.size) := Nat.le_trans hXr.out.size hX3.out.size
            have hblk := hide (heap_alloc_new wr (.cells #[.int .i64 (t : Int)] 3))
            have hV3 := hide (ownsRow_ext hV1.out hX3.out)
            have hR3 := hide (hR1.out.ext hX3.out)
            have hOn3 := hide (OwnI.ext hOn2.out hX3.out)
            go_wp2_with (first | (at_builtin; refine app_int rfl rfl W.heap.size hsz3.out _ St (t : Int) rfl hG3.out wr.heap.size 1 (by rfl) hblk.out hln.out ?_; intro g7 cap7 w7 O7 hgr7 hor7 hlt7; have hf7 : FrT 3 W.heap.size (wr.alloc (.cells #[.int .i64 (t : Int)] 3)) w7 := FrT.grown hG3.out hgr7; have hV7 := hide (World.ownsRow.alloc (hf7.row hV3.out (by decide)) (.cells #[(.slice (some ⟨w1.heap.size, 0, none⟩) its.length its.length)] 23)); have hR7 : Hid (RowsI (w7.alloc (.cells #[(.slice (some ⟨w1.heap.size, 0, none⟩) its.length its.length)] 23)) W.heap.size ss F St.length) := (RowsI.frT hf7 hR3.out).ext ((Ext.refl w7).alloc _); have hOn7 : Hid (OwnI (w7.alloc (.cells #[(.slice (some ⟨w1.heap.size, 0, none⟩) its.length its.length)] 23)) W.heap.size 2 (.slice (some ⟨w1.heap.size, 0, none⟩) its.length its.length) OT) := OwnI.alloc (hf7.row hOn3.out (by decide)) _; have hX79 : Ext W w7 := Below.trans (hXr.out.trans hX3.out) (But.below hf7 (fun q hq => hq.1) hsz3.out); have hX7 : Hid (Ext W (w7.alloc (.cells #[(.slice (some ⟨w1.heap.size, 0, none⟩) its.length its.length)] 23))) := Ext.alloc hX79 _; have hO7 := hide (OwnI.alloc O7 (.cells #[(.slice (some ⟨w1.heap.size, 0, none⟩) its.length its.length)] 23)); have hblk2 := hide (heap_alloc_new w7 (.cells #[(.slice (some ⟨w1.heap.size, 0, none⟩) its.length its.length)] 23)); clear O7 hgr7 hor7 hlt7 hf7) | (at_builtin; refine app_rows rfl rfl W.heap.size hX7.out.size _ St.length ss (.slice (some ⟨w1.heap.size, 0, none⟩) its.length its.length) rfl hV7.out w7.heap.size 1 (by rfl) hblk2.out rfl hln.out ?_; intro g8 cap8 w8 hV8 hgr8 hlt8; have hO8 := hide (hO7.out.but hgr8 (apart_types hO7.out hV7.out (by decide))); have hX8 : Hid (Ext W w8) := hX7.out.grown hgr8 (fun q hq => (World.ownsRow.lt hV7.out q hq).1); have hV9 := hide hV8; have hgr9 := hide hgr8; clear hV8 hgr8 hlt8))
            have hR8 := hide (RowsI.snoc (w := w) (a := some ⟨w1.heap.size, 0, none⟩) (c := its.length) hR7.out hss.out hV7.out hgr9.out (by rw [hFt.out, hOl.out]; exact hOn7.out))
            go_roundw
            case rel =>
              refine ⟨t + 1, ss ++ [(.slice (some ⟨w1.heap.size, 0, none⟩) its.length its.length)], by go_num, by omega, ?_, ?_, ?_, hX8.out⟩
              · rw [hst.out]; exact hO8.out
              · rw [hst.out, List.length_append]; exact hV9.out
              · rw [hst.out, List.length_append]
                have := hR8.out
                rw [hFt.out, hOl.out] at this
                exact this
            case measure => simp [intOf]; omega
  have hlt' : ¬ (t : Int) < n := by omega
  obtain rfl : t = n := by omega
  obtain ⟨sa, sc, rfl, _⟩ := hO.out.form
  obtain ⟨va, vc, rfl⟩ := ownsRow_form hV.out
  have hIV := hide (hR.out.at hV.out)
  have hSi := hide hO.out.ints
  have hSn := hsl.out t
  have hSsel : Hid (SelOK (S t) t) := by have := slTo_sel (p := ⟨nc, nd, wh, its, gr, li, false⟩) (f := rows) t; rw [hS.out] at this; exact this
  clear hV hR hO hsb hsn hlt ht
  obtain ⟨W1, rfl⟩ : ∃ W1, W1 = wr := ⟨_, rfl⟩
  have hXw : Hid (Ext w W1) := hX0.out.trans hX.out
  have hrun1 := hrun0
  clear hrun0
  rw [hS.out] at hrun1
  have hFr := hide (ivF_range ⟨nc, nd, wh, its, gr, li, false⟩ rows (S t))
  simp only [hF.out] at hFr
  obtain ⟨FC, hFC⟩ : ∃ FC, Hid (vJ ⟨nc, nd, wh, its, gr, li, false⟩ rows (S t) = FC) := ⟨_, rfl⟩
  rw [hFC.out] at hrun1 hFr
  clear hFC hF hS
  obtain ⟨sl, hsle⟩ : ∃ sl, Hid (S t = sl) := ⟨_, rfl⟩
  rw [hsle.out] at hrun1 hIV hSi hSn hSsel ⊢
  have hrun : Hid (R = flC FC its.length (lim li sl.length)) := hrun1.out
  clear hrun1 hsle hsl hS0
  go_wp2_with fail
  go_loopw [23, 24, 25] (fun v o i wr => ∃ j : Nat, i = .int .i64 j ∧ o = .int .i64 j ∧ j ≤ sl.length ∧ Hid (OwnI wr W1.heap.size 2 v (flC FC its.length j)) ∧ Hid (Ext W1 wr)) (fun _ _ i _ => sl.length - (intOf i).toNat)
  case atStart => exact ⟨0, rfl, rfl, Nat.zero_le _, by rw [show flC FC its.length 0 = [] by simp [flC]]; exact OwnI.nil _ _ _, Ext.refl W1⟩
  obtain ⟨j, rfl, rfl, hj, hC, hX5⟩ := hrel
  by_cases hjl : j < sl.length
  · have hjl' : (j : Int) < sl.length := by omega
    obtain ⟨b5, o5, a5, c5, e5, cl5, in5⟩ := (hIV.out.ext hX5.out) j hjl
    cases e5
    have hFl : Hid ((F j).length = its.length) := by show _ = _; rw [hFr.out j]; simp
    have hfs : Hid (flC FC its.length (j + 1) = flC FC its.length j ++ F j) := by show _ = _; rw [flC_succ, hFr.out j]
    have hcl : Hid ((flC FC its.length j).length = j * its.length) := flC_len _ _ _
    rw [hFl.out] at cl5
    obtain ⟨y, hy⟩ : ∃ y, Hid (F j = y) := ⟨_, rfl⟩
    rw [hy.out] at in5 hFl hfs
    obtain ⟨b6, o6, e6, _⟩ := in5 0 (by rw [hFl.out]; exact h1.out)
    cases e6
    replace in5 := hide in5
    have hmul : j * its.length ≤ 65536 * 65536 := Nat.mul_le_mul (by omega) l2
    have hln := hide (show j * its.length + its.length < 2 ^ 39 by omega)
    generalize flC FC its.length j = CL at *
    obtain ⟨z, hz⟩ : ∃ z, Hid (CL.length = z) := ⟨_, rfl⟩
    have hzl : Hid (z + its.length < 2 ^ 39) := by have h1 := hz.out; have h2 := hcl.out; have := hln.out; show _ < _; omega
    obtain ⟨pa, pc, rfl, _⟩ := hC.out.form
    rw [hz.out] at hC ⊢
    clear hmul hcl
    have hpo := h1.out
    go_wp2_with (at_builtin; refine app_i64L rfl rfl W1.heap.size hX5.out.size _ z CL y rfl hC.out hz.out b6 o6 its.length c5 (by rfl) hFl.out hpo in5.out hzl.out ?_; intro g7 cap7 w7 O7 hgr7 hlt7; have hX7 : Hid (Ext W1 w7) := hX5.out.grown hgr7 (fun q hq => (World.ownsRow.lt hC.out q hq).1); have hO7 := hide O7; clear O7 hgr7 hlt7)
    go_roundw
    case rel => exact ⟨j + 1, by go_num, by go_num, by omega, by rw [hfs.out]; exact hO7.out, hX7.out⟩
    case measure => simp [intOf]; omega
  · obtain rfl : j = sl.length := by omega
    have hjl' : ¬ (sl.length : Int) < sl.length := by omega
    clear hjl hj
    have hfl := flC_len FC its.length sl.length
    obtain ⟨MN, hMN⟩ : ∃ MN, Hid (sl.length * its.length = MN) := ⟨_, rfl⟩
    obtain ⟨CL, hCL⟩ : ∃ CL, Hid (flC FC its.length sl.length = CL) := ⟨_, rfl⟩
    rw [hCL.out] at hC hfl
    rw [hMN.out] at hfl
    have hCi := hide hC
    obtain ⟨ca, cc, rfl, hca⟩ := hC.out.form
    rw [hfl] at hC ⊢
    have hB9 := hide (hB0.out.ext (hX.out.trans hX5.out))
    have hsW := hB0.out.lt
    have hsX := hX.out.size
    have hXf : Hid (Ext w wr) := hXw.out.trans hX5.out
    by_cases hl0 : 0 ≤ li
    · obtain ⟨l, rfl⟩ := Int.eq_ofNat_of_zero_le hl0
      have hl0' : (0 : Int) ≤ (l : Int) := by omega
      by_cases hlM : l < sl.length
      · have hlM' : (l : Int) < (sl.length : Nat) := by omega
        have hres : Hid (R = flC FC its.length l) := by
          show _ = _
          rw [hrun.out]
          congr 1
          unfold lim
          rw [if_pos ⟨hl0, by omega⟩, Int.toNat_natCast]
        obtain ⟨LN, hLN⟩ : ∃ LN, Hid (l * its.length = LN) := ⟨_, rfl⟩
        have hmul : (l : Int) * (its.length : Int) = (LN : Int) := by rw [← hLN.out]; simp
        have hMb : MN ≤ 4295032832 := by rw [← hMN.out]; exact Nat.mul_le_mul (show sl.length ≤ 65537 by omega) l2
        have hle : LN ≤ MN := by rw [← hLN.out, ← hMN.out]; exact Nat.mul_le_mul_right _ (by omega)
        have hpos : 0 < MN := by rw [← hMN.out]; exact Nat.mul_pos (by omega) h1.out
        have hcap : Hid (MN ≤ cc) := by have := hC.out.cap_le; show _ ≤ _; omega
        rcases hca with ⟨rfl, rfl⟩ | ⟨gC, rfl⟩
        · have := hcap.out; omega
        have hle2 : LN ≤ cc := by have := hcap.out; omega
        have hle2' : (LN : Int) ≤ cc := by omega
        have hint : Hid (IntsAt wr (some ⟨gC, 0, none⟩) R) := by
          show IntsAt _ _ _
          have := (OwnI.ints hC.out).take (l * its.length)
          rw [← hCL.out, flC_take _ _ _ _ (by omega)] at this
          rw [hres.out]
          exact this
        have hRl : Hid (R.length = LN) := by show _ = _; rw [hres.out, flC_len, hLN.out]
        go_wp2_with (refine wpList_storeB (vs := [.int .i64 its.length, .slice (some ⟨gC, 0, none⟩) LN cc]) rfl rfl (by rfl) (by rfl) hB9.out size_res rfl (by simp [Value.oneCell']) ?_; intro w9 hb9 hg9; replace hb9 := hide hb9; replace hg9 := hide hg9)
        refine bodyPost_ret (results_cell1 rfl (by rfl) hb9.out Yabn.underlying34 size_res) rfl ?_
        have hgl := (OwnI.lt hC.out).1
        refine ⟨some ⟨gC, 0, none⟩, cc, by first | (rw [hRl.out]; done) | (rw [hRl.out]; rfl), ?_, OwnI.abv hC.out (by omega), hXf.out.grown hg9.out (fun q hq => by cases hq; exact Nat.le_refl _)⟩
        have := OwnI.kept hC.out hg9.out (by omega)
        have h2 := (OwnI.ints this).take (l * its.length)
        rw [← hCL.out, flC_take _ _ _ _ (by omega)] at h2
        rw [hres.out]
        exact h2
      · have hlM' : ¬ (l : Int) < (sl.length : Nat) := by omega
        have hres : Hid (R = CL) := by
          show _ = _
          rw [hrun.out, ← hCL.out]
          congr 1
          unfold lim
          rw [if_neg (by omega)]
        have hRl : Hid (R.length = MN) := by show _ = _; rw [hres.out, hfl]
        go_wp2_with (refine wpList_storeB (vs := [.int .i64 its.length, .slice ca MN cc]) rfl rfl (by rfl) (by rfl) hB9.out size_res rfl (by simp [Value.oneCell']) ?_; intro w9 hb9 hg9; replace hb9 := hide hb9; replace hg9 := hide hg9)
        refine bodyPost_ret (results_cell1 rfl (by rfl) hb9.out Yabn.underlying34 size_res) rfl ?_
        refine ⟨ca, cc, by first | (rw [hRl.out]; done) | (rw [hRl.out]; rfl), ?_, OwnI.abv hC.out (by omega), hXf.out.grown hg9.out (fun q hq => by cases hq; exact Nat.le_refl _)⟩
        rw [hres.out]
        exact OwnI.ints (OwnI.kept hC.out hg9.out (by omega))
    · have hl0' : ¬ (0 : Int) ≤ li := by omega
      have hres : Hid (R = CL) := by
        show _ = _
        rw [hrun.out, ← hCL.out]
        congr 1
        unfold lim
        rw [if_neg (by omega)]
      have hRl : Hid (R.length = MN) := by show _ = _; rw [hres.out, hfl]
      go_wp2_with (refine wpList_storeB (vs := [.int .i64 its.length, .slice ca MN cc]) rfl rfl (by rfl) (by rfl) hB9.out size_res rfl (by simp [Value.oneCell']) ?_; intro w9 hb9 hg9; replace hb9 := hide hb9; replace hg9 := hide hg9)
      refine bodyPost_ret (results_cell1 rfl (by rfl) hb9.out Yabn.underlying34 size_res) rfl ?_
      refine ⟨ca, cc, by first | (rw [hRl.out]; done) | (rw [hRl.out]; rfl), ?_, OwnI.abv hC.out (by omega), hXf.out.grown hg9.out (fun q hq => by cases hq; exact Nat.le_refl _)⟩
      rw [hres.out]
      exact OwnI.ints (OwnI.kept hC.out hg9.out (by omega))
end Go.Proofs.YbyabwGreat
