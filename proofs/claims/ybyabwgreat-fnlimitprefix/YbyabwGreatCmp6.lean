/- Walk: impl.Compile -/
import Derived.Test.YbyabwGreatCmpT
import Derived.Deep.CutRange
namespace Go.Proofs.YbyabwGreat
open Go.RowKit
set_option maxRecDepth 100000
set_option linter.unusedVariables false
set_option linter.unusedSimpArgs false

theorem CI.eqw {w a b : World} {cs : List Value} (h : CI w a cs) (e : b = a) : CI w b cs := e ▸ h
theorem OwnZ.eqw {a b : World} {base : Nat} {v : Value} {xs : List Bool} (h : OwnZ a base v xs) (e : b = a) : OwnZ b base v xs := e ▸ h
set_option maxHeartbeats 32000000 in
theorem Compile (q : Qy) (ia na ga : Option Addr) (ic nc gc n : Nat) (w : World) (hI : Hid (PairsAt w ia q.its)) (hN : Hid (NodesAt w na q.nd)) (hG : Hid (IntsAt w ga q.gr))
    (hl1 : q.its.length ≤ 65536) (hl2 : q.nd.length ≤ 65536) (hl3 : q.gr.length ≤ 65600) (hn : n ≤ 65535) :
    Calls Yabn.prog 18 #[.agg (qCells q ia na ga ic nc gc).toArray, .int .i64 n] w (RetPl q n w) := by
  obtain ⟨its, nd, wh, gr, li⟩ := q
  simp only at hI hN hG hl1 hl2 hl3
  have hC : Hid (CI w ((w.alloc (.cells #[.slice ia its.length ic, .slice na nd.length nc, .int .i64 wh, .slice ga gr.length gc, .int .i64 li] 53)).alloc (.cells #[.int .i64 0, .slice none 0 0, .int .i64 0, .slice none 0 0, .slice none 0 0, .int .i64 0, .bool false] 57)) [.slice ia its.length ic, .slice na nd.length nc, .int .i64 wh, .slice ga gr.length gc, .int .i64 li]) := by
    refine ⟨(Blk.new w _ _).alloc _, ?_, ((Ext.refl w).alloc _).alloc _⟩
    have := Blk.new (w.alloc (.cells #[.slice ia its.length ic, .slice na nd.length nc, .int .i64 wh, .slice ga gr.length gc, .int .i64 li] 53)) #[.int .i64 0, .slice none 0 0, .int .i64 0, .slice none 0 0, .slice none 0 0, .int .i64 0, .bool false] 57
    rw [show (w.alloc (.cells #[.slice ia its.length ic, .slice na nd.length nc, .int .i64 wh, .slice ga gr.length gc, .int .i64 li] 53)).heap.size = w.heap.size + 1 by simp] at this
    exact this
  (try clear q0)
  (try clear q1)
  (try clear q2)
  (try clear q3)
  (try clear q4)
  have q0 := hC.out.q.box 0 _ rfl
  have q1 := hC.out.q.box 1 _ rfl
  have q2 := hC.out.q.box 2 _ rfl
  have q3 := hC.out.q.box 3 _ rfl
  have q4 := hC.out.q.box 4 _ rfl
  simp only [qCells]
  go_enter Yabn.func18, Yabn.ntmps18
  by_cases h256 : 256 < n
  · have h256' : (256 : Int) < n := by omega
    have hz : Hid (¬ CmOK ⟨its, nd, wh, gr, li⟩ n) := fun h => by have := h.n1; omega
    go_wp2_with (refine wpList_storeB (vs := plz) rfl rfl (by rfl) (by rfl) hC.out.p size_plan rfl plz_one ?_; intro w99 hb99 hgr99; replace hgr99 := hide hgr99; replace hb99 := hide hb99)
    refine bodyPost_ret (results_cell2 rfl (by rfl) hb99.out Yabn.underlying57 size_plan) rfl ?_
    exact ⟨Ext.setP hC.out hgr99.out, .inl ⟨hz.out, rfl⟩⟩
  have h256' : ¬ (256 : Int) < n := by omega
  by_cases hi1 : its.length < 1
  · have hi1' : (its.length : Int) < 1 := by omega
    have hz : Hid (¬ CmOK ⟨its, nd, wh, gr, li⟩ n) := fun h => by have := h.ni; simp only at this; omega
    go_wp2_with (refine wpList_storeB (vs := plz) rfl rfl (by rfl) (by rfl) hC.out.p size_plan rfl plz_one ?_; intro w99 hb99 hgr99; replace hgr99 := hide hgr99; replace hb99 := hide hb99)
    refine bodyPost_ret (results_cell2 rfl (by rfl) hb99.out Yabn.underlying57 size_plan) rfl ?_
    exact ⟨Ext.setP hC.out hgr99.out, .inl ⟨hz.out, rfl⟩⟩
  have hi1' : ¬ (its.length : Int) < 1 := by omega
  by_cases hlm : li < -1
  · have hz : Hid (¬ CmOK ⟨its, nd, wh, gr, li⟩ n) := fun h => by have := h.li; simp only at this; omega
    go_wp2_with (refine wpList_storeB (vs := plz) rfl rfl (by rfl) (by rfl) hC.out.p size_plan rfl plz_one ?_; intro w99 hb99 hgr99; replace hgr99 := hide hgr99; replace hb99 := hide hb99)
    refine bodyPost_ret (results_cell2 rfl (by rfl) hb99.out Yabn.underlying57 size_plan) rfl ?_
    exact ⟨Ext.setP hC.out hgr99.out, .inl ⟨hz.out, rfl⟩⟩
  have hlm' : ¬ li < -1 := hlm
  go_wp2_with fail
  generalize ((w.alloc (.cells #[.slice ia its.length ic, .slice na nd.length nc, .int .i64 wh, .slice ga gr.length gc, .int .i64 li] 53)).alloc (.cells #[.int .i64 0, .slice none 0 0, .int .i64 0, .slice none 0 0, .slice none 0 0, .int .i64 0, .bool false] 57)) = X at *
  go_loopw [7] (fun i wr => ∃ k : Nat, i = .int .i64 k ∧ k ≤ nd.length ∧ Hid (∀ j : Nat, j < k → wfP (nd.getD j nd0) j n) ∧ Hid (CI w wr [.slice ia its.length ic, .slice na nd.length nc, .int .i64 wh, .slice ga gr.length gc, .int .i64 li])) (fun i _ => nd.length - (intOf i).toNat)
  case atStart => exact ⟨0, rfl, Nat.zero_le _, fun j hj => by omega, hC⟩
  clear hC q0 q1 q2 q3 q4
  obtain ⟨k, rfl, hk, hpre, hC⟩ := hrel
  (try clear q0)
  (try clear q1)
  (try clear q2)
  (try clear q3)
  (try clear q4)
  have q0 := hC.out.q.box 0 _ rfl
  have q1 := hC.out.q.box 1 _ rfl
  have q2 := hC.out.q.box 2 _ rfl
  have q3 := hC.out.q.box 3 _ rfl
  have q4 := hC.out.q.box 4 _ rfl
  by_cases hlt : k < nd.length
  · as_aux_lemma =>
      have hlt' : (k : Int) < nd.length := by omega
      obtain ⟨b, off, rfl, g1, g2, g3, g4⟩ := (hN.out.ext hC.out.ex).get k hlt
      obtain ⟨⟨o, y, l, r⟩, hnd⟩ : ∃ m, Hid (nd.getD k nd0 = m) := ⟨_, rfl⟩
      rw [hnd.out] at g1 g2 g3 g4
      simp only at g1 g2 g3 g4
      go_wp2_with fail
      refine (impl.wellFormed o y l r k n wr).mono ?_
      rintro e w1 ⟨bz, rfl, hbz, x1⟩
      replace hC := hide (hC.out.ext x1)
      clear x1 q0 q1 q2 q3 q4 g1 g2 g3 g4
      cases bz with
      | false =>
        have hz : Hid (¬ CmOK ⟨its, nd, wh, gr, li⟩ n) := fun h => by
          have h1 := h.wf k hlt
          simp only at h1
          rw [hnd.out] at h1
          exact absurd (hbz.2 h1) (by decide)
        clear hbz
        go_wp2_with (refine wpList_storeB (vs := plz) rfl rfl (by rfl) (by rfl) hC.out.p size_plan rfl plz_one ?_; intro w99 hb99 hgr99; replace hgr99 := hide hgr99; replace hb99 := hide hb99)
        refine bodyPost_ret (results_cell2 rfl (by rfl) hb99.out Yabn.underlying57 size_plan) rfl ?_
        exact ⟨Ext.setP hC.out hgr99.out, .inl ⟨hz.out, rfl⟩⟩
      | true =>
        have hnext : Hid (∀ j : Nat, j < k + 1 → wfP (nd.getD j nd0) j n) := fun j hj => by
          by_cases hjk : j < k
          · exact hpre.out j hjk
          · obtain rfl : j = k := by omega
            rw [hnd.out]
            exact hbz.1 rfl
        clear hbz hnd hpre
        go_wp2
        go_roundw
        case rel => exact ⟨k + 1, by go_num, by omega, hnext.out, hC.out⟩
        case measure => simp [intOf]; omega
  · have hlt' : ¬ (k : Int) < nd.length := by omega
    obtain rfl : k = nd.length := by omega
    have hwf : Hid (WfA nd n) := hpre.out
    clear hpre hlt hk
    by_cases hw1 : wh < -1
    · have hz : Hid (¬ CmOK ⟨its, nd, wh, gr, li⟩ n) := fun h => by have := h.wh; unfold WhP at this; simp only at this; omega
      go_wp2_with (refine wpList_storeB (vs := plz) rfl rfl (by rfl) (by rfl) hC.out.p size_plan rfl plz_one ?_; intro w99 hb99 hgr99; replace hgr99 := hide hgr99; replace hb99 := hide hb99)
      refine bodyPost_ret (results_cell2 rfl (by rfl) hb99.out Yabn.underlying57 size_plan) rfl ?_
      exact ⟨Ext.setP hC.out hgr99.out, .inl ⟨hz.out, rfl⟩⟩
    by_cases hw2 : (nd.length : Int) ≤ wh
    · have hz : Hid (¬ CmOK ⟨its, nd, wh, gr, li⟩ n) := fun h => by have := h.wh; unfold WhP at this; simp only at this; omega
      go_wp2_with (refine wpList_storeB (vs := plz) rfl rfl (by rfl) (by rfl) hC.out.p size_plan rfl plz_one ?_; intro w99 hb99 hgr99; replace hgr99 := hide hgr99; replace hb99 := hide hb99)
      refine bodyPost_ret (results_cell2 rfl (by rfl) hb99.out Yabn.underlying57 size_plan) rfl ?_
      exact ⟨Ext.setP hC.out hgr99.out, .inl ⟨hz.out, rfl⟩⟩
    have hwp : Hid (WhP nd.length wh) := by show _ ∨ _; omega
    go_wp2_with fail
    refine (itemsOK its ia ic nd.length wr (hI.out.ext hC.out.ex) hl1).mono ?_
    rintro e w1 ⟨bz, rfl, hbz, x1⟩
    replace hC := hide (hC.out.ext x1)
    clear x1 q0 q1 q2 q3 q4
    cases bz with
    | false =>
      have hz : Hid (¬ CmOK ⟨its, nd, wh, gr, li⟩ n) := fun h => absurd (hbz.2 h.its) (by decide)
      clear hbz
      go_wp2_with (refine wpList_storeB (vs := plz) rfl rfl (by rfl) (by rfl) hC.out.p size_plan rfl plz_one ?_; intro w99 hb99 hgr99; replace hgr99 := hide hgr99; replace hb99 := hide hb99)
      refine bodyPost_ret (results_cell2 rfl (by rfl) hb99.out Yabn.underlying57 size_plan) rfl ?_
      exact ⟨Ext.setP hC.out hgr99.out, .inl ⟨hz.out, rfl⟩⟩
    | true =>
      have hits : Hid (ItsOK nd.length its) := hbz.1 rfl
      clear hbz
      have hBs : Hid (w.heap.size + 2 ≤ w1.heap.size) := hC.out.sz
      go_wp2_with (at_make; refine mk_bool rfl rfl nd.length rfl rfl (by omega) w1.heap.size rfl ?_; intro w2 O2 x2 z2; replace hC := hide (hC.out.ext x2); replace O2 := hide O2; clear x2 z2)
      obtain ⟨B, hB⟩ : ∃ B, w1.heap.size = B := ⟨_, rfl⟩
      rw [hB] at O2 hBs
      simp only [hB]
      clear hB
      have hB2 := hBs
      have hUno : Hid (∀ (P : List Nat) (m : Nat) (x : Int) W, x = (m : Int) → OwnZ W B (.slice (some ⟨B, 0, none⟩) nd.length nd.length) (mkL nd.length P) → m < nd.length → (mkL nd.length P).getD m false = true → Calls Yabn.prog 40 #[.slice (some ⟨B, 0, none⟩) nd.length nd.length, .int .i64 x] W (fun e w' => e = .returned (.bool false) ∧ w' = W)) := fun P m x W hxm hO hm hg => by
        subst hxm
        have := useOnce_no (mkL nd.length P) B B nd.length m W (by rw [mkL_len]; exact hO) (by rw [mkL_len]; exact hm) (by rw [mkL_len]; exact hl2) hg
        rw [mkL_len] at this
        exact this
      have hUyes : Hid (∀ (P : List Nat) (m : Nat) (x : Int) W, x = (m : Int) → OwnZ W B (.slice (some ⟨B, 0, none⟩) nd.length nd.length) (mkL nd.length P) → m < nd.length → (mkL nd.length P).getD m false = false → Calls Yabn.prog 40 #[.slice (some ⟨B, 0, none⟩) nd.length nd.length, .int .i64 x] W (fun e w' => e = .returned (.bool true) ∧ w' = W.setCell ⟨B, m, none⟩ (.bool true))) := fun P m x W hxm hO hm hg => by
        subst hxm
        have := useOnce_yes (mkL nd.length P) B B nd.length m W (by rw [mkL_len]; exact hO) (by rw [mkL_len]; exact hm) (by rw [mkL_len]; exact hl2) hg
        rw [mkL_len] at this
        exact this
      go_loopw [9] (fun i wr => ∃ k : Nat, i = .int .i64 k ∧ k ≤ nd.length ∧ Hid (OwnZ wr B (.slice (some ⟨B, 0, none⟩) nd.length nd.length) (mkL nd.length (chTo nd k))) ∧ Hid ((chTo nd k).Nodup) ∧ Hid (CI w wr [.slice ia its.length ic, .slice na nd.length nc, .int .i64 wh, .slice ga gr.length gc, .int .i64 li])) (fun i _ => nd.length - (intOf i).toNat)
      case atStart => exact ⟨0, rfl, Nat.zero_le _, by simp only [chTo]; rw [mkL_nil]; exact O2, List.nodup_nil, hC⟩
      clear hC O2
      obtain ⟨k, rfl, hk, hU, hd, hC⟩ := hrel
      (try clear q0)
      (try clear q1)
      (try clear q2)
      (try clear q3)
      (try clear q4)
      have q0 := hC.out.q.box 0 _ rfl
      have q1 := hC.out.q.box 1 _ rfl
      have q2 := hC.out.q.box 2 _ rfl
      have q3 := hC.out.q.box 3 _ rfl
      have q4 := hC.out.q.box 4 _ rfl
      by_cases hlt : k < nd.length
      · as_aux_lemma =>
          have hlt' : (k : Int) < nd.length := by omega
          obtain ⟨b, off, rfl, g1, g2, g3, g4⟩ := (hN.out.ext hC.out.ex).get k hlt
          have hwk := hwf.out.kind hlt
          obtain ⟨⟨o, y, l, r⟩, hnd⟩ : ∃ m, Hid (nd.getD k nd0 = m) := ⟨_, rfl⟩
          rw [hnd.out] at g1 g2 g3 g4 hwk
          simp only at g1 g2 g3 g4 hwk
          have hT : Hid (Blk (wr.alloc (.cells #[.int .i64 o, .int .i64 y, .int .i64 l, .int .i64 r] 98)) wr.heap.size 98 [.int .i64 o, .int .i64 y, .int .i64 l, .int .i64 r]) := Blk.new wr _ _
          have t0 := hT.out.box 0 _ rfl
          have t2 := hT.out.box 2 _ rfl
          have t3 := hT.out.box 3 _ rfl
          rcases hwk with ho | ⟨ho, _⟩ | ⟨m, ho, hlm2, hmk⟩ | ⟨m, m2, ho, hlm2, hrm2, hmk, hmk2⟩
          · have hO9 : Hid (OwnZ (wr.alloc (.cells #[.int .i64 o, .int .i64 y, .int .i64 l, .int .i64 r] 98)) B (.slice (some ⟨B, 0, none⟩) nd.length nd.length) (mkL nd.length (chTo nd (k + 1)))) := (hU.out.alloc _).congr (by simp only [chTo]; rw [hnd.out, chN_no (.inl ho), List.append_nil])
            have hd9 : Hid ((chTo nd (k + 1)).Nodup) := by show List.Nodup _; simp only [chTo]; rw [hnd.out, chN_no (.inl ho), List.append_nil]; exact hd.out
            have hC9 := hide (hC.out.ext ((Ext.refl wr).alloc (.cells #[.int .i64 o, .int .i64 y, .int .i64 l, .int .i64 r] 98)))
            subst ho
            go_wp2_with (go_at_call 41; refine (impl.isBinary _ _).mono ?_; rintro e wx ⟨rfl, rfl⟩)
            go_roundw
            case rel => exact ⟨k + 1, by go_num, by omega, hO9.out, hd9.out, hC9.out⟩
            case measure => simp [intOf]; omega
          · have hO9 : Hid (OwnZ (wr.alloc (.cells #[.int .i64 o, .int .i64 y, .int .i64 l, .int .i64 r] 98)) B (.slice (some ⟨B, 0, none⟩) nd.length nd.length) (mkL nd.length (chTo nd (k + 1)))) := (hU.out.alloc _).congr (by simp only [chTo]; rw [hnd.out, chN_no (.inr ho), List.append_nil])
            have hd9 : Hid ((chTo nd (k + 1)).Nodup) := by show List.Nodup _; simp only [chTo]; rw [hnd.out, chN_no (.inr ho), List.append_nil]; exact hd.out
            have hC9 := hide (hC.out.ext ((Ext.refl wr).alloc (.cells #[.int .i64 o, .int .i64 y, .int .i64 l, .int .i64 r] 98)))
            subst ho
            go_wp2_with (go_at_call 41; refine (impl.isBinary _ _).mono ?_; rintro e wx ⟨rfl, rfl⟩)
            go_roundw
            case rel => exact ⟨k + 1, by go_num, by omega, hO9.out, hd9.out, hC9.out⟩
            case measure => simp [intOf]; omega
          · have hch : Hid (chN ⟨o, y, l, r⟩ = [m]) := chN_un ho hlm2
            have hl9 := hide hlm2
            clear hlm2
            rcases ho with ho | ho
            · have ob3 : (o == 3) = true := by simp [ho]
              replace ho := hide ho
              have hO1 := hide (hU.out.alloc (.cells #[.int .i64 o, .int .i64 y, .int .i64 l, .int .i64 r] 98))
              by_cases hmem : m ∈ chTo nd k
              · have hz : Hid (¬ CmOK ⟨its, nd, wh, gr, li⟩ n) := fun h => by
                  obtain ⟨R, eR⟩ := chTo_split nd nd.length k hlt
                  have h1 := h.nod
                  simp only at h1
                  rw [eR, hnd.out, hch.out, List.append_assoc, List.append_assoc] at h1
                  exact not_nodup hmem h1
                have hget : Hid ((mkL nd.length (chTo nd k)).getD m false = true) := by show _ = _; rw [mkL_at _ _ _ (by omega)]; simp [hmem]
                have hC1 := hide (hC.out.ext ((Ext.refl wr).alloc (.cells #[.int .i64 o, .int .i64 y, .int .i64 l, .int .i64 r] 98)))
                replace hmem := hide hmem
                go_wp2_with fail
                refine (hUno.out _ m l (wr.alloc (.cells #[.int .i64 o, .int .i64 y, .int .i64 l, .int .i64 r] 98)) hl9.out hO1.out (by omega) hget.out).mono ?_
                rintro e w3 ⟨rfl, hw3⟩
                clear hC
                have hC := hide (hC1.out.eqw hw3)
                clear hw3 hC1 hO1 hU q0 q1 q2 q3 q4 t0 t2 t3 g1 g2 g3 g4 hT
                go_wp2_with (refine wpList_storeB (vs := plz) rfl rfl (by rfl) (by rfl) hC.out.p size_plan rfl plz_one ?_; intro w99 hb99 hgr99; replace hgr99 := hide hgr99; replace hb99 := hide hb99)
                refine bodyPost_ret (results_cell2 rfl (by rfl) hb99.out Yabn.underlying57 size_plan) rfl ?_
                exact ⟨Ext.setP hC.out hgr99.out, .inl ⟨hz.out, rfl⟩⟩
              · have hget : Hid ((mkL nd.length (chTo nd k)).getD m false = false) := by show _ = _; rw [mkL_at _ _ _ (by omega)]; simp [hmem]
                have hC8 := hide ((hC.out.ext ((Ext.refl wr).alloc (.cells #[.int .i64 o, .int .i64 y, .int .i64 l, .int .i64 r] 98))).set B m (.bool true) hB2.out)
                have hO8 : Hid (OwnZ ((wr.alloc (.cells #[.int .i64 o, .int .i64 y, .int .i64 l, .int .i64 r] 98)).setCell ⟨B, m, none⟩ (.bool true)) B (.slice (some ⟨B, 0, none⟩) nd.length nd.length) (mkL nd.length (chTo nd (k + 1)))) := (hO1.out.stored m true).congr (by rw [mkL_snoc]; simp only [chTo]; rw [hnd.out, hch.out])
                have hd9 : Hid ((chTo nd (k + 1)).Nodup) := by show List.Nodup _; simp only [chTo]; rw [hnd.out, hch.out]; exact nodup_snoc hd.out hmem
                replace hmem := hide hmem
                go_wp2_with fail
                refine (hUyes.out _ m l (wr.alloc (.cells #[.int .i64 o, .int .i64 y, .int .i64 l, .int .i64 r] 98)) hl9.out hO1.out (by omega) hget.out).mono ?_
                rintro e w3 ⟨rfl, hw3⟩
                have hC9 := hide (hC8.out.eqw hw3)
                have hO9 := hide (hO8.out.eqw hw3)
                clear hw3 hC8 hO8 hC hU hO1 q0 q1 q2 q3 q4 t0 t2 t3 g1 g2 g3 g4 hT
                go_wp2_with (go_at_call 41; refine (impl.isBinary _ _).mono ?_; rintro e wx ⟨rfl, rfl⟩)
                go_roundw
                case rel => exact ⟨k + 1, by go_num, by omega, hO9.out, hd9.out, hC9.out⟩
                case measure => simp [intOf]; omega
            · have ob3 : (o == 3) = false := by simp [ho]
              have ob15 : (o == 15) = true := by simp [ho]
              replace ho := hide ho
              have hO1 := hide (hU.out.alloc (.cells #[.int .i64 o, .int .i64 y, .int .i64 l, .int .i64 r] 98))
              by_cases hmem : m ∈ chTo nd k
              · have hz : Hid (¬ CmOK ⟨its, nd, wh, gr, li⟩ n) := fun h => by
                  obtain ⟨R, eR⟩ := chTo_split nd nd.length k hlt
                  have h1 := h.nod
                  simp only at h1
                  rw [eR, hnd.out, hch.out, List.append_assoc, List.append_assoc] at h1
                  exact not_nodup hmem h1
                have hget : Hid ((mkL nd.length (chTo nd k)).getD m false = true) := by show _ = _; rw [mkL_at _ _ _ (by omega)]; simp [hmem]
                have hC1 := hide (hC.out.ext ((Ext.refl wr).alloc (.cells #[.int .i64 o, .int .i64 y, .int .i64 l, .int .i64 r] 98)))
                replace hmem := hide hmem
                go_wp2_with fail
                refine (hUno.out _ m l (wr.alloc (.cells #[.int .i64 o, .int .i64 y, .int .i64 l, .int .i64 r] 98)) hl9.out hO1.out (by omega) hget.out).mono ?_
                rintro e w3 ⟨rfl, hw3⟩
                clear hC
                have hC := hide (hC1.out.eqw hw3)
                clear hw3 hC1 hO1 hU q0 q1 q2 q3 q4 t0 t2 t3 g1 g2 g3 g4 hT
                go_wp2_with (refine wpList_storeB (vs := plz) rfl rfl (by rfl) (by rfl) hC.out.p size_plan rfl plz_one ?_; intro w99 hb99 hgr99; replace hgr99 := hide hgr99; replace hb99 := hide hb99)
                refine bodyPost_ret (results_cell2 rfl (by rfl) hb99.out Yabn.underlying57 size_plan) rfl ?_
                exact ⟨Ext.setP hC.out hgr99.out, .inl ⟨hz.out, rfl⟩⟩
              · have hget : Hid ((mkL nd.length (chTo nd k)).getD m false = false) := by show _ = _; rw [mkL_at _ _ _ (by omega)]; simp [hmem]
                have hC8 := hide ((hC.out.ext ((Ext.refl wr).alloc (.cells #[.int .i64 o, .int .i64 y, .int .i64 l, .int .i64 r] 98))).set B m (.bool true) hB2.out)
                have hO8 : Hid (OwnZ ((wr.alloc (.cells #[.int .i64 o, .int .i64 y, .int .i64 l, .int .i64 r] 98)).setCell ⟨B, m, none⟩ (.bool true)) B (.slice (some ⟨B, 0, none⟩) nd.length nd.length) (mkL nd.length (chTo nd (k + 1)))) := (hO1.out.stored m true).congr (by rw [mkL_snoc]; simp only [chTo]; rw [hnd.out, hch.out])
                have hd9 : Hid ((chTo nd (k + 1)).Nodup) := by show List.Nodup _; simp only [chTo]; rw [hnd.out, hch.out]; exact nodup_snoc hd.out hmem
                replace hmem := hide hmem
                go_wp2_with fail
                refine (hUyes.out _ m l (wr.alloc (.cells #[.int .i64 o, .int .i64 y, .int .i64 l, .int .i64 r] 98)) hl9.out hO1.out (by omega) hget.out).mono ?_
                rintro e w3 ⟨rfl, hw3⟩
                have hC9 := hide (hC8.out.eqw hw3)
                have hO9 := hide (hO8.out.eqw hw3)
                clear hw3 hC8 hO8 hC hU hO1 q0 q1 q2 q3 q4 t0 t2 t3 g1 g2 g3 g4 hT
                go_wp2_with (go_at_call 41; refine (impl.isBinary _ _).mono ?_; rintro e wx ⟨rfl, rfl⟩)
                go_roundw
                case rel => exact ⟨k + 1, by go_num, by omega, hO9.out, hd9.out, hC9.out⟩
                case measure => simp [intOf]; omega
          · have hch : Hid (chN ⟨o, y, l, r⟩ = [m, m2]) := chN_bi ho hlm2 hrm2
            have hl9 := hide hlm2
            have hr9 := hide hrm2
            have ob3 : (o == 3) = false := by simp; omega
            have ob15 : (o == 15) = false := by simp; omega
            obtain ⟨ho4, ho14⟩ := ho
            have ho4' : decide (4 ≤ o) = true := by simp [ho4]
            have ho14' : decide (o ≤ 14) = true := by simp [ho14]
            clear hlm2 hrm2
            have hBw : B ≠ wr.heap.size := by have := hU.out.lt.2; omega
            have hO1 := hide (hU.out.alloc (.cells #[.int .i64 o, .int .i64 y, .int .i64 l, .int .i64 r] 98))
            have hC1 := hide (hC.out.ext ((Ext.refl wr).alloc (.cells #[.int .i64 o, .int .i64 y, .int .i64 l, .int .i64 r] 98)))
            by_cases hmem : m ∈ chTo nd k
            · have hz : Hid (¬ CmOK ⟨its, nd, wh, gr, li⟩ n) := fun h => by
                obtain ⟨R, eR⟩ := chTo_split nd nd.length k hlt
                have h1 := h.nod
                simp only at h1
                rw [eR, hnd.out, hch.out, List.append_assoc, List.append_assoc] at h1
                exact not_nodup hmem h1
              have hget : Hid ((mkL nd.length (chTo nd k)).getD m false = true) := by show _ = _; rw [mkL_at _ _ _ (by omega)]; simp [hmem]
              replace hmem := hide hmem
              go_wp2_with (go_at_call 41; refine (impl.isBinary _ _).mono ?_; rintro e wx ⟨rfl, rfl⟩)
              refine (hUno.out _ m l (wr.alloc (.cells #[.int .i64 o, .int .i64 y, .int .i64 l, .int .i64 r] 98)) hl9.out hO1.out (by omega) hget.out).mono ?_
              rintro e w3 ⟨rfl, hw3⟩
              clear hC
              have hC := hide (hC1.out.eqw hw3)
              clear hw3 hC1 hO1 hU q0 q1 q2 q3 q4 t0 t2 t3 g1 g2 g3 g4 hT
              go_wp2_with (refine wpList_storeB (vs := plz) rfl rfl (by rfl) (by rfl) hC.out.p size_plan rfl plz_one ?_; intro w99 hb99 hgr99; replace hgr99 := hide hgr99; replace hb99 := hide hb99)
              refine bodyPost_ret (results_cell2 rfl (by rfl) hb99.out Yabn.underlying57 size_plan) rfl ?_
              exact ⟨Ext.setP hC.out hgr99.out, .inl ⟨hz.out, rfl⟩⟩
            · have hget : Hid ((mkL nd.length (chTo nd k)).getD m false = false) := by show _ = _; rw [mkL_at _ _ _ (by omega)]; simp [hmem]
              have hC8 := hide (hC1.out.set B m (.bool true) hB2.out)
              have hO8 : Hid (OwnZ ((wr.alloc (.cells #[.int .i64 o, .int .i64 y, .int .i64 l, .int .i64 r] 98)).setCell ⟨B, m, none⟩ (.bool true)) B (.slice (some ⟨B, 0, none⟩) nd.length nd.length) (mkL nd.length (chTo nd k ++ [m]))) := (hO1.out.stored m true).congr (mkL_snoc _ _ _)
              have hT8 := hide (hT.out.setCell (p := ⟨B, m, none⟩) hBw (.bool true))
              have hd8 := hide (nodup_snoc hd.out hmem)
              replace hmem := hide hmem
              go_wp2_with (go_at_call 41; refine (impl.isBinary _ _).mono ?_; rintro e wx ⟨rfl, rfl⟩)
              refine (hUyes.out _ m l (wr.alloc (.cells #[.int .i64 o, .int .i64 y, .int .i64 l, .int .i64 r] 98)) hl9.out hO1.out (by omega) hget.out).mono ?_
              rintro e w3 ⟨rfl, hw3⟩
              have hC3 := hide (hC8.out.eqw hw3)
              have hO3 := hide (hO8.out.eqw hw3)
              have hT3 : Hid (Blk w3 wr.heap.size 98 [.int .i64 o, .int .i64 y, .int .i64 l, .int .i64 r]) := by rw [hw3]; exact hT8
              clear hw3 hC8 hO8 hT8 hC hU hO1 hC1 q0 q1 q2 q3 q4 t0 t2 t3 g1 g2 g3 g4 hT
              have t3 := hT3.out.box 3 _ rfl
              by_cases hmem2 : m2 ∈ chTo nd k ++ [m]
              · have hz : Hid (¬ CmOK ⟨its, nd, wh, gr, li⟩ n) := fun h => by
                  obtain ⟨R, eR⟩ := chTo_split nd nd.length k hlt
                  have h1 := h.nod
                  simp only at h1
                  rw [eR, hnd.out, hch.out, show chTo nd k ++ ([m, m2] ++ R) = (chTo nd k ++ [m]) ++ (m2 :: R) by simp, List.append_assoc] at h1
                  exact not_nodup hmem2 h1
                have hget2 : Hid ((mkL nd.length (chTo nd k ++ [m])).getD m2 false = true) := by show _ = _; rw [mkL_at _ _ _ (by omega)]; exact decide_eq_true hmem2
                replace hmem2 := hide hmem2
                go_wp2_with fail
                refine (hUno.out _ m2 r w3 hr9.out hO3.out (by omega) hget2.out).mono ?_
                rintro e w4 ⟨rfl, hw4⟩
                have hC := hide (hC3.out.eqw hw4)
                clear hw4 hC3 hO3 hT3 t3
                go_wp2_with (refine wpList_storeB (vs := plz) rfl rfl (by rfl) (by rfl) hC.out.p size_plan rfl plz_one ?_; intro w99 hb99 hgr99; replace hgr99 := hide hgr99; replace hb99 := hide hb99)
                refine bodyPost_ret (results_cell2 rfl (by rfl) hb99.out Yabn.underlying57 size_plan) rfl ?_
                exact ⟨Ext.setP hC.out hgr99.out, .inl ⟨hz.out, rfl⟩⟩
              · have hget2 : Hid ((mkL nd.length (chTo nd k ++ [m])).getD m2 false = false) := by show _ = _; rw [mkL_at _ _ _ (by omega)]; exact decide_eq_false hmem2
                have hC4 := hide (hC3.out.set B m2 (.bool true) hB2.out)
                have hO4 : Hid (OwnZ (w3.setCell ⟨B, m2, none⟩ (.bool true)) B (.slice (some ⟨B, 0, none⟩) nd.length nd.length) (mkL nd.length (chTo nd (k + 1)))) := (hO3.out.stored m2 true).congr (by rw [mkL_snoc]; simp only [chTo]; rw [hnd.out, hch.out]; simp)
                have hd9 : Hid ((chTo nd (k + 1)).Nodup) := by
                  show List.Nodup _
                  simp only [chTo]
                  rw [hnd.out, hch.out, show chTo nd k ++ [m, m2] = (chTo nd k ++ [m]) ++ [m2] by simp]
                  exact nodup_snoc hd8.out hmem2
                replace hmem2 := hide hmem2
                go_wp2_with fail
                refine (hUyes.out _ m2 r w3 hr9.out hO3.out (by omega) hget2.out).mono ?_
                rintro e w4 ⟨rfl, hw4⟩
                have hC9 := hide (hC4.out.eqw hw4)
                have hO9 := hide (hO4.out.eqw hw4)
                clear hw4 hC4 hO4 hC3 hO3 hT3 t3
                go_wp2_with fail
                go_roundw
                case rel => exact ⟨k + 1, by go_num, by omega, hO9.out, hd9.out, hC9.out⟩
                case measure => simp [intOf]; omega
      · have hlt' : ¬ (k : Int) < nd.length := by omega
        obtain rfl : k = nd.length := by omega
        clear hlt hk
        go_upto_if 122 with fail
        go_cut [] from 120 to 128 (fun wc => Hid (OwnZ wc B (.slice (some ⟨B, 0, none⟩) nd.length nd.length) (mkL nd.length (chTo nd nd.length ++ whR wh))) ∧ Hid ((chTo nd nd.length ++ whR wh).Nodup) ∧ Hid (CI w wc [.slice ia its.length ic, .slice na nd.length nc, .int .i64 wh, .slice ga gr.length gc, .int .i64 li]))
        case first =>
          as_aux_lemma =>
            by_cases hwn : wh = -1
            · have hwb : (wh != -1) = false := by simp [hwn]
              have hwr : Hid (chTo nd nd.length ++ whR wh = chTo nd nd.length) := by show _ = _; unfold whR; rw [if_pos hwn, List.append_nil]
              have hU9 : Hid (OwnZ wr B (.slice (some ⟨B, 0, none⟩) nd.length nd.length) (mkL nd.length (chTo nd nd.length ++ whR wh))) := by rw [hwr.out]; exact hU
              have hd9 : Hid ((chTo nd nd.length ++ whR wh).Nodup) := by rw [hwr.out]; exact hd
              replace hwn := hide hwn
              go_wp2_with fail
              go_meet
              case rel => exact ⟨hU9.out, hd9.out, hC.out⟩
            · have hwb : (wh != -1) = true := by simp [hwn]
              have hx0 : 0 ≤ wh ∧ wh < nd.length := by rcases hwp.out with h | h; exact absurd h hwn; exact h
              obtain ⟨x, hx⟩ : ∃ x : Nat, Hid (wh = (x : Int)) := ⟨wh.toNat, by show _ = _; omega⟩
              have hxn : x < nd.length := by have := hx.out; omega
              have hwr : Hid (whR wh = [x]) := by show _ = _; unfold whR; rw [if_neg hwn, hx.out, Int.toNat_natCast]
              clear hx0
              replace hwn := hide hwn
              by_cases hmem : x ∈ chTo nd nd.length
              · have hz : Hid (¬ CmOK ⟨its, nd, wh, gr, li⟩ n) := fun h => by
                  have h1 := h.nod
                  simp only at h1
                  rw [hwr.out] at h1
                  exact not_nodup hmem h1
                have hget : Hid ((mkL nd.length (chTo nd nd.length)).getD x false = true) := by show _ = _; rw [mkL_at _ _ _ (by omega)]; exact decide_eq_true hmem
                replace hmem := hide hmem
                go_wp2_with fail
                refine (hUno.out _ x wh wr hx.out hU.out (by omega) hget.out).mono ?_
                rintro e w3 ⟨rfl, hw3⟩
                have hC3 := hide (hC.out.eqw hw3)
                clear hC hw3 hU q0 q1 q2 q3 q4
                have hC := hC3
                go_wp2_with (refine wpList_storeB (vs := plz) rfl rfl (by rfl) (by rfl) hC.out.p size_plan rfl plz_one ?_; intro w99 hb99 hgr99; replace hgr99 := hide hgr99; replace hb99 := hide hb99)
                refine bodyPost_ret (results_cell2 rfl (by rfl) hb99.out Yabn.underlying57 size_plan) rfl ?_
                exact ⟨Ext.setP hC.out hgr99.out, .inl ⟨hz.out, rfl⟩⟩
              · have hget : Hid ((mkL nd.length (chTo nd nd.length)).getD x false = false) := by show _ = _; rw [mkL_at _ _ _ (by omega)]; exact decide_eq_false hmem
                have hC8 := hide (hC.out.set B x (.bool true) hB2.out)
                have hO8 : Hid (OwnZ (wr.setCell ⟨B, x, none⟩ (.bool true)) B (.slice (some ⟨B, 0, none⟩) nd.length nd.length) (mkL nd.length (chTo nd nd.length ++ whR wh))) := (hU.out.stored x true).congr (by rw [mkL_snoc, hwr.out])
                have hd9 : Hid ((chTo nd nd.length ++ whR wh).Nodup) := by rw [hwr.out]; exact nodup_snoc hd.out hmem
                replace hmem := hide hmem
                go_wp2_with fail
                refine (hUyes.out _ x wh wr hx.out hU.out (by omega) hget.out).mono ?_
                rintro e w3 ⟨rfl, hw3⟩
                have hC9 := hide (hC8.out.eqw hw3)
                have hO9 := hide (hO8.out.eqw hw3)
                clear hw3 hC8 hO8 hC hU q0 q1 q2 q3 q4
                go_wp2_with fail
                go_meet
                case rel => exact ⟨hO9.out, hd9.out, hC9.out⟩
        case rest =>
          clear hU hd hC q0 q1 q2 q3 q4
          obtain ⟨hU, hd, hC⟩ := hcut
          (try clear q0)
          (try clear q1)
          (try clear q2)
          (try clear q3)
          (try clear q4)
          have q0 := hC.out.q.box 0 _ rfl
          have q1 := hC.out.q.box 1 _ rfl
          have q2 := hC.out.q.box 2 _ rfl
          have q3 := hC.out.q.box 3 _ rfl
          have q4 := hC.out.q.box 4 _ rfl
          go_wp2_with fail
          go_loopw [132] (fun i wr => ∃ k : Nat, i = .int .i64 k ∧ k ≤ its.length ∧ Hid (OwnZ wr B (.slice (some ⟨B, 0, none⟩) nd.length nd.length) (mkL nd.length (chTo nd nd.length ++ whR wh ++ itsR (its.take k)))) ∧ Hid ((chTo nd nd.length ++ whR wh ++ itsR (its.take k)).Nodup) ∧ Hid (CI w wr [.slice ia its.length ic, .slice na nd.length nc, .int .i64 wh, .slice ga gr.length gc, .int .i64 li])) (fun i _ => its.length - (intOf i).toNat)
          case atStart => exact ⟨0, rfl, Nat.zero_le _, by simpa [itsR] using hU, by simpa [itsR] using hd, hC⟩
          clear hU hd hC q0 q1 q2 q3 q4
          obtain ⟨k, rfl, hk, hU, hd, hC⟩ := hrel
          by_cases hlt : k < its.length
          · as_aux_lemma =>
              have hlt' : (k : Int) < its.length := by omega
              (try clear q0)
              (try clear q1)
              (try clear q2)
              (try clear q3)
              (try clear q4)
              have q0 := hC.out.q.box 0 _ rfl
              have q1 := hC.out.q.box 1 _ rfl
              have q2 := hC.out.q.box 2 _ rfl
              have q3 := hC.out.q.box 3 _ rfl
              have q4 := hC.out.q.box 4 _ rfl
              obtain ⟨R, eR⟩ := itsR_split its k hlt
              have eR' := hide eR
              have eS := hide (itsR_succ its k hlt)
              have hio := hits.out _ (getD_mem_it its k hlt)
              obtain ⟨b, off, rfl, c1, c2⟩ := (hI.out.ext hC.out.ex) k hlt
              obtain ⟨⟨g, y⟩, hgy⟩ : ∃ p, its.getD k (0, 0) = p := ⟨_, rfl⟩
              rw [hgy] at c1 c2 hio eR' eS
              simp only at c1 c2
              clear hgy eR
              have hT : Hid (Blk (wr.alloc (.cells #[.int .i64 g, .int .i64 y] 89)) wr.heap.size 89 [.int .i64 g, .int .i64 y]) := Blk.new wr _ _
              have t1 := hT.out.box 1 _ rfl
              have hO1 := hide (hU.out.alloc (.cells #[.int .i64 g, .int .i64 y] 89))
              have hC1 := hide (hC.out.ext ((Ext.refl wr).alloc (.cells #[.int .i64 g, .int .i64 y] 89)))
              by_cases hyn : y = -1
              · have hyb : (y != -1) = false := by simp [hyn]
                have hre : Hid (itsR (its.take (k + 1)) = itsR (its.take k)) := by show _ = _; rw [eS.out]; unfold itR; rw [if_pos hyn, List.append_nil]
                have hO9 : Hid (OwnZ (wr.alloc (.cells #[.int .i64 g, .int .i64 y] 89)) B (.slice (some ⟨B, 0, none⟩) nd.length nd.length) (mkL nd.length (chTo nd nd.length ++ whR wh ++ itsR (its.take (k + 1))))) := by rw [hre.out]; exact hO1
                have hd9 : Hid ((chTo nd nd.length ++ whR wh ++ itsR (its.take (k + 1))).Nodup) := by rw [hre.out]; exact hd
                replace hyn := hide hyn
                clear hio
                go_wp2_with fail
                go_roundw
                case rel => exact ⟨k + 1, by go_num, by omega, hO9.out, hd9.out, hC1.out⟩
                case measure => simp [intOf]; omega
              · have hyb : (y != -1) = true := by simp [hyn]
                have hyr : 0 ≤ y ∧ y < nd.length := by
                  rcases hio.2.2 with ⟨_, h1⟩ | ⟨_, h1⟩
                  · exact absurd h1 hyn
                  · exact h1
                obtain ⟨x, hx⟩ : ∃ x : Nat, Hid (y = (x : Int)) := ⟨y.toNat, by show _ = _; omega⟩
                have hxn : x < nd.length := by have := hx.out; omega
                have hitr : Hid (itR (g, y) = [x]) := by show _ = _; unfold itR; rw [if_neg hyn, hx.out, Int.toNat_natCast]
                clear hyr hio
                replace hyn := hide hyn
                by_cases hmem : x ∈ chTo nd nd.length ++ whR wh ++ itsR (its.take k)
                · have hz : Hid (¬ CmOK ⟨its, nd, wh, gr, li⟩ n) := fun h => by
                    have h1 := h.nod
                    simp only at h1
                    rw [eR'.out, hitr.out, show chTo nd nd.length ++ (whR wh ++ (itsR (its.take k) ++ ([x] ++ R))) = (chTo nd nd.length ++ whR wh ++ itsR (its.take k)) ++ (x :: R) by simp] at h1
                    exact not_nodup hmem h1
                  have hget : Hid ((mkL nd.length (chTo nd nd.length ++ whR wh ++ itsR (its.take k))).getD x false = true) := by show _ = _; rw [mkL_at _ _ _ (by omega)]; exact decide_eq_true hmem
                  replace hmem := hide hmem
                  go_wp2_with fail
                  refine (hUno.out _ x y (wr.alloc (.cells #[.int .i64 g, .int .i64 y] 89)) hx.out hO1.out (by omega) hget.out).mono ?_
                  rintro e w3 ⟨rfl, hw3⟩
                  clear hC
                  have hC := hide (hC1.out.eqw hw3)
                  clear hw3 hC1 hO1 hU q0 q1 q2 q3 q4 t1 c1 c2 hT
                  go_wp2_with (refine wpList_storeB (vs := plz) rfl rfl (by rfl) (by rfl) hC.out.p size_plan rfl plz_one ?_; intro w99 hb99 hgr99; replace hgr99 := hide hgr99; replace hb99 := hide hb99)
                  refine bodyPost_ret (results_cell2 rfl (by rfl) hb99.out Yabn.underlying57 size_plan) rfl ?_
                  exact ⟨Ext.setP hC.out hgr99.out, .inl ⟨hz.out, rfl⟩⟩
                · have hget : Hid ((mkL nd.length (chTo nd nd.length ++ whR wh ++ itsR (its.take k))).getD x false = false) := by show _ = _; rw [mkL_at _ _ _ (by omega)]; exact decide_eq_false hmem
                  have hC8 := hide (hC1.out.set B x (.bool true) hB2.out)
                  have hre : Hid (chTo nd nd.length ++ whR wh ++ itsR (its.take (k + 1)) = chTo nd nd.length ++ whR wh ++ itsR (its.take k) ++ [x]) := by show _ = _; rw [eS.out, hitr.out]; simp
                  have hO8 : Hid (OwnZ ((wr.alloc (.cells #[.int .i64 g, .int .i64 y] 89)).setCell ⟨B, x, none⟩ (.bool true)) B (.slice (some ⟨B, 0, none⟩) nd.length nd.length) (mkL nd.length (chTo nd nd.length ++ whR wh ++ itsR (its.take (k + 1))))) := (hO1.out.stored x true).congr (by rw [mkL_snoc, hre.out])
                  have hd9 : Hid ((chTo nd nd.length ++ whR wh ++ itsR (its.take (k + 1))).Nodup) := by rw [hre.out]; exact nodup_snoc hd.out hmem
                  replace hmem := hide hmem
                  go_wp2_with fail
                  refine (hUyes.out _ x y (wr.alloc (.cells #[.int .i64 g, .int .i64 y] 89)) hx.out hO1.out (by omega) hget.out).mono ?_
                  rintro e w3 ⟨rfl, hw3⟩
                  have hC9 := hide (hC8.out.eqw hw3)
                  have hO9 := hide (hO8.out.eqw hw3)
                  clear hw3 hC8 hO8 hC hU hO1 hC1 q0 q1 q2 q3 q4 t1 c1 c2 hT
                  go_wp2_with fail
                  go_roundw
                  case rel => exact ⟨k + 1, by go_num, by omega, hO9.out, hd9.out, hC9.out⟩
                  case measure => simp [intOf]; omega
          · have hlt' : ¬ (k : Int) < its.length := by omega
            obtain rfl : k = its.length := by omega
            rw [List.take_length, List.append_assoc] at hd
            have hnod := hd
            clear hlt hk hU hd
            (try clear q0)
            (try clear q1)
            (try clear q2)
            (try clear q3)
            (try clear q4)
            have q0 := hC.out.q.box 0 _ rfl
            have q1 := hC.out.q.box 1 _ rfl
            have q2 := hC.out.q.box 2 _ rfl
            have q3 := hC.out.q.box 3 _ rfl
            have q4 := hC.out.q.box 4 _ rfl
            go_wp2_with fail
            refine (groupOK gr ga gc n wr (hG.out.ext hC.out.ex) (by omega)).mono ?_
            rintro e w3 ⟨bz, rfl, hbz, x3⟩
            replace hC := hide (hC.out.ext x3)
            clear x3 q0 q1 q2 q3 q4
            cases bz with
            | false =>
              have hz : Hid (¬ CmOK ⟨its, nd, wh, gr, li⟩ n) := fun h => absurd (hbz.2 h.gr) (by decide)
              clear hbz
              go_wp2_with (refine wpList_storeB (vs := plz) rfl rfl (by rfl) (by rfl) hC.out.p size_plan rfl plz_one ?_; intro w99 hb99 hgr99; replace hgr99 := hide hgr99; replace hb99 := hide hb99)
              refine bodyPost_ret (results_cell2 rfl (by rfl) hb99.out Yabn.underlying57 size_plan) rfl ?_
              exact ⟨Ext.setP hC.out hgr99.out, .inl ⟨hz.out, rfl⟩⟩
            | true =>
              have hgrp : Hid (GrP n gr) := hbz.1 rfl
              clear hbz
              (try clear q0)
              (try clear q1)
              (try clear q2)
              (try clear q3)
              (try clear q4)
              have q0 := hC.out.q.box 0 _ rfl
              have q1 := hC.out.q.box 1 _ rfl
              have q2 := hC.out.q.box 2 _ rfl
              have q3 := hC.out.q.box 3 _ rfl
              have q4 := hC.out.q.box 4 _ rfl
              go_wp2_with fail
              refine (aggWanted its gr ia ga ic gc w3 (hI.out.ext hC.out.ex) hl1 (by omega)).mono ?_
              rintro e w4 ⟨rfl, x4⟩
              replace hC := hide (hC.out.ext x4)
              clear x4 q0 q1 q2 q3 q4
              obtain ⟨ag, hag⟩ : ∃ b, Hid (aggW its gr = b) := ⟨_, rfl⟩
              rw [hag.out]
              have hCm : Hid ((ag = true → NoneP nd its gr) → CmOK ⟨its, nd, wh, gr, li⟩ n) := fun h9 => ⟨by omega, by omega, by simp only; omega, by simp only; omega, hwf.out, hwp.out, hits.out, hnod.out, hgrp.out, by simp only; rw [hag.out]; exact h9⟩
              (try clear q0)
              (try clear q1)
              (try clear q2)
              (try clear q3)
              (try clear q4)
              have q0 := hC.out.q.box 0 _ rfl
              have q1 := hC.out.q.box 1 _ rfl
              have q2 := hC.out.q.box 2 _ rfl
              have q3 := hC.out.q.box 3 _ rfl
              have q4 := hC.out.q.box 4 _ rfl
              go_upto_region 39 with fail
              go_cut [168] from 157 to 168 (fun v wc => ∃ bq : Bool, v = .bool bq ∧ Hid (bq = true ↔ (ag = true ∧ ¬ NoneP nd its gr)) ∧ Hid (CI w wc [.slice ia its.length ic, .slice na nd.length nc, .int .i64 wh, .slice ga gr.length gc, .int .i64 li]))
              case first =>
                as_aux_lemma =>
                  cases ag with
                  | false =>
                    go_wp2_with fail
                    go_meet
                    case rel => exact ⟨false, rfl, ⟨fun h => (by cases h), fun h => (by cases h.1)⟩, hC.out⟩
                  | true =>
                    go_wp2_with fail
                    refine (noneItemsOK nd its gr na ia ga nc ic gc n w4 (hN.out.ext hC.out.ex) (hI.out.ext hC.out.ex) (hG.out.ext hC.out.ex) (by omega) hl1 (by omega) (by omega) hwf hits hgrp).mono ?_
                    rintro e w5 ⟨bz, rfl, hbz, x5⟩
                    replace hC := hide (hC.out.ext x5)
                    replace hbz := hide hbz
                    clear x5 q0 q1 q2 q3 q4
                    cases bz with
                    | false =>
                      dsimp only
                      go_wp2_with fail
                      go_meet
                      case rel => exact ⟨true, rfl, ⟨fun _ => ⟨by trivial, fun h9 => absurd (hbz.out.2 h9) (by decide)⟩, fun _ => by trivial⟩, hC.out⟩
                    | true =>
                      dsimp only
                      go_wp2_with fail
                      go_meet
                      case rel => exact ⟨false, rfl, ⟨fun h => (by cases h), fun h => absurd (hbz.out.1 (by trivial)) h.2⟩, hC.out⟩
              case rest =>
                clear hC q0 q1 q2 q3 q4
                obtain ⟨bq, rfl, hbq, hC⟩ := hcut
                cases bq with
                | true =>
                  have hz : Hid (¬ CmOK ⟨its, nd, wh, gr, li⟩ n) := fun h => by
                    obtain ⟨h1, h2⟩ := hbq.out.1 rfl
                    exact h2 (h.ag (by simp only; rw [hag.out]; exact h1))
                  go_wp2_with (refine wpList_storeB (vs := plz) rfl rfl (by rfl) (by rfl) hC.out.p size_plan rfl plz_one ?_; intro w99 hb99 hgr99; replace hgr99 := hide hgr99; replace hb99 := hide hb99)
                  refine bodyPost_ret (results_cell2 rfl (by rfl) hb99.out Yabn.underlying57 size_plan) rfl ?_
                  exact ⟨Ext.setP hC.out hgr99.out, .inl ⟨hz.out, rfl⟩⟩
                | false =>
                  have hcm : Hid (CmOK ⟨its, nd, wh, gr, li⟩ n) := hCm.out (fun h1 => by
                    by_cases h2 : NoneP nd its gr
                    · exact h2
                    · exact absurd (hbq.out.2 ⟨h1, h2⟩) (by decide))
                  clear hCm hbq hnod hits hwp hUno hUyes hgrp
                  have hBs2 : Hid (w.heap.size + 2 ≤ wc.heap.size) := hC.out.sz
                  go_wp2_with (at_make; refine mk_bool rfl rfl nd.length rfl rfl (by omega) wc.heap.size rfl ?_; intro w5 O5 x5 z5; replace hC := hide (hC.out.ext x5); replace O5 := hide O5; clear x5 z5)
                  obtain ⟨H, hH⟩ : ∃ H, wc.heap.size = H := ⟨_, rfl⟩
                  rw [hH] at O5 hBs2
                  simp only [hH]
                  clear hH
                  go_loopw [15] (fun i wr => ∃ k : Nat, i = .int .i64 k ∧ k ≤ nd.length ∧ Hid (OwnZ wr H (.slice (some ⟨H, 0, none⟩) nd.length nd.length) (fillZ hcN nd false k)) ∧ Hid (CI w wr [.slice ia its.length ic, .slice na nd.length nc, .int .i64 wh, .slice ga gr.length gc, .int .i64 li])) (fun i _ => nd.length - (intOf i).toNat)
                  case atStart => exact ⟨0, rfl, Nat.zero_le _, by rw [fillZ_zero]; exact O5, hC⟩
                  clear hC O5
                  obtain ⟨k, rfl, hk, hZ, hC⟩ := hrel
                  (try clear q0)
                  (try clear q1)
                  (try clear q2)
                  (try clear q3)
                  (try clear q4)
                  have q0 := hC.out.q.box 0 _ rfl
                  have q1 := hC.out.q.box 1 _ rfl
                  have q2 := hC.out.q.box 2 _ rfl
                  have q3 := hC.out.q.box 3 _ rfl
                  have q4 := hC.out.q.box 4 _ rfl
                  by_cases hlt : k < nd.length
                  · as_aux_lemma =>
                      have hlt' : (k : Int) < nd.length := by omega
                      have hwk := hwf.out.kind hlt
                      obtain ⟨b, off, rfl, g1, g2, g3, g4⟩ := (hN.out.ext hC.out.ex).get k hlt
                      have hset := fillZ_set hcN nd false k hlt
                      have hcell : Hid (∀ i : Nat, i < k → wr.cell? ⟨H, i, none⟩ = some (.bool ((toL hcN nd k).getD i false))) := fun i hi => by
                        have := hZ.out.cellAt i (by rw [fillZ_len _ _ _ _ hk]; omega)
                        rw [fillZ_at _ _ _ _ _ _ hi] at this
                        exact this
                      have fz := hZ.out.frozenAt k
                      have cB := hZ.out.cellAt k (by rw [fillZ_len _ _ _ _ hk]; omega)
                      have hst : ∀ ob, OwnZ ((wr.setCell ⟨H, k, none⟩ (.bool (hcN (nd.getD k nd0) (toL hcN nd k)))).alloc ob) H (.slice (some ⟨H, 0, none⟩) nd.length nd.length) (fillZ hcN nd false (k + 1)) := fun ob => ((hZ.out.stored k _).congr hset).alloc ob
                      have hxt : Hid (∀ ob v, CI w ((wr.setCell ⟨H, k, none⟩ v).alloc ob) _) := fun ob v => (hC.out.set H k v hBs2.out).ext ((Ext.refl _).alloc ob)
                      obtain ⟨⟨o, y, l, r⟩, hnd⟩ : ∃ m, nd.getD k nd0 = m := ⟨_, rfl⟩
                      rw [hnd] at g1 g2 g3 g4 hwk hst
                      simp only at g1 g2 g3 g4 hwk
                      have hT : Hid (Blk (wr.alloc (.cells #[.int .i64 o, .int .i64 y, .int .i64 l, .int .i64 r] 98)) wr.heap.size 98 [.int .i64 o, .int .i64 y, .int .i64 l, .int .i64 r]) := Blk.new wr _ _
                      have t0 := hT.out.box 0 _ rfl
                      have t2 := hT.out.box 2 _ rfl
                      have t3 := hT.out.box 3 _ rfl
                      have hHs := hZ.out.lt.2
                      have hqs : w.heap.size < wr.heap.size := by have := hC.out.sz; omega
                      obtain ⟨zB, hzB⟩ : ∃ z, (fillZ hcN nd false k).getD k false = z := ⟨_, rfl⟩
                      rw [hzB] at cB
                      clear hnd hset hzB
                      obtain ⟨vs, hvs⟩ : ∃ vs, toL hcN nd k = vs := ⟨_, rfl⟩
                      rw [hvs] at hst hcell
                      clear hvs
                      rcases hwk with ho | ⟨ho, hy0, hy1⟩ | ⟨m, ho, rfl, hmk⟩ | ⟨m, m2, ho, rfl, rfl, hmk, hmk2⟩
                      · subst ho
                        replace hst := hide hst
                        go_wp2_with (go_at_call 41; refine (impl.isBinary _ _).mono ?_; rintro e wx ⟨rfl, rfl⟩)
                        go_roundw
                        case rel => exact ⟨k + 1, by go_num, by omega, hst.out _, hxt.out _ _⟩
                        case measure => simp [intOf]; omega
                      · subst ho
                        replace hst := hide hst
                        go_wp2_with (go_at_call 41; refine (impl.isBinary _ _).mono ?_; rintro e wx ⟨rfl, rfl⟩)
                        go_roundw
                        case rel => exact ⟨k + 1, by go_num, by omega, hst.out _, hxt.out _ _⟩
                        case measure => simp [intOf]; omega
                      · have hmn : (m : Int) < nd.length := by omega
                        have hm0 : (0 : Int) ≤ m := by omega
                        have cm := hcell.out m hmk
                        have e9 : hcN ⟨o, y, (m : Int), r⟩ vs = vs.getD m false := by unfold hcN; rw [if_neg (by simp only; omega), if_pos ho, Int.toNat_natCast]
                        rw [e9] at hst
                        obtain ⟨bz, hbz⟩ : ∃ b, vs.getD m false = b := ⟨_, rfl⟩
                        rw [hbz] at cm hst
                        clear hbz e9
                        replace hst := hide hst
                        rcases ho with rfl | rfl
                        · skip
                          go_wp2_with (go_at_call 41; refine (impl.isBinary _ _).mono ?_; rintro e wx ⟨rfl, rfl⟩)
                          go_roundw
                          case rel => exact ⟨k + 1, by go_num, by omega, hst.out _, hxt.out _ _⟩
                          case measure => simp [intOf]; omega
                        · skip
                          go_wp2_with (go_at_call 41; refine (impl.isBinary _ _).mono ?_; rintro e wx ⟨rfl, rfl⟩)
                          go_roundw
                          case rel => exact ⟨k + 1, by go_num, by omega, hst.out _, hxt.out _ _⟩
                          case measure => simp [intOf]; omega
                      · have hmn : (m : Int) < nd.length := by omega
                        have hm2n : (m2 : Int) < nd.length := by omega
                        have hm0 : (0 : Int) ≤ m := by omega
                        have cm := hcell.out m hmk
                        have cm2 := hcell.out m2 hmk2
                        have o2 : (o == 2) = false := by simp; omega
                        have o3 : (o == 3) = false := by simp; omega
                        have o15 : (o == 15) = false := by simp; omega
                        have e9 : hcN ⟨o, y, (m : Int), (m2 : Int)⟩ vs = (vs.getD m false || vs.getD m2 false) := by unfold hcN; rw [if_neg (by simp only; omega), if_neg (by simp only; omega), if_pos ho, Int.toNat_natCast, Int.toNat_natCast]
                        rw [e9] at hst
                        obtain ⟨b1, hb1⟩ : ∃ b, vs.getD m false = b := ⟨_, rfl⟩
                        obtain ⟨b2, hb2⟩ : ∃ b, vs.getD m2 false = b := ⟨_, rfl⟩
                        rw [hb1] at cm hst
                        rw [hb2] at cm2 hst
                        clear hb1 hb2 e9
                        obtain ⟨ho4, ho14⟩ := ho
                        have ho4' : decide (4 ≤ o) = true := by simp [ho4]
                        have ho14' : decide (o ≤ 14) = true := by simp [ho14]
                        cases b1 with
                        | true =>
                          replace hst := hide hst
                          go_wp2_with (go_at_call 41; refine (impl.isBinary _ _).mono ?_; rintro e wx ⟨rfl, rfl⟩)
                          go_roundw
                          case rel => exact ⟨k + 1, by go_num, by omega, hst.out _, hxt.out _ _⟩
                          case measure => simp [intOf]; omega
                        | false =>
                          replace hst := hide hst
                          go_wp2_with (go_at_call 41; refine (impl.isBinary _ _).mono ?_; rintro e wx ⟨rfl, rfl⟩)
                          go_roundw
                          case rel => exact ⟨k + 1, by go_num, by omega, hst.out _, hxt.out _ _⟩
                          case measure => simp [intOf]; omega
                  · have hlt' : ¬ (k : Int) < nd.length := by omega
                    obtain rfl : k = nd.length := by omega
                    rw [fillZ_full] at hZ
                    clear hlt hk
                    have hVs : Hid (w.heap.size + 2 ≤ wr.heap.size) := hC.out.sz
                    have hHV : Hid (H < wr.heap.size) := hZ.out.lt.2
                    have hNr := hide (hN.out.ext hC.out.ex)
                    obtain ⟨V, hV⟩ : ∃ V, Hid (V = wr.heap.size) := ⟨_, rfl⟩
                    go_wp2_with (at_make; refine mk_i64 rfl rfl nd.length rfl rfl (by omega) V hV.out.symm ?_; intro w6 O6 x6 z6; have hC6 := hide (hC.out.ext x6); have hZ6 := hide (hZ.out.ext x6); have hX6 : Hid (Ext wr w6) := x6; have hsz6 : Hid (w6.heap.size = V + 1) := z6; replace O6 := hide O6; clear x6 z6 hC q0 q1 q2 q3 q4; have hC := hC6; clear hC6; have q1 := hC.out.q.box 1 _ rfl)
                    refine Dr.region_held (fun b => b = w.heap.size) [1] (by kernel_rfl) ?_
                    refine Dr.held_q5 (by rfl) ?_
                    go_wp2_with fail
                    refine Dr.held_act (by rfl) (by rfl) ?_
                    refine wp_mk64 rfl n (by rfl) (by rfl) (by omega) ?_
                    intro w7 O7 x7 z7
                    refine ⟨fun b hb => x7.block b (by have h1 := hC.out.sz; have h2 : b = w.heap.size := hb; simp only [World.drew]; omega), ?_⟩
                    have hX7 : Hid (Ext wr w7) := hX6.out.drew.trans x7
                    have hX67 : Hid (Ext w6 w7) := (Ext.refl w6).drew.trans x7
                    have hC7 := hide (hC.out.ext hX67.out)
                    have O67 := hide (O6.out.ext hX67.out)
                    have hZ7 := hide (hZ6.out.ext hX67.out)
                    have hr7 : Hid (IntsAt w7 (some ⟨w6.heap.size, 0, none⟩) (List.replicate n 0)) := OwnI.ints O7
                    have har : Hid (∀ p, (some ⟨w6.heap.size, 0, none⟩ : Option Addr) = some p → p.block ≠ V) := fun p hp => by cases hp; have := hsz6.out; show w6.heap.size ≠ V; omega
                    have hO8 : Hid (OwnI w7 wr.heap.size 2 (.slice (some ⟨V, 0, none⟩) nd.length nd.length) (List.replicate nd.length 0)) := by rw [← hV.out]; exact O67
                    have hwfr : Hid (WfA nd (List.replicate n (0 : Int)).length) := by rw [List.length_replicate]; exact hwf
                    clear x7 q1 O7 z7
                    refine Dr.held_q1 (by rfl) ?_
                    go_wp2_with fail
                    refine Dr.held_act (by rfl) (by rfl) ?_
                    go_wp2_with fail
                    refine (evalInto_all nd (List.replicate n 0) (List.replicate nd.length 0) na (some ⟨w6.heap.size, 0, none⟩) nc n V nd.length n ((nd.length : Int) - 1) wr w7 hX7 hNr hr7 har hO8 (by simp) (by omega) (by simp; omega) hwfr rfl (by simp)).mono ?_
                    rintro e w8 ⟨rfl, O8, b8⟩
                    refine ⟨fun b hb => b8.block b (by have h2 : b = w.heap.size := hb; have := hVs.out; omega), ?_⟩
                    have hE : Hid (EI w w8 [.slice ia its.length ic, .slice na nd.length nc, .int .i64 wh, .slice ga gr.length gc, .int .i64 li] nd (List.replicate n 0) H V nd.length nd.length) := ⟨hC7.out.but (But.of_below b8) (fun k hk => Nat.le_trans hVs.out hk), (hZ7.out.butS (But.of_below b8) (fun k hk hh => by cases hk; have h1 := hHV.out; have h2 : wr.heap.size ≤ H := hh; omega)).mono hBs2.out, O8.mono hVs.out⟩
                    have q1 := hE.out.ci.q.box 1 _ rfl
                    refine Dr.held_nil (by rfl) ⟨fun _ => ⟨w.heap.size, 1, rfl, rfl, Dr.isCells_of q1⟩, trivial⟩ ?_
                    clear q1 hC hC7 hZ7 hZ6 hZ O67 O6 hX7 hX67 hX6 O8 b8 hr7 har hO8 hwfr hNr
                    have hEm : Hid (∀ (x : Nat) (y : Int) (v : Value) (c : List Nd) W (p : List Nd × Int), y = (x : Int) → x < nd.length → EI w W [.slice ia its.length ic, .slice na nd.length nc, .int .i64 wh, .slice ga gr.length gc, .int .i64 li] nd (List.replicate n 0) H V nd.length nd.length → OwnN W (w.heap.size + 2) 98 v c → c.length + tsAt nd x ≤ 65536 → em nd (List.replicate n 0) x c = p → Calls Yabn.prog 46 #[.slice na nd.length nc, .slice (some ⟨H, 0, none⟩) nd.length nd.length, .slice (some ⟨V, 0, none⟩) nd.length nd.length, .int .i64 y, v] W (RetEm (w.heap.size + 2) p W)) := fun x y v c W p hy hx hE hO hl hp => by
                      subst hy
                      subst hp
                      exact emitRoot nd (List.replicate n 0) n hwf (w.heap.size + 2) (w.heap.size + 2) na nc H V nd.length nd.length x v c W (hN.out.ext hE.ci.ex) (hN.out.low hx (by omega)) hE.hz hE.va hO hE.ci.sz hx hl hl2
                    have hC := hide hE.out.ci
                    have q1 := hC.out.q.box 1 _ rfl
                    have q2 := hC.out.q.box 2 _ rfl
                    go_upto_if 229 with fail
                    go_cut [19, 20, 21] from 227 to 258 (fun v19 v20 v21 wc => ∃ (c : List Nd) (x : Int), v20 = .int .i64 x ∧ Hid (cW nd (List.replicate n 0) wh = (c, x)) ∧ Hid (OwnN wc (w.heap.size + 2) 98 v19 c) ∧ Hid (EI w wc [.slice ia its.length ic, .slice na nd.length nc, .int .i64 wh, .slice ga gr.length gc, .int .i64 li] nd (List.replicate n 0) H V nd.length nd.length))
                    case first =>
                      as_aux_lemma =>
                        by_cases hwn : wh = -1
                        · have hwb : (wh != -1) = false := by simp [hwn]
                          have hcw : Hid (cW nd (List.replicate n 0) wh = ([], -1)) := by show _ = _; unfold cW; rw [if_pos hwn]
                          replace hwn := hide hwn
                          go_wp2_with fail
                          go_meet
                          case rel => exact ⟨[], -1, rfl, hcw.out, OwnN.nil _ _ _, hE.out⟩
                        · have hwb : (wh != -1) = true := by simp [hwn]
                          have hx0 : 0 ≤ wh ∧ wh < nd.length := by rcases hcm.out.wh with h | h; exact absurd h hwn; exact h
                          obtain ⟨x, hx⟩ : ∃ x : Nat, Hid (wh = (x : Int)) := ⟨wh.toNat, by show _ = _; omega⟩
                          have hxn : x < nd.length := by have := hx.out; omega
                          obtain ⟨c, ec, kc⟩ := em_law (zr := List.replicate n 0) hwf.out (x + 1) x (by omega) hxn [] (fun i hi => by simp at hi)
                          have hlc : Hid (0 < c.length) := by have := kc.lo; show _ < _; simp at this; omega
                          have hc2 : Hid (c.length ≤ 65536) := by have h1 := kc.hi; have h2 := len_wh hcm.out hl2 x hx.out; show _ ≤ _; simp only at h2; omega
                          have hcase : Hid ((c.length = 1 ∧ (c.getD 0 nd0).op = 1 ∧ (c.getD 0 nd0).val ≠ 0 → cW nd (List.replicate n 0) wh = ([], -1)) ∧ (¬ (c.length = 1 ∧ (c.getD 0 nd0).op = 1 ∧ (c.getD 0 nd0).val ≠ 0) → cW nd (List.replicate n 0) wh = (c, (c.length : Int) - 1))) := by
                            refine ⟨fun h => ?_, fun h => ?_⟩
                            · unfold cW
                              rw [if_neg hwn, hx.out, Int.toNat_natCast, ec, if_pos h]
                            · unfold cW
                              rw [if_neg hwn, hx.out, Int.toNat_natCast, ec, if_neg h]
                          have hec := hide ec
                          clear hx0 kc ec
                          replace hwn := hide hwn
                          go_wp2_with fail
                          refine (hEm.out x wh (.slice none 0 0) [] w8 (c, (c.length : Int) - 1) hx.out hxn hE.out (OwnN.nil _ _ _) (len_wh hcm.out hl2 x hx.out) hec.out).mono ?_
                          rintro e w9 ⟨v9, rfl, hO9, hf9⟩
                          obtain ⟨p9, cap9, rfl, hh⟩ := hO9.form
                          rcases hh with ⟨_, _, h0⟩ | ⟨g9, rfl⟩
                          · exact absurd hlc.out (by simp only at h0; omega)
                          simp only at hO9
                          obtain ⟨d0, d1⟩ := hO9.cell0 hlc.out
                          have hE9 := hide (hE.out.fr hf9 (by decide) (by decide))
                          replace hO9 := hide hO9
                          clear hf9 hE hC q1 q2
                          obtain ⟨⟨o0, v0, l0, r0⟩, hc0⟩ : ∃ m, Hid (c.getD 0 nd0 = m) := ⟨_, rfl⟩
                          rw [hc0.out] at d0 d1 hcase
                          simp only at d0 d1 hcase
                          by_cases h1 : c.length = 1
                          · have h1b : ((c.length : Int) == 1) = true := by simp [h1]
                            by_cases h2 : o0 = 1
                            · have h2b : (o0 == 1) = true := by simp [h2]
                              by_cases h3 : v0 = 0
                              · have h3b : (v0 != 0) = false := by simp [h3]
                                have hcw : Hid (cW nd (List.replicate n 0) wh = (c, (c.length : Int) - 1)) := hcase.out.2 (fun h => h.2.2 h3)
                                replace h1 := hide h1
                                replace h2 := hide h2
                                replace h3 := hide h3
                                go_wp2_with fail
                                go_meet
                                case rel => exact ⟨c, (c.length : Int) - 1, rfl, hcw.out, hO9.out, hE9.out⟩
                              · have h3b : (v0 != 0) = true := by simp [h3]
                                have hcw : Hid (cW nd (List.replicate n 0) wh = ([], -1)) := hcase.out.1 ⟨h1, h2, h3⟩
                                replace h1 := hide h1
                                replace h2 := hide h2
                                replace h3 := hide h3
                                go_wp2_with fail
                                go_meet
                                case rel => exact ⟨[], -1, rfl, hcw.out, OwnN.nil _ _ _, hE9.out⟩
                            · have h2b : (o0 == 1) = false := by simp [h2]
                              have hcw : Hid (cW nd (List.replicate n 0) wh = (c, (c.length : Int) - 1)) := hcase.out.2 (fun h => h2 h.2.1)
                              replace h1 := hide h1
                              replace h2 := hide h2
                              go_wp2_with fail
                              go_meet
                              case rel => exact ⟨c, (c.length : Int) - 1, rfl, hcw.out, hO9.out, hE9.out⟩
                          · have h1b : ((c.length : Int) == 1) = false := by simp; omega
                            have hcw : Hid (cW nd (List.replicate n 0) wh = (c, (c.length : Int) - 1)) := hcase.out.2 (fun h => h1 h.1)
                            replace h1 := hide h1
                            go_wp2_with fail
                            go_meet
                            case rel => exact ⟨c, (c.length : Int) - 1, rfl, hcw.out, hO9.out, hE9.out⟩
                    case rest =>
                      clear hE hC q1 q2
                      obtain ⟨c, xw, rfl, hcw, hO, hE⟩ := hcut
                      have hcw1 : Hid ((cW nd (List.replicate n 0) wh).1 = c) := by show _ = _; rw [hcw.out]
                      have hC := hide hE.out.ci
                      have hIs : Hid (w.heap.size + 2 ≤ wc.heap.size) := hC.out.sz
                      have q0 := hC.out.q.box 0 _ rfl
                      go_wp2_with (at_make; refine mk_item rfl rfl its.length rfl rfl (by omega) wc.heap.size rfl ?_; intro wi OI xi zi; have hOi := hide (hO.out.ext xi); have hEi := hide (hE.out.ext xi); have OIi := hide (OwnV.mono OI hIs.out); clear xi zi OI q0 hC hO hE; have q0 := hEi.out.ci.q.box 0 _ rfl)
                      obtain ⟨I, hI9⟩ : ∃ I, wc.heap.size = I := ⟨_, rfl⟩
                      rw [hI9] at OIi hIs
                      simp only [hI9]
                      clear hI9
                      go_loopw [19, 266] (fun v i wr => ∃ k : Nat, i = .int .i64 k ∧ k ≤ its.length ∧ Hid (OwnN wr (w.heap.size + 2) 98 v (cK nd (List.replicate n 0) its c k).1) ∧ Hid (OwnV wr (w.heap.size + 2) 89 2 (.slice (some ⟨I, 0, none⟩) its.length its.length) (fillI (cK nd (List.replicate n 0) its c k).2 its.length)) ∧ Hid (EI w wr [.slice ia its.length ic, .slice na nd.length nc, .int .i64 wh, .slice ga gr.length gc, .int .i64 li] nd (List.replicate n 0) H V nd.length nd.length)) (fun _ i _ => its.length - (intOf i).toNat)
                      case atStart => exact ⟨0, rfl, Nat.zero_le _, hOi, OIi, hEi⟩
                      clear hOi OIi hEi q0
                      obtain ⟨k, rfl, hk, hO, hIo, hE⟩ := hrel
                      have hil : Hid ((cK nd (List.replicate n 0) its c k).2.length = k) := by have := len_its (zr := List.replicate n 0) hcm.out k hk; simp only at this; rw [hcw1.out] at this; exact this
                      by_cases hlt : k < its.length
                      · as_aux_lemma =>
                          have hlt' : (k : Int) < its.length := by omega
                          obtain ⟨b, off, rfl, c1, c2⟩ := (hI.out.ext hE.out.ci.ex) k hlt
                          have hio := hide (hcm.out.its _ (getD_mem_it its k hlt))
                          have hlen : Hid (∀ x : Nat, (its.getD k (0, 0)).2 = (x : Int) → (cK nd (List.replicate n 0) its c k).1.length + tsAt nd x ≤ 65536) := fun x hx => by have := len_it (zr := List.replicate n 0) hcm.out hl2 k x hlt hx; simp only at this; rw [hcw1.out] at this; exact this
                          obtain ⟨⟨g, y⟩, hit⟩ : ∃ m, Hid (its.getD k (0, 0) = m) := ⟨_, rfl⟩
                          rw [hit.out] at c1 c2 hio hlen
                          simp only at c1 c2 hlen
                          have hfl : Hid ((fillI (cK nd (List.replicate n 0) its c k).2 its.length).length = its.length) := fillI_len _ _ (by rw [hil.out]; omega)
                          have hT : Hid (Blk (wr.alloc (.cells #[.int .i64 g, .int .i64 y] 89)) wr.heap.size 89 [.int .i64 g, .int .i64 y]) := Blk.new wr _ _
                          have t0 := hT.out.box 0 _ rfl
                          have t1 := hT.out.box 1 _ rfl
                          have hO1 := hide (hO.out.alloc (.cells #[.int .i64 g, .int .i64 y] 89))
                          have hI1 := hide (hIo.out.alloc (.cells #[.int .i64 g, .int .i64 y] 89))
                          have hE1 := hide (hE.out.ext ((Ext.refl wr).alloc (.cells #[.int .i64 g, .int .i64 y] 89)))
                          have hIb := (OwnV.lt hIo.out).2
                          clear hO hIo hE
                          have hIo := hI1
                          clear hI1
                          by_cases hyn : y = -1
                          · have hyb : (y != -1) = false := by simp [hyn]
                            have hck : Hid (cK nd (List.replicate n 0) its c (k + 1) = ((cK nd (List.replicate n 0) its c k).1, (cK nd (List.replicate n 0) its c k).2 ++ [(g, -1)])) := cK_no hit.out hyn
                            have hst : Hid ((fillI (cK nd (List.replicate n 0) its c k).2 its.length).set k [.int .i64 g, .int .i64 (-1)] = fillI ((cK nd (List.replicate n 0) its c k).2 ++ [(g, -1)]) its.length) := by have := fillI_step (cK nd (List.replicate n 0) its c k).2 its.length (by rw [hil.out]; omega) g (-1); rw [hil.out] at this; exact this
                            replace hyn := hide hyn
                            go_wp2_with (refine wpList_storeV rfl rfl (i := k) (k := 2) (vs := [.int .i64 g, .int .i64 (-1)]) (by rfl) (by rfl) hIo.out (by have := hfl.out; omega) size_item2 rfl (by simp [Value.oneCell']) ?_; intro w3 hown3 hgr3; replace hgr3 := hide hgr3; replace hown3 := hide hown3)
                            have hf3 : Hid (FrT 89 (w.heap.size + 2) (wr.alloc (.cells #[.int .i64 g, .int .i64 y] 89)) w3) := FrT.grown hIo.out.2 hgr3.out
                            have hO4 := hide (hO1.out.fr hf3.out (by decide))
                            have hE4 := hide (hE1.out.fr hf3.out (by decide) (by decide))
                            have hI4 := hide (hown3.out.congr (by rw [hst.out]))
                            go_roundw
                            case rel => exact ⟨k + 1, by go_num, by omega, by rw [hck.out]; exact hO4.out, by rw [hck.out]; exact hI4.out, hE4.out⟩
                            case measure => simp [intOf]; omega
                          · have hyb : (y != -1) = true := by simp [hyn]
                            have hyr : 0 ≤ y ∧ y < nd.length := by
                              rcases hio.out.2.2 with ⟨_, h1⟩ | ⟨_, h1⟩
                              · exact absurd h1 hyn
                              · exact h1
                            obtain ⟨x, hx⟩ : ∃ x : Nat, Hid (y = (x : Int)) := ⟨y.toNat, by show _ = _; omega⟩
                            have hxn : x < nd.length := by have := hx.out; omega
                            obtain ⟨⟨c9, l9⟩, ec⟩ : ∃ p, Hid (em nd (List.replicate n 0) x (cK nd (List.replicate n 0) its c k).1 = p) := ⟨_, rfl⟩
                            have hck : Hid (cK nd (List.replicate n 0) its c (k + 1) = (c9, (cK nd (List.replicate n 0) its c k).2 ++ [(g, l9)])) := by have := cK_yes (nd := nd) (zr := List.replicate n 0) (c0 := c) hit.out hx.out; rw [ec.out] at this; exact this
                            have hst : Hid ((fillI (cK nd (List.replicate n 0) its c k).2 its.length).set k [.int .i64 g, .int .i64 l9] = fillI ((cK nd (List.replicate n 0) its c k).2 ++ [(g, l9)]) its.length) := by have := fillI_step (cK nd (List.replicate n 0) its c k).2 its.length (by rw [hil.out]; omega) g l9; rw [hil.out] at this; exact this
                            clear hyr
                            replace hyn := hide hyn
                            have q1 := hE1.out.ci.q.box 1 _ rfl
                            go_wp2_with fail
                            refine (hEm.out x y _ (cK nd (List.replicate n 0) its c k).1 (wr.alloc (.cells #[.int .i64 g, .int .i64 y] 89)) (c9, l9) hx.out hxn hE1.out hO1.out (hlen.out x hx.out) ec.out).mono ?_
                            rintro e w9 ⟨v9, rfl, hO9, hf9⟩
                            dsimp only at hO9 ⊢
                            have hT9 := hide (FrT.blk hf9 hT.out (by decide))
                            have hE9 := hide (hE1.out.fr hf9 (by decide) (by decide))
                            have hI9 : Hid (OwnV w9 (w.heap.size + 2) 89 2 (.slice (some ⟨I, 0, none⟩) its.length its.length) (fillI (cK nd (List.replicate n 0) its c k).2 its.length)) := ⟨hIo.out.1, hf9.row hIo.out.2 (by decide)⟩
                            replace hO9 := hide hO9
                            clear hf9 hE1 hO1 hIo hT t0 t1 q1
                            have hIo := hI9
                            clear hI9
                            have t0 := hT9.out.box 0 _ rfl
                            go_wp2_with (refine wpList_storeV rfl rfl (i := k) (k := 2) (vs := [.int .i64 g, .int .i64 l9]) (by rfl) (by rfl) hIo.out (by have := hfl.out; omega) size_item2 rfl (by simp [Value.oneCell']) ?_; intro w3 hown3 hgr3; replace hgr3 := hide hgr3; replace hown3 := hide hown3)
                            have hf3 : Hid (FrT 89 (w.heap.size + 2) w9 w3) := FrT.grown hIo.out.2 hgr3.out
                            have hO4 := hide (hO9.out.fr hf3.out (by decide))
                            have hE4 := hide (hE9.out.fr hf3.out (by decide) (by decide))
                            have hI4 := hide (hown3.out.congr (by rw [hst.out]))
                            go_roundw
                            case rel => exact ⟨k + 1, by go_num, by omega, by rw [hck.out]; exact hO4.out, by rw [hck.out]; exact hI4.out, hE4.out⟩
                            case measure => simp [intOf]; omega
                      · have hlt' : ¬ (k : Int) < its.length := by omega
                        obtain rfl : k = its.length := by omega
                        obtain ⟨ca, cc, rfl, _⟩ := hO.out.form
                        have hIp : Hid (OwnP wr (w.heap.size + 2) 89 (.slice (some ⟨I, 0, none⟩) (cK nd (List.replicate n 0) its c its.length).2.length its.length) (cK nd (List.replicate n 0) its c its.length).2) := by rw [hil.out]; exact OwnP.of_rows (hIo.out.congr (fillI_full _ _ hil.out))
                        have hC := hide hE.out.ci
                        have hplan : Hid (plan ⟨its, nd, wh, gr, li⟩ n = ⟨n, (cK nd (List.replicate n 0) its c its.length).1, xw, (cK nd (List.replicate n 0) its c its.length).2, gr, li, ag⟩) := by show _ = _; unfold plan; simp only; rw [hcw.out, hag.out]
                        have hpl : Hid (∀ (ga : Option Addr) (gc : Nat) (lg : Nat), gr.length = lg → (Ending.returned (.tuple #[.agg #[.int .i64 n, .slice ca (cK nd (List.replicate n 0) its c its.length).1.length cc, .int .i64 xw, .slice (some ⟨I, 0, none⟩) its.length its.length, .slice ga lg gc, .int .i64 li, .bool ag], .bool true]) = .returned (.tuple #[.agg (plCells (plan ⟨its, nd, wh, gr, li⟩ n) ca (some ⟨I, 0, none⟩) ga cc its.length gc).toArray, .bool true]))) := fun ga gc lg hlg => by
                          rw [hplan.out]
                          simp only [plCells]
                          rw [hlg, hil.out]
                        have q3 := hC.out.q.box 3 _ rfl
                        clear hlt hk hIo hEm hE
                        by_cases hg0 : gr.length = 0
                        · have hg0' : ¬ (0 : Int) < gr.length := by omega
                          have hGn : Hid (OwnI wr (w.heap.size + 2) 3 (.slice none gr.length 0) gr) := by
                            have e := List.eq_nil_of_length_eq_zero hg0
                            rw [e]
                            exact OwnI.nil _ _ _
                          have q4 := hC.out.q.box 4 _ rfl
                          replace hg0 := hide hg0
                          go_wp2_with (refine wpList_storeB (vs := [.int .i64 n, .slice ca (cK nd (List.replicate n 0) its c its.length).1.length cc, .int .i64 xw, .slice (some ⟨I, 0, none⟩) its.length its.length, .slice none 0 0, .int .i64 li, .bool ag]) rfl rfl (by rfl) (by rfl) hC.out.p size_plan rfl (by simp [Value.oneCell']) ?_; intro w99 hb99 hgr99; replace hgr99 := hide hgr99; replace hb99 := hide hb99)
                          refine bodyPost_ret (results_cell2 rfl (by rfl) hb99.out Yabn.underlying57 size_plan) rfl ?_
                          exact ⟨Ext.setP hC.out hgr99.out, .inr ⟨hcm.out, ca, some ⟨I, 0, none⟩, none, cc, its.length, 0, hpl.out none 0 0 hg0.out, by rw [hplan.out]; exact ⟨OwnN.mono ⟨hO.out.1, ownsRow_kept hO.out.2 hgr99.out (by omega)⟩ (by omega), OwnP.mono (OwnP.kept hIp.out hgr99.out (by omega)) (by omega), OwnI.mono (OwnI.kept hGn.out hgr99.out (by omega)) (by omega)⟩⟩⟩
                        · have hg0' : (0 : Int) < gr.length := by omega
                          have hgs : Hid (w.heap.size + 2 ≤ wr.heap.size) := hC.out.sz
                          replace hg0 := hide hg0
                          go_wp2_with (first | (at_make; refine mk_int rfl rfl gr.length rfl rfl (by omega) wr.heap.size rfl ?_; intro wg Og xg zg; have hOg := hide (hO.out.ext xg); have hIg := hide (OwnP.ext hIp.out xg); have hCg := hide (hC.out.ext xg); have Og2 := hide (OwnI.mono Og hgs.out); have hGg := hide (hG.out.ext hCg.out.ex); clear xg zg Og; have q3g := hCg.out.q.box 3 _ rfl) | (refine wpList_cpI rfl rfl 3 Yabn.underlying44 size_int (w.heap.size + 2) wr.heap.size gr.length gr.length (List.replicate gr.length 0) gr (by rfl) (by simp) Og2.out ga gr.length gc (by rfl) rfl hGg.out (by simp) ?_; intro wk Ok hgk; have hfk : FrT 3 (w.heap.size + 2) wg wk := FrT.grown Og2.out hgk; have hOk := hide (hOg.out.fr hfk (by decide)); have hIk : Hid (OwnP wk (w.heap.size + 2) 89 (.slice (some ⟨I, 0, none⟩) (cK nd (List.replicate n 0) its c its.length).2.length its.length) (cK nd (List.replicate n 0) its c its.length).2) := hfk.row hIg.out (by decide); have hCk := hide (hCg.out.fr hfk); have hGk := hide Ok; clear hfk Ok hgk; have q4k := hCk.out.q.box 4 _ rfl) | (refine wpList_storeB (vs := [.int .i64 n, .slice ca (cK nd (List.replicate n 0) its c its.length).1.length cc, .int .i64 xw, .slice (some ⟨I, 0, none⟩) its.length its.length, .slice (some ⟨wr.heap.size, 0, none⟩) gr.length gr.length, .int .i64 li, .bool ag]) rfl rfl (by rfl) (by rfl) hCk.out.p size_plan rfl (by simp [Value.oneCell']) ?_; intro w99 hb99 hgr99; replace hgr99 := hide hgr99; replace hb99 := hide hb99))
                          refine bodyPost_ret (results_cell2 rfl (by rfl) hb99.out Yabn.underlying57 size_plan) rfl ?_
                          exact ⟨Ext.setP hCk.out hgr99.out, .inr ⟨hcm.out, ca, some ⟨I, 0, none⟩, (some ⟨wr.heap.size, 0, none⟩), cc, its.length, gr.length, hpl.out (some ⟨wr.heap.size, 0, none⟩) gr.length gr.length rfl, by rw [hplan.out]; exact ⟨OwnN.mono ⟨hOk.out.1, ownsRow_kept hOk.out.2 hgr99.out (by omega)⟩ (by omega), OwnP.mono (OwnP.kept hIk.out hgr99.out (by omega)) (by omega), OwnI.mono (OwnI.kept hGk.out hgr99.out (by omega)) (by omega)⟩⟩⟩
end Go.Proofs.YbyabwGreat
