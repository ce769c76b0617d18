/- Walk: spec.RefCompile -/
import Derived.Test.YbyabwGreatSpc6a
import Derived.Deep.CutRange
namespace Go.Proofs.YbyabwGreat
open Go.RowKit
set_option maxRecDepth 100000
set_option linter.unusedVariables false
set_option linter.unusedSimpArgs false

set_option maxHeartbeats 32000000 in
theorem RefCompile (q : Qy) (ia na ga : Option Addr) (ic nc gc n : Nat) (w : World) (hI : Hid (PairsAt w ia q.its)) (hN : Hid (NodesAt w na q.nd)) (hG : Hid (IntsAt w ga q.gr))
    (hl1 : q.its.length ≤ 65536) (hl2 : q.nd.length ≤ 65536) (hl3 : q.gr.length ≤ 65600) (hn : n ≤ 65535) :
    Calls Yabn.prog 22 #[.agg (qCells q ia na ga ic nc gc).toArray, .int .i64 n] w (RetPl q n w) := by
  obtain ⟨its, nd, wh, gr, li⟩ := q
  simp only at hI hN hG hl1 hl2 hl3
  have hC : Hid (CI w ((w.alloc (.cells #[.slice ia its.length ic, .slice na nd.length nc, .int .i64 wh, .slice ga gr.length gc, .int .i64 li] 53)).alloc (.cells #[.int .i64 0, .slice none 0 0, .int .i64 0, .slice none 0 0, .slice none 0 0, .int .i64 0, .bool false] 57)) [.slice ia its.length ic, .slice na nd.length nc, .int .i64 wh, .slice ga gr.length gc, .int .i64 li]) := by
    refine ⟨(Blk.new w _ _).alloc _, ?_, ((Ext.refl w).alloc _).alloc _⟩
    have := Blk.new (w.alloc (.cells #[.slice ia its.length ic, .slice na nd.length nc, .int .i64 wh, .slice ga gr.length gc, .int .i64 li] 53)) #[.int .i64 0, .slice none 0 0, .int .i64 0, .slice none 0 0, .slice none 0 0, .int .i64 0, .bool false] 57
    rw [show (w.alloc (.cells #[.slice ia its.length ic, .slice na nd.length nc, .int .i64 wh, .slice ga gr.length gc, .int .i64 li] 53)).heap.size = w.heap.size + 1 by simp] at this
    exact this
  (try clear q0)
  (try clear q1)
  (try clear q2)
  (try clear q3)
  (try clear q4)
  have q0 := hC.out.q.box 0 _ rfl
  have q1 := hC.out.q.box 1 _ rfl
  have q2 := hC.out.q.box 2 _ rfl
  have q3 := hC.out.q.box 3 _ rfl
  have q4 := hC.out.q.box 4 _ rfl
  simp only [qCells]
  go_enter Yabn.func22, Yabn.ntmps22
  by_cases h256 : 256 < n
  · have h256' : (256 : Int) < n := by omega
    have hz : Hid (¬ CmOK ⟨its, nd, wh, gr, li⟩ n) := fun h => by have := h.n1; omega
    go_wp2_with (refine wpList_storeB (vs := plz) rfl rfl (by rfl) (by rfl) hC.out.p size_plan rfl plz_one ?_; intro w99 hb99 hgr99; replace hgr99 := hide hgr99; replace hb99 := hide hb99)
    refine bodyPost_ret (results_cell2 rfl (by rfl) hb99.out Yabn.underlying57 size_plan) rfl ?_
    exact ⟨Ext.setP hC.out hgr99.out, .inl ⟨hz.out, rfl⟩⟩
  have h256' : ¬ (256 : Int) < n := by omega
  by_cases hi1 : its.length < 1
  · have hi1' : (its.length : Int) < 1 := by omega
    have hz : Hid (¬ CmOK ⟨its, nd, wh, gr, li⟩ n) := fun h => by have := h.ni; simp only at this; omega
    go_wp2_with (refine wpList_storeB (vs := plz) rfl rfl (by rfl) (by rfl) hC.out.p size_plan rfl plz_one ?_; intro w99 hb99 hgr99; replace hgr99 := hide hgr99; replace hb99 := hide hb99)
    refine bodyPost_ret (results_cell2 rfl (by rfl) hb99.out Yabn.underlying57 size_plan) rfl ?_
    exact ⟨Ext.setP hC.out hgr99.out, .inl ⟨hz.out, rfl⟩⟩
  have hi1' : ¬ (its.length : Int) < 1 := by omega
  by_cases hlm : li < -1
  · have hz : Hid (¬ CmOK ⟨its, nd, wh, gr, li⟩ n) := fun h => by have := h.li; simp only at this; omega
    go_wp2_with (refine wpList_storeB (vs := plz) rfl rfl (by rfl) (by rfl) hC.out.p size_plan rfl plz_one ?_; intro w99 hb99 hgr99; replace hgr99 := hide hgr99; replace hb99 := hide hb99)
    refine bodyPost_ret (results_cell2 rfl (by rfl) hb99.out Yabn.underlying57 size_plan) rfl ?_
    exact ⟨Ext.setP hC.out hgr99.out, .inl ⟨hz.out, rfl⟩⟩
  have hlm' : ¬ li < -1 := hlm
  go_wp2_with fail
  generalize ((w.alloc (.cells #[.slice ia its.length ic, .slice na nd.length nc, .int .i64 wh, .slice ga gr.length gc, .int .i64 li] 53)).alloc (.cells #[.int .i64 0, .slice none 0 0, .int .i64 0, .slice none 0 0, .slice none 0 0, .int .i64 0, .bool false] 57)) = X at *
  go_loopw [7] (fun i wr => ∃ k : Nat, i = .int .i64 k ∧ k ≤ nd.length ∧ Hid (∀ j : Nat, j < k → wfP (nd.getD j nd0) j n) ∧ Hid (CI w wr [.slice ia its.length ic, .slice na nd.length nc, .int .i64 wh, .slice ga gr.length gc, .int .i64 li])) (fun i _ => nd.length - (intOf i).toNat)
  case atStart => exact ⟨0, rfl, Nat.zero_le _, fun j hj => by omega, hC⟩
  clear hC q0 q1 q2 q3 q4
  obtain ⟨k, rfl, hk, hpre, hC⟩ := hrel
  (try clear q0)
  (try clear q1)
  (try clear q2)
  (try clear q3)
  (try clear q4)
  have q0 := hC.out.q.box 0 _ rfl
  have q1 := hC.out.q.box 1 _ rfl
  have q2 := hC.out.q.box 2 _ rfl
  have q3 := hC.out.q.box 3 _ rfl
  have q4 := hC.out.q.box 4 _ rfl
  by_cases hlt : k < nd.length
  · as_aux_lemma =>
      have hlt' : (k : Int) < nd.length := by omega
      obtain ⟨b, off, rfl, g1, g2, g3, g4⟩ := (hN.out.ext hC.out.ex).get k hlt
      obtain ⟨⟨o, y, l, r⟩, hnd⟩ : ∃ m, Hid (nd.getD k nd0 = m) := ⟨_, rfl⟩
      rw [hnd.out] at g1 g2 g3 g4
      simp only at g1 g2 g3 g4
      go_wp2_with fail
      refine (spec.WellFormed o y l r k n wr).mono ?_
      rintro e w1 ⟨bz, rfl, hbz, x1⟩
      replace hC := hide (hC.out.ext x1)
      clear x1 q0 q1 q2 q3 q4 g1 g2 g3 g4
      cases bz with
      | false =>
        have hz : Hid (¬ CmOK ⟨its, nd, wh, gr, li⟩ n) := fun h => by
          have h1 := h.wf k hlt
          simp only at h1
          rw [hnd.out] at h1
          exact absurd (hbz.2 h1) (by decide)
        clear hbz
        go_wp2_with (refine wpList_storeB (vs := plz) rfl rfl (by rfl) (by rfl) hC.out.p size_plan rfl plz_one ?_; intro w99 hb99 hgr99; replace hgr99 := hide hgr99; replace hb99 := hide hb99)
        refine bodyPost_ret (results_cell2 rfl (by rfl) hb99.out Yabn.underlying57 size_plan) rfl ?_
        exact ⟨Ext.setP hC.out hgr99.out, .inl ⟨hz.out, rfl⟩⟩
      | true =>
        have hnext : Hid (∀ j : Nat, j < k + 1 → wfP (nd.getD j nd0) j n) := fun j hj => by
          by_cases hjk : j < k
          · exact hpre.out j hjk
          · obtain rfl : j = k := by omega
            rw [hnd.out]
            exact hbz.1 rfl
        clear hbz hnd hpre
        go_wp2
        go_roundw
        case rel => exact ⟨k + 1, by go_num, by omega, hnext.out, hC.out⟩
        case measure => simp [intOf]; omega
  · have hlt' : ¬ (k : Int) < nd.length := by omega
    obtain rfl : k = nd.length := by omega
    have hwf : Hid (WfA nd n) := hpre.out
    clear hpre hlt hk
    go_upto_region 9 with fail
    go_cut [80] from 67 to 80 (fun v wc => ∃ bq : Bool, v = .bool bq ∧ Hid (bq = false ↔ WhP nd.length wh) ∧ Hid (CI w wc [.slice ia its.length ic, .slice na nd.length nc, .int .i64 wh, .slice ga gr.length gc, .int .i64 li]))
    case first =>
      as_aux_lemma =>
        by_cases hw1 : wh = -1
        · have hwb : (wh != -1) = false := by simp [hw1]
          have hp : Hid (WhP nd.length wh) := .inl hw1
          replace hw1 := hide hw1
          go_wp2_with fail
          go_meet
          case rel => exact ⟨false, rfl, ⟨fun _ => hp.out, fun _ => rfl⟩, hC.out⟩
        · have hwb : (wh != -1) = true := by simp [hw1]
          by_cases hw2 : wh < 0
          · have hw2b : decide (wh < 0) = true := by simp [hw2]
            have hp : Hid (¬ WhP nd.length wh) := fun h => by rcases h with h | h; exact hw1 h; omega
            replace hw1 := hide hw1
            go_wp2_with fail
            go_meet
            case rel => exact ⟨true, rfl, ⟨fun h => (by cases h), fun h => absurd h hp.out⟩, hC.out⟩
          · have hw2b : decide (wh < 0) = false := by simp; omega
            by_cases hw3 : (nd.length : Int) ≤ wh
            · have hw3b : decide ((nd.length : Int) ≤ wh) = true := by simp [hw3]
              have hp : Hid (¬ WhP nd.length wh) := fun h => by rcases h with h | h; exact hw1 h; omega
              replace hw1 := hide hw1
              go_wp2_with fail
              go_meet
              case rel => exact ⟨true, rfl, ⟨fun h => (by cases h), fun h => absurd h hp.out⟩, hC.out⟩
            · have hw3b : decide ((nd.length : Int) ≤ wh) = false := by simp; omega
              have hp : Hid (WhP nd.length wh) := .inr ⟨by omega, by omega⟩
              replace hw1 := hide hw1
              go_wp2_with fail
              go_meet
              case rel => exact ⟨false, rfl, ⟨fun _ => hp.out, fun _ => rfl⟩, hC.out⟩
    case rest =>
      clear hC q0 q1 q2 q3 q4
      obtain ⟨bq, rfl, hbq, hC⟩ := hcut
      cases bq with
      | true =>
        have hz : Hid (¬ CmOK ⟨its, nd, wh, gr, li⟩ n) := fun h => absurd (hbq.out.2 h.wh) (by decide)
        go_wp2_with (refine wpList_storeB (vs := plz) rfl rfl (by rfl) (by rfl) hC.out.p size_plan rfl plz_one ?_; intro w99 hb99 hgr99; replace hgr99 := hide hgr99; replace hb99 := hide hb99)
        refine bodyPost_ret (results_cell2 rfl (by rfl) hb99.out Yabn.underlying57 size_plan) rfl ?_
        exact ⟨Ext.setP hC.out hgr99.out, .inl ⟨hz.out, rfl⟩⟩
      | false =>
        have hwp : Hid (WhP nd.length wh) := hbq.out.1 rfl
        clear hbq
        (try clear q0)
        (try clear q1)
        (try clear q2)
        (try clear q3)
        (try clear q4)
        have q0 := hC.out.q.box 0 _ rfl
        have q1 := hC.out.q.box 1 _ rfl
        have q2 := hC.out.q.box 2 _ rfl
        have q3 := hC.out.q.box 3 _ rfl
        have q4 := hC.out.q.box 4 _ rfl
        go_wp2_with fail
        go_loopw [8] (fun i wr => ∃ k : Nat, i = .int .i64 k ∧ k ≤ its.length ∧ Hid (∀ j : Nat, j < k → ItOK nd.length (its.getD j (0, 0))) ∧ Hid (CI w wr [.slice ia its.length ic, .slice na nd.length nc, .int .i64 wh, .slice ga gr.length gc, .int .i64 li])) (fun i _ => its.length - (intOf i).toNat)
        case atStart => exact ⟨0, rfl, Nat.zero_le _, fun j hj => by omega, hC⟩
        clear hC q0 q1 q2 q3 q4
        obtain ⟨k, rfl, hk, hpre, hC⟩ := hrel
        (try clear q0)
        (try clear q1)
        (try clear q2)
        (try clear q3)
        (try clear q4)
        have q0 := hC.out.q.box 0 _ rfl
        have q1 := hC.out.q.box 1 _ rfl
        have q2 := hC.out.q.box 2 _ rfl
        have q3 := hC.out.q.box 3 _ rfl
        have q4 := hC.out.q.box 4 _ rfl
        by_cases hlt : k < its.length
        · as_aux_lemma =>
            have hlt' : (k : Int) < its.length := by omega
            obtain ⟨b, off, rfl, c1, c2⟩ := (hI.out.ext hC.out.ex) k hlt
            have hfail : Hid (¬ ItOK nd.length (its.getD k (0, 0)) → ¬ CmOK ⟨its, nd, wh, gr, li⟩ n) := fun h hc => h (hc.its _ (getD_mem_it its k hlt))
            have hnx : Hid (ItOK nd.length (its.getD k (0, 0)) → ∀ j : Nat, j < k + 1 → ItOK nd.length (its.getD j (0, 0))) := fun h j hj => by
              by_cases hjk : j < k
              · exact hpre.out j hjk
              · obtain rfl : j = k := by omega
                exact h
            obtain ⟨⟨g, y⟩, hit⟩ : ∃ m, Hid (its.getD k (0, 0) = m) := ⟨_, rfl⟩
            rw [hit.out] at c1 c2 hfail hnx
            simp only at c1 c2
            have hT : Hid (Blk (wr.alloc (.cells #[.int .i64 g, .int .i64 y] 89)) wr.heap.size 89 [.int .i64 g, .int .i64 y]) := Blk.new wr _ _
            have t0 := hT.out.box 0 _ rfl
            have t1 := hT.out.box 1 _ rfl
            have hC1 := hide (hC.out.ext ((Ext.refl wr).alloc (.cells #[.int .i64 g, .int .i64 y] 89)))
            clear hC
            have hC := hC1
            clear hC1
            by_cases hg0 : g < 0
            · have hz := hide (hfail.out (fun h => by have := h.1; simp only at this; omega))
              go_wp2_with (refine wpList_storeB (vs := plz) rfl rfl (by rfl) (by rfl) hC.out.p size_plan rfl plz_one ?_; intro w99 hb99 hgr99; replace hgr99 := hide hgr99; replace hb99 := hide hb99)
              refine bodyPost_ret (results_cell2 rfl (by rfl) hb99.out Yabn.underlying57 size_plan) rfl ?_
              exact ⟨Ext.setP hC.out hgr99.out, .inl ⟨hz.out, rfl⟩⟩
            by_cases hg5 : 5 < g
            · have hz := hide (hfail.out (fun h => by have := h.2.1; simp only at this; omega))
              go_wp2_with (refine wpList_storeB (vs := plz) rfl rfl (by rfl) (by rfl) hC.out.p size_plan rfl plz_one ?_; intro w99 hb99 hgr99; replace hgr99 := hide hgr99; replace hb99 := hide hb99)
              refine bodyPost_ret (results_cell2 rfl (by rfl) hb99.out Yabn.underlying57 size_plan) rfl ?_
              exact ⟨Ext.setP hC.out hgr99.out, .inl ⟨hz.out, rfl⟩⟩
            by_cases hge : g = 5
            · have hgb : (g == 5) = true := by simp [hge]
              by_cases hyn : y = -1
              · have hyb : (y != -1) = false := by simp [hyn]
                have hnext := hide (hnx.out ⟨by simp only; omega, by simp only; omega, .inl ⟨hge, hyn⟩⟩)
                replace hyn := hide hyn
                replace hge := hide hge
                go_wp2_with fail
                go_roundw
                case rel => exact ⟨k + 1, by go_num, by omega, hnext.out, hC.out⟩
                case measure => simp [intOf]; omega
              · have hyb : (y != -1) = true := by simp [hyn]
                have hz := hide (hfail.out (fun h => by rcases h.2.2 with h | h; exact hyn h.2; exact h.1 hge))
                replace hyn := hide hyn
                replace hge := hide hge
                go_wp2_with (refine wpList_storeB (vs := plz) rfl rfl (by rfl) (by rfl) hC.out.p size_plan rfl plz_one ?_; intro w99 hb99 hgr99; replace hgr99 := hide hgr99; replace hb99 := hide hb99)
                refine bodyPost_ret (results_cell2 rfl (by rfl) hb99.out Yabn.underlying57 size_plan) rfl ?_
                exact ⟨Ext.setP hC.out hgr99.out, .inl ⟨hz.out, rfl⟩⟩
            · have hgb : (g == 5) = false := by simp [hge]
              by_cases hy0 : y < 0
              · have hz := hide (hfail.out (fun h => by rcases h.2.2 with h | h; exact hge h.1; have := h.2.1; simp only at this; omega))
                replace hge := hide hge
                go_wp2_with (refine wpList_storeB (vs := plz) rfl rfl (by rfl) (by rfl) hC.out.p size_plan rfl plz_one ?_; intro w99 hb99 hgr99; replace hgr99 := hide hgr99; replace hb99 := hide hb99)
                refine bodyPost_ret (results_cell2 rfl (by rfl) hb99.out Yabn.underlying57 size_plan) rfl ?_
                exact ⟨Ext.setP hC.out hgr99.out, .inl ⟨hz.out, rfl⟩⟩
              by_cases hy1 : (nd.length : Int) ≤ y
              · have hz := hide (hfail.out (fun h => by rcases h.2.2 with h | h; exact hge h.1; have := h.2.2; simp only at this; omega))
                replace hge := hide hge
                go_wp2_with (refine wpList_storeB (vs := plz) rfl rfl (by rfl) (by rfl) hC.out.p size_plan rfl plz_one ?_; intro w99 hb99 hgr99; replace hgr99 := hide hgr99; replace hb99 := hide hb99)
                refine bodyPost_ret (results_cell2 rfl (by rfl) hb99.out Yabn.underlying57 size_plan) rfl ?_
                exact ⟨Ext.setP hC.out hgr99.out, .inl ⟨hz.out, rfl⟩⟩
              have hnext := hide (hnx.out ⟨by simp only; omega, by simp only; omega, .inr ⟨hge, by simp only; omega, by simp only; omega⟩⟩)
              replace hge := hide hge
              go_wp2_with fail
              go_roundw
              case rel => exact ⟨k + 1, by go_num, by omega, hnext.out, hC.out⟩
              case measure => simp [intOf]; omega
        · have hlt' : ¬ (k : Int) < its.length := by omega
          obtain rfl : k = its.length := by omega
          have hits : Hid (ItsOK nd.length its) := fun it hit => by
            obtain ⟨j, hj, e⟩ := mem_getD hit
            rw [← e]
            exact hpre.out j hj
          clear hpre hlt hk
          go_wp2_with fail
          go_loopw [10] (fun i wr => ∃ k : Nat, i = .int .i64 k ∧ k ≤ gr.length ∧ Hid (∀ j : Nat, j < k → 0 ≤ gr.getD j 0 ∧ gr.getD j 0 < n) ∧ Hid (CI w wr [.slice ia its.length ic, .slice na nd.length nc, .int .i64 wh, .slice ga gr.length gc, .int .i64 li])) (fun i _ => gr.length - (intOf i).toNat)
          case atStart => exact ⟨0, rfl, Nat.zero_le _, fun j hj => by omega, hC⟩
          clear hC q0 q1 q2 q3 q4
          obtain ⟨k, rfl, hk, hpre, hC⟩ := hrel
          (try clear q0)
          (try clear q1)
          (try clear q2)
          (try clear q3)
          (try clear q4)
          have q0 := hC.out.q.box 0 _ rfl
          have q1 := hC.out.q.box 1 _ rfl
          have q2 := hC.out.q.box 2 _ rfl
          have q3 := hC.out.q.box 3 _ rfl
          have q4 := hC.out.q.box 4 _ rfl
          by_cases hlt : k < gr.length
          · as_aux_lemma =>
              have hlt' : (k : Int) < gr.length := by omega
              obtain ⟨b, off, rfl, c3⟩ := (hG.out.ext hC.out.ex) k hlt
              have hfail : Hid (¬ (0 ≤ gr.getD k 0 ∧ gr.getD k 0 < n) → ¬ CmOK ⟨its, nd, wh, gr, li⟩ n) := fun h hc => h (hc.gr _ (getD_mem_I gr k hlt))
              have hnx : Hid ((0 ≤ gr.getD k 0 ∧ gr.getD k 0 < n) → ∀ j : Nat, j < k + 1 → 0 ≤ gr.getD j 0 ∧ gr.getD j 0 < n) := fun h j hj => by
                by_cases hjk : j < k
                · exact hpre.out j hjk
                · obtain rfl : j = k := by omega
                  exact h
              obtain ⟨g, hgk⟩ : ∃ m, Hid (gr.getD k 0 = m) := ⟨_, rfl⟩
              rw [hgk.out] at c3 hfail hnx
              by_cases hg0 : g < 0
              · have hz := hide (hfail.out (fun h => by omega))
                go_wp2_with (refine wpList_storeB (vs := plz) rfl rfl (by rfl) (by rfl) hC.out.p size_plan rfl plz_one ?_; intro w99 hb99 hgr99; replace hgr99 := hide hgr99; replace hb99 := hide hb99)
                refine bodyPost_ret (results_cell2 rfl (by rfl) hb99.out Yabn.underlying57 size_plan) rfl ?_
                exact ⟨Ext.setP hC.out hgr99.out, .inl ⟨hz.out, rfl⟩⟩
              by_cases hgn : (n : Int) ≤ g
              · have hz := hide (hfail.out (fun h => by omega))
                go_wp2_with (refine wpList_storeB (vs := plz) rfl rfl (by rfl) (by rfl) hC.out.p size_plan rfl plz_one ?_; intro w99 hb99 hgr99; replace hgr99 := hide hgr99; replace hb99 := hide hb99)
                refine bodyPost_ret (results_cell2 rfl (by rfl) hb99.out Yabn.underlying57 size_plan) rfl ?_
                exact ⟨Ext.setP hC.out hgr99.out, .inl ⟨hz.out, rfl⟩⟩
              have hnext := hide (hnx.out ⟨by omega, by omega⟩)
              go_wp2_with fail
              go_roundw
              case rel => exact ⟨k + 1, by go_num, by omega, hnext.out, hC.out⟩
              case measure => simp [intOf]; omega
          · have hlt' : ¬ (k : Int) < gr.length := by omega
            obtain rfl : k = gr.length := by omega
            have hgrp : Hid (GrP n gr) := fun g hg => by
              obtain ⟨j, hj, e⟩ := List.getElem_of_mem hg
              have := hpre.out j hj
              rw [List.getD_eq_getElem?_getD, List.getElem?_eq_getElem hj] at this
              rw [← e]
              exact this
            clear hpre hlt hk
            have hBs : Hid (w.heap.size + 2 ≤ wr.heap.size) := hC.out.sz
            go_wp2_with (at_make; refine mk_int rfl rfl nd.length rfl rfl (by omega) wr.heap.size rfl ?_; intro w2 O2 x2 z2; replace hC := hide (hC.out.ext x2); replace O2 := hide O2; clear x2 z2)
            obtain ⟨B, hB⟩ : ∃ B, wr.heap.size = B := ⟨_, rfl⟩
            rw [hB] at O2 hBs
            simp only [hB]
            clear hB
            have hB2 := hBs
            go_loopw [12] (fun i wr => ∃ k : Nat, i = .int .i64 k ∧ k ≤ nd.length ∧ Hid (OwnI wr B 3 (.slice (some ⟨B, 0, none⟩) nd.length nd.length) (cntL nd.length (chTo nd k))) ∧ Hid (CI w wr [.slice ia its.length ic, .slice na nd.length nc, .int .i64 wh, .slice ga gr.length gc, .int .i64 li])) (fun i _ => nd.length - (intOf i).toNat)
            case atStart => exact ⟨0, rfl, Nat.zero_le _, by simp only [chTo]; rw [cntL_nil]; exact O2, hC⟩
            clear hC O2 q0 q1 q2 q3 q4
            obtain ⟨k, rfl, hk, hU, hC⟩ := hrel
            (try clear q0)
            (try clear q1)
            (try clear q2)
            (try clear q3)
            (try clear q4)
            have q0 := hC.out.q.box 0 _ rfl
            have q1 := hC.out.q.box 1 _ rfl
            have q2 := hC.out.q.box 2 _ rfl
            have q3 := hC.out.q.box 3 _ rfl
            have q4 := hC.out.q.box 4 _ rfl
            by_cases hlt : k < nd.length
            · as_aux_lemma =>
                have hlt' : (k : Int) < nd.length := by omega
                obtain ⟨b, off, rfl, g1, g2, g3, g4⟩ := (hN.out.ext hC.out.ex).get k hlt
                have hwk := hwf.out.kind hlt
                have hPl : Hid ((chTo nd k).length ≤ 131072) := by have := chTo_len nd k; show _ ≤ _; omega
                obtain ⟨⟨o, y, l, r⟩, hnd⟩ : ∃ m, Hid (nd.getD k nd0 = m) := ⟨_, rfl⟩
                rw [hnd.out] at g1 g2 g3 g4 hwk
                simp only at g1 g2 g3 g4 hwk
                have hT : Hid (Blk (wr.alloc (.cells #[.int .i64 o, .int .i64 y, .int .i64 l, .int .i64 r] 98)) wr.heap.size 98 [.int .i64 o, .int .i64 y, .int .i64 l, .int .i64 r]) := Blk.new wr _ _
                have hBw : B < wr.heap.size := (OwnI.lt hU.out).2
                have t0 := hT.out.box 0 _ rfl
                have t2 := hT.out.box 2 _ rfl
                have t3 := hT.out.box 3 _ rfl
                rcases hwk with ho | ⟨ho, _⟩ | ⟨m, ho, rfl, hmk⟩ | ⟨m, m2, ho, rfl, rfl, hmk, hmk2⟩
                · have hO9 : Hid (OwnI (wr.alloc (.cells #[.int .i64 o, .int .i64 y, .int .i64 l, .int .i64 r] 98)) B 3 (.slice (some ⟨B, 0, none⟩) nd.length nd.length) (cntL nd.length (chTo nd (k + 1)))) := (hU.out.alloc _).congr (by simp only [chTo]; rw [hnd.out, chN_no (.inl ho), List.append_nil])
                  have hC9 := hide (hC.out.ext ((Ext.refl wr).alloc (.cells #[.int .i64 o, .int .i64 y, .int .i64 l, .int .i64 r] 98)))
                  subst ho
                  go_wp2_with (go_at_call 59; refine (spec_isBin _ _).mono ?_; rintro e wx ⟨rfl, rfl⟩)
                  go_roundw
                  case rel => exact ⟨k + 1, by go_num, by omega, hO9.out, hC9.out⟩
                  case measure => simp [intOf]; omega
                · have hO9 : Hid (OwnI (wr.alloc (.cells #[.int .i64 o, .int .i64 y, .int .i64 l, .int .i64 r] 98)) B 3 (.slice (some ⟨B, 0, none⟩) nd.length nd.length) (cntL nd.length (chTo nd (k + 1)))) := (hU.out.alloc _).congr (by simp only [chTo]; rw [hnd.out, chN_no (.inr ho), List.append_nil])
                  have hC9 := hide (hC.out.ext ((Ext.refl wr).alloc (.cells #[.int .i64 o, .int .i64 y, .int .i64 l, .int .i64 r] 98)))
                  subst ho
                  go_wp2_with (go_at_call 59; refine (spec_isBin _ _).mono ?_; rintro e wx ⟨rfl, rfl⟩)
                  go_roundw
                  case rel => exact ⟨k + 1, by go_num, by omega, hO9.out, hC9.out⟩
                  case measure => simp [intOf]; omega
                · have hch : Hid (chTo nd (k + 1) = chTo nd k ++ [m]) := by show _ = _; simp only [chTo]; rw [hnd.out, chN_un ho rfl]
                  have hmn : m < nd.length := by omega
                  have hmn' : (m : Int) < nd.length := by omega
                  have hln : Hid (nd.length = (cntL nd.length (chTo nd k)).length) := (cntL_len _ _).symm
                  have fz := hU.out.frozenAt hln.out m
                  have cm := hU.out.cellAt m (by rw [← hln.out]; exact hmn)
                  rw [cntL_at _ _ _ hmn] at cm
                  obtain ⟨ct, hct⟩ : ∃ c : Nat, Hid ((chTo nd k).count m = c) := ⟨_, rfl⟩
                  have hctb : ct ≤ 200000 := by have h1 := hct.out; have h2 := hPl.out; have h3 := List.count_le_length (a := m) (l := (chTo nd k)); omega
                  rw [hct.out] at cm
                  have hset : Hid ((cntL nd.length (chTo nd k)).set m ((ct : Int) + 1) = cntL nd.length ((chTo nd k) ++ [m])) := by have := cntL_snoc nd.length (chTo nd k) m hmn; rw [hct.out] at this; exact this
                  have hst : Hid (∀ ob, OwnI ((wr.setCell ⟨B, m, none⟩ (.int .i64 ((ct : Int) + 1))).alloc ob) B 3 (.slice (some ⟨B, 0, none⟩) nd.length nd.length) (cntL nd.length (chTo nd (k + 1)))) := fun ob => ((hU.out.stored hln.out m _).congr (by rw [hch.out]; exact hset.out)).alloc ob
                  have hxt : Hid (∀ ob v, CI w ((wr.setCell ⟨B, m, none⟩ v).alloc ob) _) := fun ob v => (hC.out.set B m v hB2.out).ext ((Ext.refl _).alloc ob)
                  rcases ho with ho | ho
                  · have ob3 : (o == 3) = true := by simp [ho]
                    replace ho := hide ho
                    go_wp2_with (go_at_call 59; refine (spec_isBin _ _).mono ?_; rintro e wx ⟨rfl, rfl⟩)
                    go_roundw
                    case rel => exact ⟨k + 1, by go_num, by omega, hst.out _, hxt.out _ _⟩
                    case measure => simp [intOf]; omega
                  · have ob3 : (o == 3) = false := by simp [ho]
                    have ob15 : (o == 15) = true := by simp [ho]
                    replace ho := hide ho
                    go_wp2_with (go_at_call 59; refine (spec_isBin _ _).mono ?_; rintro e wx ⟨rfl, rfl⟩)
                    go_roundw
                    case rel => exact ⟨k + 1, by go_num, by omega, hst.out _, hxt.out _ _⟩
                    case measure => simp [intOf]; omega
                · have hch : Hid (chTo nd (k + 1) = chTo nd k ++ [m] ++ [m2]) := by show _ = _; simp only [chTo]; rw [hnd.out, chN_bi ho rfl rfl]; simp
                  have ob3 : (o == 3) = false := by simp; omega
                  have ob15 : (o == 15) = false := by simp; omega
                  obtain ⟨ho4, ho14⟩ := ho
                  have ho4' : decide (4 ≤ o) = true := by simp [ho4]
                  have ho14' : decide (o ≤ 14) = true := by simp [ho14]
                  have hmn : m < nd.length := by omega
                  have hmn' : (m : Int) < nd.length := by omega
                  have hmn2 : m2 < nd.length := by omega
                  have hmn2' : (m2 : Int) < nd.length := by omega
                  have hln : Hid (nd.length = (cntL nd.length (chTo nd k)).length) := (cntL_len _ _).symm
                  have fz := hU.out.frozenAt hln.out m
                  have cm := hU.out.cellAt m (by rw [← hln.out]; exact hmn)
                  rw [cntL_at _ _ _ hmn] at cm
                  obtain ⟨ct, hct⟩ : ∃ c : Nat, Hid ((chTo nd k).count m = c) := ⟨_, rfl⟩
                  have hctb : ct ≤ 200000 := by have h1 := hct.out; have h2 := hPl.out; have h3 := List.count_le_length (a := m) (l := (chTo nd k)); omega
                  rw [hct.out] at cm
                  have hset : Hid ((cntL nd.length (chTo nd k)).set m ((ct : Int) + 1) = cntL nd.length ((chTo nd k) ++ [m])) := by have := cntL_snoc nd.length (chTo nd k) m hmn; rw [hct.out] at this; exact this
                  have hln2 : Hid (nd.length = (cntL nd.length (chTo nd k ++ [m])).length) := (cntL_len _ _).symm
                  have hU2 : Hid (OwnI (wr.setCell ⟨B, m, none⟩ (.int .i64 ((ct : Int) + 1))) B 3 (.slice (some ⟨B, 0, none⟩) nd.length nd.length) (cntL nd.length (chTo nd k ++ [m]))) := (hU.out.stored hln.out m _).congr hset.out
                  have hC2 := hide (hC.out.set B m (.int .i64 ((ct : Int) + 1)) hB2.out)
                  have hset2 := hide (cntL_snoc nd.length (chTo nd k ++ [m]) m2 hmn2)
                  by_cases hmm : m2 = m
                  · subst hmm
                    have hc2 : Hid ((chTo nd k ++ [m2]).count m2 = ct + 1) := by show _ = _; rw [List.count_append, hct.out]; simp
                    rw [hc2.out] at hset2
                    have hst : Hid (∀ ob, OwnI (((wr.setCell ⟨B, m2, none⟩ (.int .i64 ((ct : Int) + 1))).setCell ⟨B, m2, none⟩ (.int .i64 ((ct : Int) + 1 + 1))).alloc ob) B 3 (.slice (some ⟨B, 0, none⟩) nd.length nd.length) (cntL nd.length (chTo nd (k + 1)))) := fun ob => ((hU2.out.stored hln2.out m2 _).congr (by rw [hch.out, ← hset2.out]; simp)).alloc ob
                    have hxt : Hid (∀ ob v, CI w (((wr.setCell ⟨B, m2, none⟩ (.int .i64 ((ct : Int) + 1))).setCell ⟨B, m2, none⟩ v).alloc ob) _) := fun ob v => (hC2.out.set B m2 v hB2.out).ext ((Ext.refl _).alloc ob)
                    have cm2 := hU2.out.cellAt m2 (by rw [← hln2.out]; exact hmn2)
                    rw [cntL_at _ _ _ hmn2, hc2.out] at cm2
                    have fz2 := hU2.out.frozenAt hln2.out m2
                    have cm3 : (wr.setCell ⟨B, m2, none⟩ (.int .i64 ((ct : Int) + 1))).cell? ⟨B, m2, none⟩ = some (.int .i64 ((ct : Int) + 1)) := by rw [cm2]; simp
                    clear cm2
                    go_wp2_with (go_at_call 59; refine (spec_isBin _ _).mono ?_; rintro e wx ⟨rfl, rfl⟩)
                    go_roundw
                    case rel => exact ⟨k + 1, by go_num, by omega, hst.out _, hxt.out _ _⟩
                    case measure => simp [intOf]; omega
                  · have hc2 : Hid ((chTo nd k ++ [m]).count m2 = (chTo nd k).count m2) := by show _ = _; rw [List.count_append]; simp [Ne.symm hmm]
                    obtain ⟨ct2, hct2⟩ : ∃ c : Nat, Hid ((chTo nd k).count m2 = c) := ⟨_, rfl⟩
                    have hct2b : ct2 ≤ 200000 := by have h1 := hct2.out; have h2 := hPl.out; have h3 := List.count_le_length (a := m2) (l := chTo nd k); omega
                    rw [hc2.out, hct2.out] at hset2
                    have hst : Hid (∀ ob, OwnI (((wr.setCell ⟨B, m, none⟩ (.int .i64 ((ct : Int) + 1))).setCell ⟨B, m2, none⟩ (.int .i64 ((ct2 : Int) + 1))).alloc ob) B 3 (.slice (some ⟨B, 0, none⟩) nd.length nd.length) (cntL nd.length (chTo nd (k + 1)))) := fun ob => ((hU2.out.stored hln2.out m2 _).congr (by rw [hch.out]; exact hset2.out)).alloc ob
                    have hxt : Hid (∀ ob v, CI w (((wr.setCell ⟨B, m, none⟩ (.int .i64 ((ct : Int) + 1))).setCell ⟨B, m2, none⟩ v).alloc ob) _) := fun ob v => (hC2.out.set B m2 v hB2.out).ext ((Ext.refl _).alloc ob)
                    have cm3 := hU2.out.cellAt m2 (by rw [← hln2.out]; exact hmn2)
                    rw [cntL_at _ _ _ hmn2, hc2.out, hct2.out] at cm3
                    have fz2 := hU2.out.frozenAt hln2.out m2
                    have cm4 := hU.out.cellAt m2 (by rw [← hln.out]; exact hmn2)
                    rw [cntL_at _ _ _ hmn2, hct2.out] at cm4
                    have hmm1 : ¬ m = m2 := fun e => hmm e.symm
                    go_wp2_with (go_at_call 59; refine (spec_isBin _ _).mono ?_; rintro e wx ⟨rfl, rfl⟩)
                    go_roundw
                    case rel => exact ⟨k + 1, by go_num, by omega, hst.out _, hxt.out _ _⟩
                    case measure => simp [intOf]; omega
            · have hlt' : ¬ (k : Int) < nd.length := by omega
              obtain rfl : k = nd.length := by omega
              clear hlt hk
              go_upto_if 189 with fail
              go_cut [] from 187 to 196 (fun wc => Hid (OwnI wc B 3 (.slice (some ⟨B, 0, none⟩) nd.length nd.length) (cntL nd.length (chTo nd nd.length ++ whR wh))) ∧ Hid (CI w wc [.slice ia its.length ic, .slice na nd.length nc, .int .i64 wh, .slice ga gr.length gc, .int .i64 li]))
              case first =>
                as_aux_lemma =>
                  by_cases hwn : wh = -1
                  · have hwb : (wh != -1) = false := by simp [hwn]
                    have hU9 : Hid (OwnI wr B 3 (.slice (some ⟨B, 0, none⟩) nd.length nd.length) (cntL nd.length (chTo nd nd.length ++ whR wh))) := by rw [show whR wh = [] by unfold whR; rw [if_pos hwn], List.append_nil]; exact hU
                    replace hwn := hide hwn
                    go_wp2_with fail
                    go_meet
                    case rel => exact ⟨hU9.out, hC.out⟩
                  · have hwb : (wh != -1) = true := by simp [hwn]
                    have hx0 : 0 ≤ wh ∧ wh < nd.length := by rcases hwp.out with h | h; exact absurd h hwn; exact h
                    obtain ⟨m, rfl⟩ : ∃ m : Nat, wh = (m : Int) := ⟨wh.toNat, by omega⟩
                    have hwr : Hid (whR (m : Int) = [m]) := by show _ = _; unfold whR; rw [if_neg hwn, Int.toNat_natCast]
                    have hmn : m < nd.length := by omega
                    have hmn' : (m : Int) < nd.length := by omega
                    have hPl : Hid ((chTo nd nd.length).length ≤ 131072) := by have := chTo_len nd nd.length; show _ ≤ _; omega
                    clear hx0
                    replace hwn := hide hwn
                    have hln : Hid (nd.length = (cntL nd.length (chTo nd nd.length)).length) := (cntL_len _ _).symm
                    have fz := hU.out.frozenAt hln.out m
                    have cm := hU.out.cellAt m (by rw [← hln.out]; exact hmn)
                    rw [cntL_at _ _ _ hmn] at cm
                    obtain ⟨ct, hct⟩ : ∃ c : Nat, Hid ((chTo nd nd.length).count m = c) := ⟨_, rfl⟩
                    have hctb : ct ≤ 200000 := by have h1 := hct.out; have h2 := hPl.out; have h3 := List.count_le_length (a := m) (l := (chTo nd nd.length)); omega
                    rw [hct.out] at cm
                    have hset : Hid ((cntL nd.length (chTo nd nd.length)).set m ((ct : Int) + 1) = cntL nd.length ((chTo nd nd.length) ++ [m])) := by have := cntL_snoc nd.length (chTo nd nd.length) m hmn; rw [hct.out] at this; exact this
                    have hO9 : Hid (OwnI (wr.setCell ⟨B, m, none⟩ (.int .i64 ((ct : Int) + 1))) B 3 (.slice (some ⟨B, 0, none⟩) nd.length nd.length) (cntL nd.length (chTo nd nd.length ++ whR (m : Int)))) := (hU.out.stored hln.out m _).congr (by rw [hwr.out]; exact hset.out)
                    have hC9 := hide (hC.out.set B m (.int .i64 ((ct : Int) + 1)) hB2.out)
                    go_wp2_with fail
                    go_meet
                    case rel => exact ⟨hO9.out, hC9.out⟩
              case rest =>
                clear hU hC q0 q1 q2 q3 q4
                obtain ⟨hU, hC⟩ := hcut
                go_wp2_with fail
                go_loopw [14] (fun i wr => ∃ k : Nat, i = .int .i64 k ∧ k ≤ its.length ∧ Hid (OwnI wr B 3 (.slice (some ⟨B, 0, none⟩) nd.length nd.length) (cntL nd.length (chTo nd nd.length ++ whR wh ++ itsR (its.take k)))) ∧ Hid (CI w wr [.slice ia its.length ic, .slice na nd.length nc, .int .i64 wh, .slice ga gr.length gc, .int .i64 li])) (fun i _ => its.length - (intOf i).toNat)
                case atStart => exact ⟨0, rfl, Nat.zero_le _, by simpa [itsR] using hU, hC⟩
                clear hU hC
                obtain ⟨k, rfl, hk, hU, hC⟩ := hrel
                (try clear q0)
                (try clear q1)
                (try clear q2)
                (try clear q3)
                (try clear q4)
                have q0 := hC.out.q.box 0 _ rfl
                have q1 := hC.out.q.box 1 _ rfl
                have q2 := hC.out.q.box 2 _ rfl
                have q3 := hC.out.q.box 3 _ rfl
                have q4 := hC.out.q.box 4 _ rfl
                by_cases hlt : k < its.length
                · as_aux_lemma =>
                    have hlt' : (k : Int) < its.length := by omega
                    have eS := hide (itsR_succ its k hlt)
                    have hio := hits.out _ (getD_mem_it its k hlt)
                    obtain ⟨b, off, rfl, c1, c2⟩ := (hI.out.ext hC.out.ex) k hlt
                    have hPl : Hid ((chTo nd nd.length ++ whR wh ++ itsR (its.take k)).length ≤ 200000) := by
                      have h1 := chTo_len nd nd.length
                      have h2 := whR_len wh
                      have h3 := itsR_len (its.take k)
                      have h4 : (its.take k).length ≤ 65536 := by simp; omega
                      show _ ≤ _
                      simp only [List.length_append]
                      omega
                    obtain ⟨⟨g, y⟩, hit⟩ : ∃ m, Hid (its.getD k (0, 0) = m) := ⟨_, rfl⟩
                    rw [hit.out] at c1 c2 eS hio
                    simp only at c1 c2
                    by_cases hyn : y = -1
                    · have hyb : (y != -1) = false := by simp [hyn]
                      have hO9 : Hid (OwnI wr B 3 (.slice (some ⟨B, 0, none⟩) nd.length nd.length) (cntL nd.length (chTo nd nd.length ++ whR wh ++ itsR (its.take (k + 1))))) := hU.out.congr (by rw [eS.out, show itR (g, y) = [] by unfold itR; rw [if_pos hyn], List.append_nil])
                      replace hyn := hide hyn
                      clear hio
                      go_wp2_with fail
                      go_roundw
                      case rel => exact ⟨k + 1, by go_num, by omega, hO9.out, hC.out⟩
                      case measure => simp [intOf]; omega
                    · have hyb : (y != -1) = true := by simp [hyn]
                      have hyr : 0 ≤ y ∧ y < nd.length := by
                        rcases hio.2.2 with ⟨_, h1⟩ | ⟨_, h1⟩
                        · exact absurd h1 hyn
                        · exact h1
                      obtain ⟨m, rfl⟩ : ∃ m : Nat, y = (m : Int) := ⟨y.toNat, by omega⟩
                      have hir : Hid (itR (g, (m : Int)) = [m]) := by show _ = _; unfold itR; rw [if_neg hyn, Int.toNat_natCast]
                      have hmn : m < nd.length := by omega
                      have hmn' : (m : Int) < nd.length := by omega
                      clear hyr hio
                      replace hyn := hide hyn
                      obtain ⟨P, hP⟩ : ∃ P, Hid (chTo nd nd.length ++ whR wh ++ itsR (its.take k) = P) := ⟨_, rfl⟩
                      rw [hP.out] at hU hPl
                      have hln : Hid (nd.length = (cntL nd.length (P)).length) := (cntL_len _ _).symm
                      have fz := hU.out.frozenAt hln.out m
                      have cm := hU.out.cellAt m (by rw [← hln.out]; exact hmn)
                      rw [cntL_at _ _ _ hmn] at cm
                      obtain ⟨ct, hct⟩ : ∃ c : Nat, Hid ((P).count m = c) := ⟨_, rfl⟩
                      have hctb : ct ≤ 200000 := by have h1 := hct.out; have h2 := hPl.out; have h3 := List.count_le_length (a := m) (l := (P)); omega
                      rw [hct.out] at cm
                      have hset : Hid ((cntL nd.length (P)).set m ((ct : Int) + 1) = cntL nd.length ((P) ++ [m])) := by have := cntL_snoc nd.length (P) m hmn; rw [hct.out] at this; exact this
                      have hnP : Hid (cntL nd.length (P ++ [m]) = cntL nd.length (chTo nd nd.length ++ whR wh ++ itsR (its.take (k + 1)))) := by show _ = _; rw [eS.out, hir.out, ← hP.out]; simp
                      have hO9 : Hid (OwnI (wr.setCell ⟨B, m, none⟩ (.int .i64 ((ct : Int) + 1))) B 3 (.slice (some ⟨B, 0, none⟩) nd.length nd.length) (cntL nd.length (chTo nd nd.length ++ whR wh ++ itsR (its.take (k + 1))))) := (hU.out.stored hln.out m _).congr (hset.out.trans hnP.out)
                      have hC9 := hide (hC.out.set B m (.int .i64 ((ct : Int) + 1)) hB2.out)
                      go_wp2_with fail
                      go_roundw
                      case rel => exact ⟨k + 1, by go_num, by omega, hO9.out, hC9.out⟩
                      case measure => simp [intOf]; omega
                · have hlt' : ¬ (k : Int) < its.length := by omega
                  obtain rfl : k = its.length := by omega
                  rw [List.take_length] at hU
                  clear hlt hk
                  obtain ⟨P, hP⟩ : ∃ P, Hid (chTo nd nd.length ++ whR wh ++ itsR its = P) := ⟨_, rfl⟩
                  rw [hP.out] at hU
                  have hPn : Hid (∀ i ∈ P, i < nd.length) := fun i hi => by
                    rw [← hP.out, List.append_assoc] at hi
                    rcases List.mem_append.1 hi with hi | hi
                    · exact ch_lt hwf.out _ (Nat.le_refl _) i hi
                    · rcases List.mem_append.1 hi with hi | hi
                      · unfold whR at hi
                        split at hi
                        · cases hi
                        · rename_i hm
                          rw [List.mem_singleton] at hi
                          rcases hwp.out with h2 | ⟨h2, h3⟩
                          · exact absurd h2 hm
                          · omega
                      · exact its_lt (q := ⟨its, nd, wh, gr, li⟩) hits.out its (fun _ h => h) i hi
                  go_wp2_with fail
                  go_loopw [15] (fun i wr => ∃ k : Nat, i = .int .i64 k ∧ k ≤ nd.length ∧ Hid (∀ j : Nat, j < k → (P.count j : Int) ≤ 1) ∧ Hid (OwnI wr B 3 (.slice (some ⟨B, 0, none⟩) nd.length nd.length) (cntL nd.length P)) ∧ Hid (CI w wr [.slice ia its.length ic, .slice na nd.length nc, .int .i64 wh, .slice ga gr.length gc, .int .i64 li])) (fun i _ => nd.length - (intOf i).toNat)
                  case atStart => exact ⟨0, rfl, Nat.zero_le _, fun j hj => by omega, hU, hC⟩
                  clear hU hC q0 q1 q2 q3 q4
                  obtain ⟨k, rfl, hk, hpre, hU, hC⟩ := hrel
                  by_cases hlt : k < nd.length
                  · as_aux_lemma =>
                      have hlt' : (k : Int) < nd.length := by omega
                      have cm := hU.out.cellAt k (by rw [cntL_len]; exact hlt)
                      rw [cntL_at _ _ _ hlt] at cm
                      have hfail : Hid (¬ (P.count k : Int) ≤ 1 → ¬ CmOK ⟨its, nd, wh, gr, li⟩ n) := fun h hc => h (by
                        have h1 := hc.nod
                        simp only at h1
                        rw [← List.append_assoc, hP.out] at h1
                        exact (nodup_count hPn.out).1 h1 k hlt)
                      have hnx : Hid ((P.count k : Int) ≤ 1 → ∀ j : Nat, j < k + 1 → (P.count j : Int) ≤ 1) := fun h j hj => by
                        by_cases hjk : j < k
                        · exact hpre.out j hjk
                        · obtain rfl : j = k := by omega
                          exact h
                      obtain ⟨ct, hct⟩ : ∃ c : Int, Hid ((P.count k : Int) = c) := ⟨_, rfl⟩
                      rw [hct.out] at cm hfail hnx
                      by_cases h1 : 1 < ct
                      · have hz := hide (hfail.out (by omega))
                        go_wp2_with (refine wpList_storeB (vs := plz) rfl rfl (by rfl) (by rfl) hC.out.p size_plan rfl plz_one ?_; intro w99 hb99 hgr99; replace hgr99 := hide hgr99; replace hb99 := hide hb99)
                        refine bodyPost_ret (results_cell2 rfl (by rfl) hb99.out Yabn.underlying57 size_plan) rfl ?_
                        exact ⟨Ext.setP hC.out hgr99.out, .inl ⟨hz.out, rfl⟩⟩
                      have hnext := hide (hnx.out (by omega))
                      go_wp2_with fail
                      go_roundw
                      case rel => exact ⟨k + 1, by go_num, by omega, hnext.out, hU.out, hC.out⟩
                      case measure => simp [intOf]; omega
                  · have hlt' : ¬ (k : Int) < nd.length := by omega
                    obtain rfl : k = nd.length := by omega
                    have hnod : Hid ((chTo nd nd.length ++ (whR wh ++ itsR its)).Nodup) := by show List.Nodup _; rw [← List.append_assoc, hP.out]; exact (nodup_count hPn.out).2 hpre.out
                    clear hlt hk hU hPn hpre hP
                    (try clear q0)
                    (try clear q1)
                    (try clear q2)
                    (try clear q3)
                    (try clear q4)
                    have q0 := hC.out.q.box 0 _ rfl
                    have q1 := hC.out.q.box 1 _ rfl
                    have q2 := hC.out.q.box 2 _ rfl
                    have q3 := hC.out.q.box 3 _ rfl
                    have q4 := hC.out.q.box 4 _ rfl
                    go_wp2_with fail
                    refine (aggRule nd its gr na ia ga nc ic gc n wr (hN.out.ext hC.out.ex) (hI.out.ext hC.out.ex) (hG.out.ext hC.out.ex) (by omega) hl1 (by omega) hwf hits).mono ?_
                    rintro e w4 ⟨x4, ok, rfl, hok⟩
                    replace hC := hide (hC.out.ext x4)
                    clear x4 q0 q1 q2 q3 q4
                    obtain ⟨ag, hag⟩ : ∃ b, Hid (aggW its gr = b) := ⟨_, rfl⟩
                    rw [hag.out]
                    cases ok with
                    | false =>
                      have hz : Hid (¬ CmOK ⟨its, nd, wh, gr, li⟩ n) := fun h => absurd (hok.2 h.ag) (by decide)
                      clear hok
                      go_wp2_with (refine wpList_storeB (vs := plz) rfl rfl (by rfl) (by rfl) hC.out.p size_plan rfl plz_one ?_; intro w99 hb99 hgr99; replace hgr99 := hide hgr99; replace hb99 := hide hb99)
                      refine bodyPost_ret (results_cell2 rfl (by rfl) hb99.out Yabn.underlying57 size_plan) rfl ?_
                      exact ⟨Ext.setP hC.out hgr99.out, .inl ⟨hz.out, rfl⟩⟩
                    | true =>
                      have hcm : Hid (CmOK ⟨its, nd, wh, gr, li⟩ n) := ⟨by omega, by omega, by simp only; omega, by simp only; omega, hwf.out, hwp.out, hits.out, hnod.out, hgrp.out, hok.1 rfl⟩
                      clear hok hnod hits hwp hgrp hB2 hBs
                      have hBs2 : Hid (w.heap.size + 2 ≤ w4.heap.size) := hC.out.sz
                      go_wp2_with (at_make; refine mk_bool rfl rfl nd.length rfl rfl (by omega) w4.heap.size rfl ?_; intro w5 O5 x5 z5; replace hC := hide (hC.out.ext x5); replace O5 := hide O5; clear x5 z5)
                      obtain ⟨H, hH⟩ : ∃ H, w4.heap.size = H := ⟨_, rfl⟩
                      rw [hH] at O5 hBs2
                      simp only [hH]
                      clear hH
                      go_loopw [19] (fun i wr => ∃ k : Nat, i = .int .i64 k ∧ k ≤ nd.length ∧ Hid (OwnZ wr H (.slice (some ⟨H, 0, none⟩) nd.length nd.length) (fillZ hcN nd false k)) ∧ Hid (CI w wr [.slice ia its.length ic, .slice na nd.length nc, .int .i64 wh, .slice ga gr.length gc, .int .i64 li])) (fun i _ => nd.length - (intOf i).toNat)
                      case atStart => exact ⟨0, rfl, Nat.zero_le _, by rw [fillZ_zero]; exact O5, hC⟩
                      clear hC O5
                      obtain ⟨k, rfl, hk, hZ, hC⟩ := hrel
                      (try clear q0)
                      (try clear q1)
                      (try clear q2)
                      (try clear q3)
                      (try clear q4)
                      have q0 := hC.out.q.box 0 _ rfl
                      have q1 := hC.out.q.box 1 _ rfl
                      have q2 := hC.out.q.box 2 _ rfl
                      have q3 := hC.out.q.box 3 _ rfl
                      have q4 := hC.out.q.box 4 _ rfl
                      by_cases hlt : k < nd.length
                      · as_aux_lemma =>
                          have hlt' : (k : Int) < nd.length := by omega
                          have hwk := hwf.out.kind hlt
                          obtain ⟨b, off, rfl, g1, g2, g3, g4⟩ := (hN.out.ext hC.out.ex).get k hlt
                          have hset := fillZ_set hcN nd false k hlt
                          have hcell : Hid (∀ i : Nat, i < k → wr.cell? ⟨H, i, none⟩ = some (.bool ((toL hcN nd k).getD i false))) := fun i hi => by
                            have := hZ.out.cellAt i (by rw [fillZ_len _ _ _ _ hk]; omega)
                            rw [fillZ_at _ _ _ _ _ _ hi] at this
                            exact this
                          have fz := hZ.out.frozenAt k
                          have cB := hZ.out.cellAt k (by rw [fillZ_len _ _ _ _ hk]; omega)
                          have hst : ∀ ob, OwnZ ((wr.setCell ⟨H, k, none⟩ (.bool (hcN (nd.getD k nd0) (toL hcN nd k)))).alloc ob) H (.slice (some ⟨H, 0, none⟩) nd.length nd.length) (fillZ hcN nd false (k + 1)) := fun ob => ((hZ.out.stored k _).congr hset).alloc ob
                          have hxt : Hid (∀ ob v, CI w ((wr.setCell ⟨H, k, none⟩ v).alloc ob) _) := fun ob v => (hC.out.set H k v hBs2.out).ext ((Ext.refl _).alloc ob)
                          obtain ⟨⟨o, y, l, r⟩, hnd⟩ : ∃ m, nd.getD k nd0 = m := ⟨_, rfl⟩
                          rw [hnd] at g1 g2 g3 g4 hwk hst
                          simp only at g1 g2 g3 g4 hwk
                          have hT : Hid (Blk (wr.alloc (.cells #[.int .i64 o, .int .i64 y, .int .i64 l, .int .i64 r] 98)) wr.heap.size 98 [.int .i64 o, .int .i64 y, .int .i64 l, .int .i64 r]) := Blk.new wr _ _
                          have t0 := hT.out.box 0 _ rfl
                          have t2 := hT.out.box 2 _ rfl
                          have t3 := hT.out.box 3 _ rfl
                          have hHs := hZ.out.lt.2
                          have hqs : w.heap.size < wr.heap.size := by have := hC.out.sz; omega
                          obtain ⟨zB, hzB⟩ : ∃ z, (fillZ hcN nd false k).getD k false = z := ⟨_, rfl⟩
                          rw [hzB] at cB
                          clear hnd hset hzB
                          obtain ⟨vs, hvs⟩ : ∃ vs, toL hcN nd k = vs := ⟨_, rfl⟩
                          rw [hvs] at hst hcell
                          clear hvs
                          rcases hwk with ho | ⟨ho, hy0, hy1⟩ | ⟨m, ho, rfl, hmk⟩ | ⟨m, m2, ho, rfl, rfl, hmk, hmk2⟩
                          · subst ho
                            replace hst := hide hst
                            go_wp2_with (go_at_call 59; refine (spec_isBin _ _).mono ?_; rintro e wx ⟨rfl, rfl⟩)
                            go_roundw
                            case rel => exact ⟨k + 1, by go_num, by omega, hst.out _, hxt.out _ _⟩
                            case measure => simp [intOf]; omega
                          · subst ho
                            replace hst := hide hst
                            go_wp2_with (go_at_call 59; refine (spec_isBin _ _).mono ?_; rintro e wx ⟨rfl, rfl⟩)
                            go_roundw
                            case rel => exact ⟨k + 1, by go_num, by omega, hst.out _, hxt.out _ _⟩
                            case measure => simp [intOf]; omega
                          · have hmn : (m : Int) < nd.length := by omega
                            have hm0 : (0 : Int) ≤ m := by omega
                            have cm := hcell.out m hmk
                            have e9 : hcN ⟨o, y, (m : Int), r⟩ vs = vs.getD m false := by unfold hcN; rw [if_neg (by simp only; omega), if_pos ho, Int.toNat_natCast]
                            rw [e9] at hst
                            obtain ⟨bz, hbz⟩ : ∃ b, vs.getD m false = b := ⟨_, rfl⟩
                            rw [hbz] at cm hst
                            clear hbz e9
                            replace hst := hide hst
                            rcases ho with rfl | rfl
                            · skip
                              go_wp2_with (go_at_call 59; refine (spec_isBin _ _).mono ?_; rintro e wx ⟨rfl, rfl⟩)
                              go_roundw
                              case rel => exact ⟨k + 1, by go_num, by omega, hst.out _, hxt.out _ _⟩
                              case measure => simp [intOf]; omega
                            · skip
                              go_wp2_with (go_at_call 59; refine (spec_isBin _ _).mono ?_; rintro e wx ⟨rfl, rfl⟩)
                              go_roundw
                              case rel => exact ⟨k + 1, by go_num, by omega, hst.out _, hxt.out _ _⟩
                              case measure => simp [intOf]; omega
                          · have hmn : (m : Int) < nd.length := by omega
                            have hm2n : (m2 : Int) < nd.length := by omega
                            have hm0 : (0 : Int) ≤ m := by omega
                            have cm := hcell.out m hmk
                            have cm2 := hcell.out m2 hmk2
                            have o2 : (o == 2) = false := by simp; omega
                            have o3 : (o == 3) = false := by simp; omega
                            have o15 : (o == 15) = false := by simp; omega
                            have e9 : hcN ⟨o, y, (m : Int), (m2 : Int)⟩ vs = (vs.getD m false || vs.getD m2 false) := by unfold hcN; rw [if_neg (by simp only; omega), if_neg (by simp only; omega), if_pos ho, Int.toNat_natCast, Int.toNat_natCast]
                            rw [e9] at hst
                            obtain ⟨b1, hb1⟩ : ∃ b, vs.getD m false = b := ⟨_, rfl⟩
                            obtain ⟨b2, hb2⟩ : ∃ b, vs.getD m2 false = b := ⟨_, rfl⟩
                            rw [hb1] at cm hst
                            rw [hb2] at cm2 hst
                            clear hb1 hb2 e9
                            obtain ⟨ho4, ho14⟩ := ho
                            have ho4' : decide (4 ≤ o) = true := by simp [ho4]
                            have ho14' : decide (o ≤ 14) = true := by simp [ho14]
                            cases b1 with
                            | true =>
                              replace hst := hide hst
                              go_wp2_with (go_at_call 59; refine (spec_isBin _ _).mono ?_; rintro e wx ⟨rfl, rfl⟩)
                              go_roundw
                              case rel => exact ⟨k + 1, by go_num, by omega, hst.out _, hxt.out _ _⟩
                              case measure => simp [intOf]; omega
                            | false =>
                              replace hst := hide hst
                              go_wp2_with (go_at_call 59; refine (spec_isBin _ _).mono ?_; rintro e wx ⟨rfl, rfl⟩)
                              go_roundw
                              case rel => exact ⟨k + 1, by go_num, by omega, hst.out _, hxt.out _ _⟩
                              case measure => simp [intOf]; omega
                      · have hlt' : ¬ (k : Int) < nd.length := by omega
                        obtain rfl : k = nd.length := by omega
                        rw [fillZ_full] at hZ
                        clear hlt hk
                        have hE : Hid (EZ w wr [.slice ia its.length ic, .slice na nd.length nc, .int .i64 wh, .slice ga gr.length gc, .int .i64 li] nd H nd.length) := ⟨hC.out, hZ.out.mono hBs2.out⟩
                        have hEm : Hid (∀ (x : Nat) (y : Int) (v : Value) (c : List Nd) W (p : List Nd × Int), y = (x : Int) → x < nd.length → EZ w W [.slice ia its.length ic, .slice na nd.length nc, .int .i64 wh, .slice ga gr.length gc, .int .i64 li] nd H nd.length → OwnN W (w.heap.size + 2) 98 v c → c.length + tsAt nd x ≤ 65536 → WfA c n → em nd (List.replicate n 0) x c = p → Calls Yabn.prog 60 #[.slice na nd.length nc, .slice (some ⟨H, 0, none⟩) nd.length nd.length, .int .i64 y, v] W (RetEm (w.heap.size + 2) p W)) := fun x y v c W p hy hx hE hO hl hwc hp => by
                          subst hp
                          refine (emitNodeAll (w.heap.size + 2) (w.heap.size + 2) na nc H nd.length nd n hwf (hN.out.low hx (by omega)) (x + 1) x (by omega) hx y v c W hy (hN.out.ext hE.ci.ex) hE.hz hO hE.ci.sz hl hwc).mono ?_
                          rintro e w' ⟨v', rfl, O', F'⟩
                          exact ⟨v', rfl, O', F'.frT hO⟩
                        clear hZ
                        go_upto_if 295 with fail
                        go_cut [22, 23, 24] from 293 to 323 (fun v19 v20 v21 wc => ∃ (c : List Nd) (x : Int), v20 = .int .i64 x ∧ Hid (cW nd (List.replicate n 0) wh = (c, x)) ∧ Hid (OwnN wc (w.heap.size + 2) 98 v19 c) ∧ Hid (EZ w wc [.slice ia its.length ic, .slice na nd.length nc, .int .i64 wh, .slice ga gr.length gc, .int .i64 li] nd H nd.length))
                        case first =>
                          as_aux_lemma =>
                            by_cases hwn : wh = -1
                            · have hwb : (wh != -1) = false := by simp [hwn]
                              have hcw : Hid (cW nd (List.replicate n 0) wh = ([], -1)) := by show _ = _; unfold cW; rw [if_pos hwn]
                              replace hwn := hide hwn
                              go_wp2_with fail
                              go_meet
                              case rel => exact ⟨[], -1, rfl, hcw.out, OwnN.nil _ _ _, hE.out⟩
                            · have hwb : (wh != -1) = true := by simp [hwn]
                              have hx0 : 0 ≤ wh ∧ wh < nd.length := by rcases hcm.out.wh with h | h; exact absurd h hwn; exact h
                              obtain ⟨x, hx⟩ : ∃ x : Nat, Hid (wh = (x : Int)) := ⟨wh.toNat, by show _ = _; omega⟩
                              have hxn : x < nd.length := by have := hx.out; omega
                              obtain ⟨c, ec, kc⟩ := em_law (zr := List.replicate n 0) hwf.out (x + 1) x (by omega) hxn [] (fun i hi => by simp at hi)
                              have hlc : Hid (0 < c.length) := by have := kc.lo; show _ < _; simp at this; omega
                              have hcase : Hid ((c.length = 1 ∧ (c.getD 0 nd0).op = 1 ∧ (c.getD 0 nd0).val ≠ 0 → cW nd (List.replicate n 0) wh = ([], -1)) ∧ (¬ (c.length = 1 ∧ (c.getD 0 nd0).op = 1 ∧ (c.getD 0 nd0).val ≠ 0) → cW nd (List.replicate n 0) wh = (c, (c.length : Int) - 1))) := by
                                refine ⟨fun h => ?_, fun h => ?_⟩
                                · unfold cW
                                  rw [if_neg hwn, hx.out, Int.toNat_natCast, ec, if_pos h]
                                · unfold cW
                                  rw [if_neg hwn, hx.out, Int.toNat_natCast, ec, if_neg h]
                              have hec := hide ec
                              clear hx0 kc ec
                              replace hwn := hide hwn
                              go_wp2_with fail
                              refine (hEm.out x wh (.slice none 0 0) [] wr (c, (c.length : Int) - 1) hx.out hxn hE.out (OwnN.nil _ _ _) (len_wh hcm.out hl2 x hx.out) (fun i hi => by simp at hi) hec.out).mono ?_
                              rintro e w9 ⟨v9, rfl, hO9, hf9⟩
                              obtain ⟨p9, cap9, rfl, hh⟩ := hO9.form
                              rcases hh with ⟨_, _, h0⟩ | ⟨g9, rfl⟩
                              · exact absurd hlc.out (by simp only at h0; omega)
                              simp only at hO9
                              obtain ⟨d0, d1⟩ := hO9.cell0 hlc.out
                              have hE9 := hide (hE.out.fr hf9 (by decide))
                              replace hO9 := hide hO9
                              clear hf9 hE hC q0 q1 q2 q3 q4
                              obtain ⟨⟨o0, v0, l0, r0⟩, hc0⟩ : ∃ m, Hid (c.getD 0 nd0 = m) := ⟨_, rfl⟩
                              rw [hc0.out] at d0 d1 hcase
                              simp only at d0 d1 hcase
                              by_cases h1 : c.length = 1
                              · have h1b : ((c.length : Int) == 1) = true := by simp [h1]
                                by_cases h2 : o0 = 1
                                · have h2b : (o0 == 1) = true := by simp [h2]
                                  by_cases h3 : v0 = 0
                                  · have h3b : (v0 != 0) = false := by simp [h3]
                                    have hcw : Hid (cW nd (List.replicate n 0) wh = (c, (c.length : Int) - 1)) := hcase.out.2 (fun h => h.2.2 h3)
                                    replace h1 := hide h1
                                    replace h2 := hide h2
                                    replace h3 := hide h3
                                    go_wp2_with fail
                                    go_meet
                                    case rel => exact ⟨c, (c.length : Int) - 1, rfl, hcw.out, hO9.out, hE9.out⟩
                                  · have h3b : (v0 != 0) = true := by simp [h3]
                                    have hcw : Hid (cW nd (List.replicate n 0) wh = ([], -1)) := hcase.out.1 ⟨h1, h2, h3⟩
                                    replace h1 := hide h1
                                    replace h2 := hide h2
                                    replace h3 := hide h3
                                    go_wp2_with fail
                                    go_meet
                                    case rel => exact ⟨[], -1, rfl, hcw.out, OwnN.nil _ _ _, hE9.out⟩
                                · have h2b : (o0 == 1) = false := by simp [h2]
                                  have hcw : Hid (cW nd (List.replicate n 0) wh = (c, (c.length : Int) - 1)) := hcase.out.2 (fun h => h2 h.2.1)
                                  replace h1 := hide h1
                                  replace h2 := hide h2
                                  go_wp2_with fail
                                  go_meet
                                  case rel => exact ⟨c, (c.length : Int) - 1, rfl, hcw.out, hO9.out, hE9.out⟩
                              · have h1b : ((c.length : Int) == 1) = false := by simp; omega
                                have hcw : Hid (cW nd (List.replicate n 0) wh = (c, (c.length : Int) - 1)) := hcase.out.2 (fun h => h1 h.1)
                                replace h1 := hide h1
                                go_wp2_with fail
                                go_meet
                                case rel => exact ⟨c, (c.length : Int) - 1, rfl, hcw.out, hO9.out, hE9.out⟩
                        case rest =>
                          clear hE hC q0 q1 q2 q3 q4
                          obtain ⟨c, xw, rfl, hcw, hO, hE⟩ := hcut
                          have hcw1 : Hid ((cW nd (List.replicate n 0) wh).1 = c) := by show _ = _; rw [hcw.out]
                          go_wp2_with fail
                          go_loopw [22, 25, 26] (fun v u i wr => ∃ k : Nat, i = .int .i64 k ∧ k ≤ its.length ∧ Hid (OwnN wr (w.heap.size + 2) 98 v (cK nd (List.replicate n 0) its c k).1) ∧ Hid (OwnP wr (w.heap.size + 2) 89 u (cK nd (List.replicate n 0) its c k).2) ∧ Hid (EZ w wr [.slice ia its.length ic, .slice na nd.length nc, .int .i64 wh, .slice ga gr.length gc, .int .i64 li] nd H nd.length)) (fun _ _ i _ => its.length - (intOf i).toNat)
                          case atStart => exact ⟨0, rfl, Nat.zero_le _, hO, OwnP.nil _ _ _, hE⟩
                          clear hO hE
                          obtain ⟨k, rfl, hk, hO, hIo, hE⟩ := hrel
                          have hC := hide hE.out.ci
                          (try clear q0)
                          (try clear q1)
                          (try clear q2)
                          (try clear q3)
                          (try clear q4)
                          have q0 := hC.out.q.box 0 _ rfl
                          have q1 := hC.out.q.box 1 _ rfl
                          have q2 := hC.out.q.box 2 _ rfl
                          have q3 := hC.out.q.box 3 _ rfl
                          have q4 := hC.out.q.box 4 _ rfl
                          have hil : Hid ((cK nd (List.replicate n 0) its c k).2.length = k) := by have := len_its (zr := List.replicate n 0) hcm.out k hk; simp only at this; rw [hcw1.out] at this; exact this
                          by_cases hlt : k < its.length
                          · as_aux_lemma =>
                              have hlt' : (k : Int) < its.length := by omega
                              obtain ⟨b, off, rfl, c1, c2⟩ := (hI.out.ext hC.out.ex) k hlt
                              have hio := hide (hcm.out.its _ (getD_mem_it its k hlt))
                              have hlen : Hid (∀ x : Nat, (its.getD k (0, 0)).2 = (x : Int) → (cK nd (List.replicate n 0) its c k).1.length + tsAt nd x ≤ 65536) := fun x hx => by have := len_it (zr := List.replicate n 0) hcm.out hl2 k x hlt hx; simp only at this; rw [hcw1.out] at this; exact this
                              have hwc : Hid (WfA (cK nd (List.replicate n 0) its c k).1 n) := by have := cK_wf (zr := List.replicate n 0) hcm.out k (by simp only; omega); simp only at this; rw [hcw1.out] at this; exact this
                              have hln : Hid ((cK nd (List.replicate n 0) its c k).2.length < 2 ^ 39) := by have := hil.out; show _ < _; omega
                              obtain ⟨⟨g, y⟩, hit⟩ : ∃ m, Hid (its.getD k (0, 0) = m) := ⟨_, rfl⟩
                              rw [hit.out] at c1 c2 hio hlen
                              simp only at c1 c2 hlen
                              have hT : Hid (Blk (wr.alloc (.cells #[.int .i64 g, .int .i64 y] 89)) wr.heap.size 89 [.int .i64 g, .int .i64 y]) := Blk.new wr _ _
                              have t0 := hT.out.box 0 _ rfl
                              have t1 := hT.out.box 1 _ rfl
                              have hO1 := hide (hO.out.alloc (.cells #[.int .i64 g, .int .i64 y] 89))
                              have hI1 := hide (OwnP.alloc hIo.out (.cells #[.int .i64 g, .int .i64 y] 89))
                              have hE1 := hide (hE.out.ext ((Ext.refl wr).alloc (.cells #[.int .i64 g, .int .i64 y] 89)))
                              clear hO hIo hE hC q2 q3 q4
                              by_cases hyn : y = -1
                              · have hyb : (y != -1) = false := by simp [hyn]
                                have hck : Hid (cK nd (List.replicate n 0) its c (k + 1) = ((cK nd (List.replicate n 0) its c k).1, (cK nd (List.replicate n 0) its c k).2 ++ [(g, -1)])) := cK_no hit.out hyn
                                replace hyn := hide hyn
                                have hX3 : Hid (Ext (wr.alloc (.cells #[.int .i64 g, .int .i64 y] 89)) ((wr.alloc (.cells #[.int .i64 g, .int .i64 y] 89)).alloc (.cells #[.int .i64 g, .int .i64 (-1)] 89))) := (Ext.refl _).alloc _
                                have hI3 := hide (OwnP.ext hI1.out hX3.out)
                                have hsz3 : Hid (w.heap.size + 2 ≤ ((wr.alloc (.cells #[.int .i64 g, .int .i64 y] 89)).alloc (.cells #[.int .i64 g, .int .i64 (-1)] 89)).heap.size) := Nat.le_trans hE1.out.ci.sz hX3.out.size
                                have hblk : Hid (((wr.alloc (.cells #[.int .i64 g, .int .i64 y] 89)).alloc (.cells #[.int .i64 g, .int .i64 (-1)] 89)).heap[wr.heap.size + 1]? = some (.cells #[.int .i64 g, .int .i64 (-1)] 89 (0, 0))) := by
                                  have := heap_alloc_new (wr.alloc (.cells #[.int .i64 g, .int .i64 y] 89)) (.cells #[.int .i64 g, .int .i64 (-1)] 89)
                                  rw [show (wr.alloc (.cells #[.int .i64 g, .int .i64 y] 89)).heap.size = wr.heap.size + 1 by simp] at this
                                  exact this
                                have hO3 := hide (OwnN.ext hO1.out hX3.out)
                                have hE3 := hide (hE1.out.ext hX3.out)
                                go_wp2_with (at_builtin; refine app_item rfl rfl (w.heap.size + 2) hsz3.out _ (cK nd (List.replicate n 0) its c k).2 g (-1) rfl hI3.out (wr.heap.size + 1) 1 (by rfl) hblk.out hln.out ?_; intro g7 cap7 w7 O7 hgr7 hor7 hlt7; have hf7 : FrT 89 (w.heap.size + 2) ((wr.alloc (.cells #[.int .i64 g, .int .i64 y] 89)).alloc (.cells #[.int .i64 g, .int .i64 (-1)] 89)) w7 := FrT.grown hI3.out hgr7; have hO7 := hide (hO3.out.fr hf7 (by decide)); have hE7 := hide (hE3.out.fr hf7 (by decide)); have hI7 := hide O7; clear O7 hgr7 hor7 hlt7 hf7)
                                go_roundw
                                case rel => exact ⟨k + 1, by go_num, by omega, by rw [hck.out]; exact hO7.out, by rw [hck.out]; exact hI7.out, hE7.out⟩
                                case measure => simp [intOf]; omega
                              · have hyb : (y != -1) = true := by simp [hyn]
                                have hyr : 0 ≤ y ∧ y < nd.length := by
                                  rcases hio.out.2.2 with ⟨_, h1⟩ | ⟨_, h1⟩
                                  · exact absurd h1 hyn
                                  · exact h1
                                obtain ⟨x, hx⟩ : ∃ x : Nat, Hid (y = (x : Int)) := ⟨y.toNat, by show _ = _; omega⟩
                                have hxn : x < nd.length := by have := hx.out; omega
                                obtain ⟨⟨c9, l9⟩, ec⟩ : ∃ p, Hid (em nd (List.replicate n 0) x (cK nd (List.replicate n 0) its c k).1 = p) := ⟨_, rfl⟩
                                have hck : Hid (cK nd (List.replicate n 0) its c (k + 1) = (c9, (cK nd (List.replicate n 0) its c k).2 ++ [(g, l9)])) := by have := cK_yes (nd := nd) (zr := List.replicate n 0) (c0 := c) hit.out hx.out; rw [ec.out] at this; exact this
                                clear hyr
                                replace hyn := hide hyn
                                have q1' := hE1.out.ci.q.box 1 _ rfl
                                go_wp2_with fail
                                refine (hEm.out x y _ (cK nd (List.replicate n 0) its c k).1 (wr.alloc (.cells #[.int .i64 g, .int .i64 y] 89)) (c9, l9) hx.out hxn hE1.out hO1.out (hlen.out x hx.out) hwc.out ec.out).mono ?_
                                rintro e w9 ⟨v9, rfl, hO9, hf9⟩
                                dsimp only at hO9 ⊢
                                have hT9 := hide (FrT.blk hf9 hT.out (by decide))
                                have hE9 := hide (hE1.out.fr hf9 (by decide))
                                have hI9 := hide (hf9.row hI1.out (by decide))
                                replace hO9 := hide hO9
                                clear hf9 hE1 hO1 hI1 hT t0 t1 q1' q0 q1
                                have t0 := hT9.out.box 0 _ rfl
                                have hX3 : Hid (Ext w9 (w9.alloc (.cells #[.int .i64 g, .int .i64 l9] 89))) := (Ext.refl _).alloc _
                                have hI3 := hide (OwnP.ext hI9.out hX3.out)
                                have hsz3 : Hid (w.heap.size + 2 ≤ (w9.alloc (.cells #[.int .i64 g, .int .i64 l9] 89)).heap.size) := Nat.le_trans hE9.out.ci.sz hX3.out.size
                                have hblk : Hid ((w9.alloc (.cells #[.int .i64 g, .int .i64 l9] 89)).heap[w9.heap.size]? = some (.cells #[.int .i64 g, .int .i64 l9] 89 (0, 0))) := by
                                  have := heap_alloc_new w9 (.cells #[.int .i64 g, .int .i64 l9] 89)
                                  rw [show w9.heap.size = w9.heap.size by rfl] at this
                                  exact this
                                have hO3 := hide (OwnN.ext hO9.out hX3.out)
                                have hE3 := hide (hE9.out.ext hX3.out)
                                go_wp2_with (at_builtin; refine app_item rfl rfl (w.heap.size + 2) hsz3.out _ (cK nd (List.replicate n 0) its c k).2 g l9 rfl hI3.out (w9.heap.size) 1 (by rfl) hblk.out hln.out ?_; intro g7 cap7 w7 O7 hgr7 hor7 hlt7; have hf7 : FrT 89 (w.heap.size + 2) (w9.alloc (.cells #[.int .i64 g, .int .i64 l9] 89)) w7 := FrT.grown hI3.out hgr7; have hO7 := hide (hO3.out.fr hf7 (by decide)); have hE7 := hide (hE3.out.fr hf7 (by decide)); have hI7 := hide O7; clear O7 hgr7 hor7 hlt7 hf7)
                                go_roundw
                                case rel => exact ⟨k + 1, by go_num, by omega, by rw [hck.out]; exact hO7.out, by rw [hck.out]; exact hI7.out, hE7.out⟩
                                case measure => simp [intOf]; omega
                          · have hlt' : ¬ (k : Int) < its.length := by omega
                            obtain rfl : k = its.length := by omega
                            clear hlt hk hEm
                            obtain ⟨ca, cc, rfl, _⟩ := hO.out.form
                            obtain ⟨ci, cic, rfl, _⟩ := OwnP.form hIo.out
                            have hplan : Hid (plan ⟨its, nd, wh, gr, li⟩ n = ⟨n, (cK nd (List.replicate n 0) its c its.length).1, xw, (cK nd (List.replicate n 0) its c its.length).2, gr, li, ag⟩) := by show _ = _; unfold plan; simp only; rw [hcw.out, hag.out]
                            go_wp2_with fail
                            go_loopw [29, 30] (fun v i wr => ∃ k : Nat, i = .int .i64 k ∧ k ≤ gr.length ∧ Hid (OwnI wr (w.heap.size + 2) 3 v (gr.take k)) ∧ Hid (OwnN wr (w.heap.size + 2) 98 (.slice ca (cK nd (List.replicate n 0) its c its.length).1.length cc) (cK nd (List.replicate n 0) its c its.length).1) ∧ Hid (OwnP wr (w.heap.size + 2) 89 (.slice ci (cK nd (List.replicate n 0) its c its.length).2.length cic) (cK nd (List.replicate n 0) its c its.length).2) ∧ Hid (CI w wr [.slice ia its.length ic, .slice na nd.length nc, .int .i64 wh, .slice ga gr.length gc, .int .i64 li])) (fun _ i _ => gr.length - (intOf i).toNat)
                            case atStart => exact ⟨0, rfl, Nat.zero_le _, OwnI.nil _ _ _, hO, hIo, hC⟩
                            clear hO hIo hE hC q0 q1 q2 q3 q4
                            obtain ⟨k, rfl, hk, hGo, hO, hIo, hC⟩ := hrel
                            have q3 := hC.out.q.box 3 _ rfl
                            have q4 := hC.out.q.box 4 _ rfl
                            by_cases hlt : k < gr.length
                            · as_aux_lemma =>
                                have hlt' : (k : Int) < gr.length := by omega
                                obtain ⟨b, off, rfl, c3⟩ := (hG.out.ext hC.out.ex) k hlt
                                have htk := hide (take_succ_I gr k hlt)
                                have hln : Hid ((gr.take k).length < 2 ^ 39) := by show _ < _; simp; omega
                                obtain ⟨g, hgk⟩ : ∃ m, Hid (gr.getD k 0 = m) := ⟨_, rfl⟩
                                rw [hgk.out] at c3 htk
                                obtain ⟨P, hP⟩ : ∃ P, Hid (gr.take k = P) := ⟨_, rfl⟩
                                rw [hP.out] at hGo htk hln
                                have hX3 : Hid (Ext wr (wr.alloc (.cells #[.int .i64 g] 3))) := (Ext.refl _).alloc _
                                have hG3 := hide (OwnI.ext hGo.out hX3.out)
                                have hsz3 : Hid (w.heap.size + 2 ≤ (wr.alloc (.cells #[.int .i64 g] 3)).heap.size) := Nat.le_trans hC.out.sz hX3.out.size
                                have hblk := hide (heap_alloc_new wr (.cells #[.int .i64 g] 3))
                                have hO3 := hide (OwnN.ext hO.out hX3.out)
                                have hI3 := hide (OwnP.ext hIo.out hX3.out)
                                have hC3 := hide (hC.out.ext hX3.out)
                                go_wp2_with (at_builtin; refine app_int rfl rfl (w.heap.size + 2) hsz3.out _ P g rfl hG3.out wr.heap.size 1 (by rfl) hblk.out hln.out ?_; intro g7 cap7 w7 O7 hgr7 hor7 hlt7; have hf7 : FrT 3 (w.heap.size + 2) (wr.alloc (.cells #[.int .i64 g] 3)) w7 := FrT.grown hG3.out hgr7; have hO7 := hide (hO3.out.fr hf7 (by decide)); have hI7 := hide (hf7.row hI3.out (by decide)); have hC7 := hide (hC3.out.fr hf7); have hG7 := hide O7; clear O7 hgr7 hor7 hlt7 hf7)
                                go_roundw
                                case rel => exact ⟨k + 1, by go_num, by omega, by rw [htk.out]; exact hG7.out, hO7.out, hI7.out, hC7.out⟩
                                case measure => simp [intOf]; omega
                            · have hlt' : ¬ (k : Int) < gr.length := by omega
                              obtain rfl : k = gr.length := by omega
                              rw [List.take_length] at hGo
                              obtain ⟨pg, pgc, rfl, _⟩ := hGo.out.form
                              clear hlt hk
                              go_wp2_with (refine wpList_storeB (vs := [.int .i64 n, .slice ca (cK nd (List.replicate n 0) its c its.length).1.length cc, .int .i64 xw, .slice ci (cK nd (List.replicate n 0) its c its.length).2.length cic, .slice pg gr.length pgc, .int .i64 li, .bool ag]) rfl rfl (by rfl) (by rfl) hC.out.p size_plan rfl (by simp [Value.oneCell']) ?_; intro w99 hb99 hgr99; replace hgr99 := hide hgr99; replace hb99 := hide hb99)
                              refine bodyPost_ret (results_cell2 rfl (by rfl) hb99.out Yabn.underlying57 size_plan) rfl ?_
                              exact ⟨Ext.setP hC.out hgr99.out, .inr ⟨hcm.out, ca, ci, pg, cc, cic, pgc, by rw [hplan.out]; rfl, by rw [hplan.out]; exact ⟨OwnN.mono ⟨hO.out.1, ownsRow_kept hO.out.2 hgr99.out (by omega)⟩ (by omega), OwnP.mono (OwnP.kept hIo.out hgr99.out (by omega)) (by omega), OwnI.mono (OwnI.kept hGo.out hgr99.out (by omega)) (by omega)⟩⟩⟩
end Go.Proofs.YbyabwGreat
