/- Walks: RefValidPlan on a plan in order, baseOK, planTableOK -/
import Derived.Test.YbyaawEx2
namespace Go.Proofs.Ybyaaw
open Go.RowKit
set_option maxRecDepth 100000
set_option linter.unusedVariables false
set_option linter.unusedSimpArgs false

set_option maxHeartbeats 8000000 in
theorem RefValidPlan_ok (p : Pl) (ca ia ga : Option Addr) (cc ic gc : Nat) (w : World) (hp : Hid (PAt w p ca ia ga)) (hok : Hid (PlOK p)) :
    Calls Yaan.prog 156 #[.agg (plCells p ca ia ga cc ic gc).toArray] w (RetTrue w) := by
  obtain ⟨nc, code, wh, its, gr, li, ag⟩ := p
  obtain ⟨n, rfl⟩ := Int.eq_ofNat_of_zero_le hok.out.n0
  have hn : n ≤ 256 := by have := hok.out.n1; simp only at this; omega
  have hn' : ¬ (256 : Int) < n := by omega
  have hl1 := hp.out.lc
  have hl2 := hp.out.li
  have hl3 := hp.out.lg
  simp only at hl1 hl2 hl3
  have hi1 : ¬ (its.length : Int) < 1 := by have := hok.out.ni; simp only at this; omega
  have hl9 : ¬ li < -1 := by have := hok.out.li; simp only at this; omega
  have hits : Hid (ItsOK code.length its) := hok.out.its
  have hgrp : Hid (GrP n gr) := hok.out.gr
  have hwf : Hid (WfA code n) := hok.out.wf
  have hagg : Hid (ag = aggW its gr) := hok.out.ag
  have hnone : Hid (ag = true → NoneP code its gr) := hok.out.none
  have hB : Hid (Blk (w.alloc (.cells #[.int .i64 n, .slice ca code.length cc, .int .i64 wh, .slice ia its.length ic, .slice ga gr.length gc, .int .i64 li, .bool ag] 81)) w.heap.size 81 [.int .i64 (n : Int), .slice ca code.length cc, .int .i64 wh, .slice ia its.length ic, .slice ga gr.length gc, .int .i64 li, .bool ag]) := Blk.new w _ _
  have hX : Hid (Ext w (w.alloc (.cells #[.int .i64 n, .slice ca code.length cc, .int .i64 wh, .slice ia its.length ic, .slice ga gr.length gc, .int .i64 li, .bool ag] 81))) := (Ext.refl w).alloc _
  (try clear q0)
  (try clear q1)
  (try clear q2)
  (try clear q3)
  (try clear q4)
  (try clear q5)
  (try clear q6)
  have q0 := hB.out.box 0 _ rfl
  have q1 := hB.out.box 1 _ rfl
  have q2 := hB.out.box 2 _ rfl
  have q3 := hB.out.box 3 _ rfl
  have q4 := hB.out.box 4 _ rfl
  have q5 := hB.out.box 5 _ rfl
  have q6 := hB.out.box 6 _ rfl
  simp only [plCells]
  go_enter Yaan.func156, Yaan.ntmps156
  go_wp2_with fail
  generalize w.alloc (.cells #[.int .i64 n, .slice ca code.length cc, .int .i64 wh, .slice ia its.length ic, .slice ga gr.length gc, .int .i64 li, .bool ag] 81) = X at *
  go_loopw [4] (fun i wr => ∃ k : Nat, i = .int .i64 k ∧ k ≤ code.length ∧ Hid (Blk wr w.heap.size 81 [.int .i64 (n : Int), .slice ca code.length cc, .int .i64 wh, .slice ia its.length ic, .slice ga gr.length gc, .int .i64 li, .bool ag]) ∧ Hid (Ext w wr)) (fun i _ => code.length - (intOf i).toNat)
  case atStart => exact ⟨0, rfl, Nat.zero_le _, hB, hX⟩
  clear hB hX q0 q1 q2 q3 q4 q5 q6
  obtain ⟨k, rfl, hk, hB, hX⟩ := hrel
  (try clear q0)
  (try clear q1)
  (try clear q2)
  (try clear q3)
  (try clear q4)
  (try clear q5)
  (try clear q6)
  have q0 := hB.out.box 0 _ rfl
  have q1 := hB.out.box 1 _ rfl
  have q2 := hB.out.box 2 _ rfl
  have q3 := hB.out.box 3 _ rfl
  have q4 := hB.out.box 4 _ rfl
  have q5 := hB.out.box 5 _ rfl
  have q6 := hB.out.box 6 _ rfl
  by_cases hlt : k < code.length
  · have hlt' : (k : Int) < code.length := by omega
    have hwk := hide (hok.out.wf k hlt)
    obtain ⟨b, off, hca, g1, g2, g3, g4⟩ := (hp.out.code.ext hX.out).get k hlt
    subst hca
    obtain ⟨⟨o, y, l, r⟩, hnd⟩ : ∃ m, Hid (code.getD k nd0 = m) := ⟨_, rfl⟩
    rw [hnd.out] at g1 g2 g3 g4
    simp only at g1 g2 g3 g4
    have hwk2 : Hid (wfP ⟨o, y, l, r⟩ k n) := by have := hwk.out; rw [hnd.out] at this; exact this
    go_wp2_with fail
    refine Dr.region_text (by kernel_rfl) ?_
    go_wp2_with fail
    refine (spec.WellFormed o y l r k n wr.drew).mono ?_
    rintro e w1 ⟨bz, rfl, hbz, x1⟩
    obtain rfl : bz = true := hbz.2 hwk2.out
    replace hB := hide (Blk.ext hB.out.drew x1)
    replace hX : Hid (Ext w w1) := hX.out.drew.trans x1
    clear x1 hbz q0 q1 q2 q3 q4 q5 q6 g1 g2 g3 g4
    go_wp2_with fail
    refine ⟨by rfl, ?_⟩
    go_wp2_with fail
    go_roundw
    case rel => exact ⟨k + 1, by go_num, by omega, hB.out, hX.out⟩
    case measure => simp [intOf] <;> omega
  · have hlt' : ¬ (k : Int) < code.length := by omega
    obtain rfl : k = code.length := by omega
    clear hlt hk
    rcases hok.out.wh with hw | ⟨hw0, hw1⟩
    · have hwb : (wh != -1) = false := by simp at hw; simp [hw]
      replace hw := hide hw
      go_wp2_with fail
      go_loopw [5] (fun i wr => ∃ k : Nat, i = .int .i64 k ∧ k ≤ its.length ∧ Hid (Blk wr w.heap.size 81 [.int .i64 (n : Int), .slice ca code.length cc, .int .i64 wh, .slice ia its.length ic, .slice ga gr.length gc, .int .i64 li, .bool ag]) ∧ Hid (Ext w wr)) (fun i _ => its.length - (intOf i).toNat)
      case atStart => exact ⟨0, rfl, Nat.zero_le _, hB, hX⟩
      clear hB hX q0 q1 q2 q3 q4 q5 q6
      obtain ⟨k, rfl, hk, hB, hX⟩ := hrel
      (try clear q0)
      (try clear q1)
      (try clear q2)
      (try clear q3)
      (try clear q4)
      (try clear q5)
      (try clear q6)
      have q0 := hB.out.box 0 _ rfl
      have q1 := hB.out.box 1 _ rfl
      have q2 := hB.out.box 2 _ rfl
      have q3 := hB.out.box 3 _ rfl
      have q4 := hB.out.box 4 _ rfl
      have q5 := hB.out.box 5 _ rfl
      have q6 := hB.out.box 6 _ rfl
      by_cases hlt : k < its.length
      · have hlt' : (k : Int) < its.length := by omega
        have hio := hits.out _ (getD_mem_it its k hlt)
        obtain ⟨b, off, hia, c1, c2⟩ := (hp.out.its.ext hX.out) k hlt
        subst hia
        obtain ⟨⟨g, y⟩, hit⟩ : ∃ m, Hid (its.getD k (0, 0) = m) := ⟨_, rfl⟩
        simp only at c1 c2
        rw [hit.out] at c1 c2 hio
        simp only at c1 c2
        have hT : Hid (Blk (wr.alloc (.cells #[.int .i64 g, .int .i64 y] 45)) wr.heap.size 45 [.int .i64 g, .int .i64 y]) := Blk.new wr _ _
        have t0 := hT.out.box 0 _ rfl
        have t1 := hT.out.box 1 _ rfl
        have hB1 := hide (hB.out.alloc (.cells #[.int .i64 g, .int .i64 y] 45))
        have hX1 : Hid (Ext w (wr.alloc (.cells #[.int .i64 g, .int .i64 y] 45))) := hX.out.alloc _
        obtain ⟨hg0, hg5, hio⟩ := hio
        simp only at hg0 hg5 hio
        have hg0' : ¬ g < 0 := by omega
        have hg5' : ¬ 5 < g := by omega
        rcases hio with ⟨h1, h2⟩ | ⟨h1, h2, h3⟩
        · have hgb : (g == 5) = true := by simp [h1]
          have hyb : (y != -1) = false := by simp [h2]
          replace h1 := hide h1
          replace h2 := hide h2
          go_wp2_with fail
          go_roundw
          case rel => exact ⟨k + 1, by go_num, by omega, hB1.out, hX1.out⟩
          case measure => simp [intOf] <;> omega
        · have hgb : (g == 5) = false := by simp [h1]
          have hy0 : ¬ y < 0 := by omega
          have hy1 : ¬ (code.length : Int) ≤ y := by omega
          replace h1 := hide h1
          go_wp2_with fail
          go_roundw
          case rel => exact ⟨k + 1, by go_num, by omega, hB1.out, hX1.out⟩
          case measure => simp [intOf] <;> omega
      · have hlt' : ¬ (k : Int) < its.length := by omega
        obtain rfl : k = its.length := by omega
        clear hlt hk
        go_wp2_with fail
        go_loopw [7] (fun i wr => ∃ k : Nat, i = .int .i64 k ∧ k ≤ gr.length ∧ Hid (Blk wr w.heap.size 81 [.int .i64 (n : Int), .slice ca code.length cc, .int .i64 wh, .slice ia its.length ic, .slice ga gr.length gc, .int .i64 li, .bool ag]) ∧ Hid (Ext w wr)) (fun i _ => gr.length - (intOf i).toNat)
        case atStart => exact ⟨0, rfl, Nat.zero_le _, hB, hX⟩
        clear hB hX q0 q1 q2 q3 q4 q5 q6
        obtain ⟨k, rfl, hk, hB, hX⟩ := hrel
        (try clear q0)
        (try clear q1)
        (try clear q2)
        (try clear q3)
        (try clear q4)
        (try clear q5)
        (try clear q6)
        have q0 := hB.out.box 0 _ rfl
        have q1 := hB.out.box 1 _ rfl
        have q2 := hB.out.box 2 _ rfl
        have q3 := hB.out.box 3 _ rfl
        have q4 := hB.out.box 4 _ rfl
        have q5 := hB.out.box 5 _ rfl
        have q6 := hB.out.box 6 _ rfl
        by_cases hlt : k < gr.length
        · have hlt' : (k : Int) < gr.length := by omega
          have hgk := hgrp.out _ (getD_mem_I gr k hlt)
          obtain ⟨b, off, hga, c3⟩ := (hp.out.gr.ext hX.out) k hlt
          subst hga
          obtain ⟨g, hgg⟩ : ∃ m, Hid (gr.getD k 0 = m) := ⟨_, rfl⟩
          simp only at c3
          rw [hgg.out] at c3 hgk
          have hg0 : ¬ g < 0 := by omega
          have hg1 : ¬ (n : Int) ≤ g := by omega
          have hg0b : decide (g < 0) = false := by simp; omega
          have hg1b : decide ((n : Int) ≤ g) = false := by simp; omega
          go_wp2_with fail
          refine Dr.region_text (by kernel_rfl) ?_
          go_wp2_with fail
          refine ⟨by rfl, ?_⟩
          go_wp2_with fail
          go_roundw
          case rel => exact ⟨k + 1, by go_num, by omega, hB.out.drew, hX.out.drew⟩
          case measure => simp [intOf] <;> omega
        · have hlt' : ¬ (k : Int) < gr.length := by omega
          obtain rfl : k = gr.length := by omega
          clear hlt hk
          go_wp2_with fail
          refine (aggRule code its gr ca ia ga cc ic gc n wr (hp.out.code.ext hX.out) (hp.out.its.ext hX.out) (hp.out.gr.ext hX.out) (by omega) hl2 (by omega) hwf hits).mono ?_
          rintro e w4 ⟨x4, ok, rfl, hok2⟩
          obtain rfl : ok = true := hok2.2 (fun h1 => hnone.out (hagg.out.trans h1))
          have hB4 := hide (hB.out.ext x4)
          have hX4 : Hid (Ext w w4) := hX.out.trans x4
          clear x4 hok2 q0 q1 q2 q3 q4 q5 q6
          rw [← hagg.out]
          have q6 := hB4.out.box 6 _ rfl
          have hee : (ag != ag) = false := by simp
          go_wp2
          go_ret
          exact ⟨rfl, hX4.out⟩
    · have hwb : (wh != -1) = true := by simp at hw0; simp; omega
      have hw0' : ¬ wh < 0 := by simp only at hw0; omega
      have hw1' : ¬ (code.length : Int) ≤ wh := by simp only at hw1; omega
      replace hw0 := hide hw0
      replace hw1 := hide hw1
      go_wp2_with fail
      go_loopw [5] (fun i wr => ∃ k : Nat, i = .int .i64 k ∧ k ≤ its.length ∧ Hid (Blk wr w.heap.size 81 [.int .i64 (n : Int), .slice ca code.length cc, .int .i64 wh, .slice ia its.length ic, .slice ga gr.length gc, .int .i64 li, .bool ag]) ∧ Hid (Ext w wr)) (fun i _ => its.length - (intOf i).toNat)
      case atStart => exact ⟨0, rfl, Nat.zero_le _, hB, hX⟩
      clear hB hX q0 q1 q2 q3 q4 q5 q6
      obtain ⟨k, rfl, hk, hB, hX⟩ := hrel
      (try clear q0)
      (try clear q1)
      (try clear q2)
      (try clear q3)
      (try clear q4)
      (try clear q5)
      (try clear q6)
      have q0 := hB.out.box 0 _ rfl
      have q1 := hB.out.box 1 _ rfl
      have q2 := hB.out.box 2 _ rfl
      have q3 := hB.out.box 3 _ rfl
      have q4 := hB.out.box 4 _ rfl
      have q5 := hB.out.box 5 _ rfl
      have q6 := hB.out.box 6 _ rfl
      by_cases hlt : k < its.length
      · have hlt' : (k : Int) < its.length := by omega
        have hio := hits.out _ (getD_mem_it its k hlt)
        obtain ⟨b, off, hia, c1, c2⟩ := (hp.out.its.ext hX.out) k hlt
        subst hia
        obtain ⟨⟨g, y⟩, hit⟩ : ∃ m, Hid (its.getD k (0, 0) = m) := ⟨_, rfl⟩
        simp only at c1 c2
        rw [hit.out] at c1 c2 hio
        simp only at c1 c2
        have hT : Hid (Blk (wr.alloc (.cells #[.int .i64 g, .int .i64 y] 45)) wr.heap.size 45 [.int .i64 g, .int .i64 y]) := Blk.new wr _ _
        have t0 := hT.out.box 0 _ rfl
        have t1 := hT.out.box 1 _ rfl
        have hB1 := hide (hB.out.alloc (.cells #[.int .i64 g, .int .i64 y] 45))
        have hX1 : Hid (Ext w (wr.alloc (.cells #[.int .i64 g, .int .i64 y] 45))) := hX.out.alloc _
        obtain ⟨hg0, hg5, hio⟩ := hio
        simp only at hg0 hg5 hio
        have hg0' : ¬ g < 0 := by omega
        have hg5' : ¬ 5 < g := by omega
        rcases hio with ⟨h1, h2⟩ | ⟨h1, h2, h3⟩
        · have hgb : (g == 5) = true := by simp [h1]
          have hyb : (y != -1) = false := by simp [h2]
          replace h1 := hide h1
          replace h2 := hide h2
          go_wp2_with fail
          go_roundw
          case rel => exact ⟨k + 1, by go_num, by omega, hB1.out, hX1.out⟩
          case measure => simp [intOf] <;> omega
        · have hgb : (g == 5) = false := by simp [h1]
          have hy0 : ¬ y < 0 := by omega
          have hy1 : ¬ (code.length : Int) ≤ y := by omega
          replace h1 := hide h1
          go_wp2_with fail
          go_roundw
          case rel => exact ⟨k + 1, by go_num, by omega, hB1.out, hX1.out⟩
          case measure => simp [intOf] <;> omega
      · have hlt' : ¬ (k : Int) < its.length := by omega
        obtain rfl : k = its.length := by omega
        clear hlt hk
        go_wp2_with fail
        go_loopw [7] (fun i wr => ∃ k : Nat, i = .int .i64 k ∧ k ≤ gr.length ∧ Hid (Blk wr w.heap.size 81 [.int .i64 (n : Int), .slice ca code.length cc, .int .i64 wh, .slice ia its.length ic, .slice ga gr.length gc, .int .i64 li, .bool ag]) ∧ Hid (Ext w wr)) (fun i _ => gr.length - (intOf i).toNat)
        case atStart => exact ⟨0, rfl, Nat.zero_le _, hB, hX⟩
        clear hB hX q0 q1 q2 q3 q4 q5 q6
        obtain ⟨k, rfl, hk, hB, hX⟩ := hrel
        (try clear q0)
        (try clear q1)
        (try clear q2)
        (try clear q3)
        (try clear q4)
        (try clear q5)
        (try clear q6)
        have q0 := hB.out.box 0 _ rfl
        have q1 := hB.out.box 1 _ rfl
        have q2 := hB.out.box 2 _ rfl
        have q3 := hB.out.box 3 _ rfl
        have q4 := hB.out.box 4 _ rfl
        have q5 := hB.out.box 5 _ rfl
        have q6 := hB.out.box 6 _ rfl
        by_cases hlt : k < gr.length
        · have hlt' : (k : Int) < gr.length := by omega
          have hgk := hgrp.out _ (getD_mem_I gr k hlt)
          obtain ⟨b, off, hga, c3⟩ := (hp.out.gr.ext hX.out) k hlt
          subst hga
          obtain ⟨g, hgg⟩ : ∃ m, Hid (gr.getD k 0 = m) := ⟨_, rfl⟩
          simp only at c3
          rw [hgg.out] at c3 hgk
          have hg0 : ¬ g < 0 := by omega
          have hg1 : ¬ (n : Int) ≤ g := by omega
          have hg0b : decide (g < 0) = false := by simp; omega
          have hg1b : decide ((n : Int) ≤ g) = false := by simp; omega
          go_wp2_with fail
          refine Dr.region_text (by kernel_rfl) ?_
          go_wp2_with fail
          refine ⟨by rfl, ?_⟩
          go_wp2_with fail
          go_roundw
          case rel => exact ⟨k + 1, by go_num, by omega, hB.out.drew, hX.out.drew⟩
          case measure => simp [intOf] <;> omega
        · have hlt' : ¬ (k : Int) < gr.length := by omega
          obtain rfl : k = gr.length := by omega
          clear hlt hk
          go_wp2_with fail
          refine (aggRule code its gr ca ia ga cc ic gc n wr (hp.out.code.ext hX.out) (hp.out.its.ext hX.out) (hp.out.gr.ext hX.out) (by omega) hl2 (by omega) hwf hits).mono ?_
          rintro e w4 ⟨x4, ok, rfl, hok2⟩
          obtain rfl : ok = true := hok2.2 (fun h1 => hnone.out (hagg.out.trans h1))
          have hB4 := hide (hB.out.ext x4)
          have hX4 : Hid (Ext w w4) := hX.out.trans x4
          clear x4 hok2 q0 q1 q2 q3 q4 q5 q6
          rw [← hagg.out]
          have q6 := hB4.out.box 6 _ rfl
          have hee : (ag != ag) = false := by simp
          go_wp2
          go_ret
          exact ⟨rfl, hX4.out⟩

set_option maxHeartbeats 4000000 in
theorem baseOK_no (p : Pl) (ca ia ga a : Option Addr) (cc ic gc cap : Nat) (cs : List Col) (n : Int) (w : World) (ht : Hid (ColsAt w a cs)) (hlc : cs.length < 2 ^ 39) (hv : Hid (¬ ValidT cs n)) :
    Calls Yaan.prog 124 #[.agg (plCells p ca ia ga cc ic gc).toArray, .agg #[.int .i64 n, .slice a cs.length cap]] w (RetBo false w) := by
  obtain ⟨nc, code, wh, its, gr, li, ag⟩ := p
  have hX : Hid (Ext w ((w.alloc (.cells #[.int .i64 nc, .slice ca code.length cc, .int .i64 wh, .slice ia its.length ic, .slice ga gr.length gc, .int .i64 li, .bool ag] 81)).alloc (.cells #[.int .i64 n, .slice a cs.length cap] 66))) := ((Ext.refl w).alloc _).alloc _
  simp only [plCells]
  go_enter Yaan.func124, Yaan.ntmps124
  go_wp2_with fail
  generalize ((w.alloc (.cells #[.int .i64 nc, .slice ca code.length cc, .int .i64 wh, .slice ia its.length ic, .slice ga gr.length gc, .int .i64 li, .bool ag] 81)).alloc (.cells #[.int .i64 n, .slice a cs.length cap] 66)) = W at *
  refine (ValidTable cs n a cap W (ht.out.ext hX.out) (by omega)).mono ?_
  rintro e w1 ⟨bz, rfl, hbz, x1⟩
  obtain rfl : bz = false := by
    cases bz with
    | false => rfl
    | true => exact absurd (hbz.1 rfl) hv.out
  have X1 : Hid (Ext w w1) := hX.out.trans x1
  clear x1 hbz
  go_wp2
  go_ret
  exact ⟨rfl, X1.out⟩
set_option maxHeartbeats 4000000 in
theorem baseOK_yes (p : Pl) (ca ia ga a : Option Addr) (cc ic gc cap : Nat) (cs : List Col) (n : Nat) (w : World) (hp : Hid (PAt w p ca ia ga)) (hok : Hid (PlOK p)) (ht : Hid (ColsAt w a cs)) (hv : Hid (ValidT cs n)) (hnc : p.nc = cs.length) :
    Calls Yaan.prog 124 #[.agg (plCells p ca ia ga cc ic gc).toArray, .agg #[.int .i64 n, .slice a cs.length cap]] w (RetBo (costV p cs.length n) w) := by
  have hlen := hide hp.out.len
  obtain ⟨nc, code, wh, its, gr, li, ag⟩ := p
  simp only at hnc
  subst hnc
  have hl3 : cs.length ≤ 256 := hv.out.2.2.1
  have hn2 : n ≤ 65536 := by have := hv.out.2.1; omega
  have hB1 : Hid (Blk ((w.alloc (.cells #[.int .i64 cs.length, .slice ca code.length cc, .int .i64 wh, .slice ia its.length ic, .slice ga gr.length gc, .int .i64 li, .bool ag] 81)).alloc (.cells #[.int .i64 n, .slice a cs.length cap] 66)) w.heap.size 81 [.int .i64 cs.length, .slice ca code.length cc, .int .i64 wh, .slice ia its.length ic, .slice ga gr.length gc, .int .i64 li, .bool ag]) := (Blk.new w _ _).alloc _
  have hB2 : Hid (Blk ((w.alloc (.cells #[.int .i64 cs.length, .slice ca code.length cc, .int .i64 wh, .slice ia its.length ic, .slice ga gr.length gc, .int .i64 li, .bool ag] 81)).alloc (.cells #[.int .i64 n, .slice a cs.length cap] 66)) (w.heap.size + 1) 66 [.int .i64 n, .slice a cs.length cap]) := by
    have := Blk.new (w.alloc (.cells #[.int .i64 cs.length, .slice ca code.length cc, .int .i64 wh, .slice ia its.length ic, .slice ga gr.length gc, .int .i64 li, .bool ag] 81)) #[.int .i64 n, .slice a cs.length cap] 66
    rw [show (w.alloc (.cells #[.int .i64 cs.length, .slice ca code.length cc, .int .i64 wh, .slice ia its.length ic, .slice ga gr.length gc, .int .i64 li, .bool ag] 81)).heap.size = w.heap.size + 1 by simp] at this
    exact this
  have hX : Hid (Ext w ((w.alloc (.cells #[.int .i64 cs.length, .slice ca code.length cc, .int .i64 wh, .slice ia its.length ic, .slice ga gr.length gc, .int .i64 li, .bool ag] 81)).alloc (.cells #[.int .i64 n, .slice a cs.length cap] 66))) := ((Ext.refl w).alloc _).alloc _
  have hcc : ((cs.length : Int) == cs.length) = true := by simp
  simp only [plCells]
  go_enter Yaan.func124, Yaan.ntmps124
  go_wp2_with fail
  generalize ((w.alloc (.cells #[.int .i64 cs.length, .slice ca code.length cc, .int .i64 wh, .slice ia its.length ic, .slice ga gr.length gc, .int .i64 li, .bool ag] 81)).alloc (.cells #[.int .i64 n, .slice a cs.length cap] 66)) = W at *
  refine (ValidTable cs n a cap W (ht.out.ext hX.out) (by omega)).mono ?_
  rintro e w1 ⟨bz, rfl, hbz, x1⟩
  obtain rfl : bz = true := hbz.2 hv.out
  have X1 : Hid (Ext w w1) := hX.out.trans x1
  replace hB1 := hide (hB1.out.ext x1)
  replace hB2 := hide (hB2.out.ext x1)
  clear x1 hbz hX
  have q0 := hB1.out.box 0 _ rfl
  have q1 := hB1.out.box 1 _ rfl
  have q2 := hB1.out.box 2 _ rfl
  have q3 := hB1.out.box 3 _ rfl
  have q4 := hB1.out.box 4 _ rfl
  have q5 := hB1.out.box 5 _ rfl
  have q6 := hB1.out.box 6 _ rfl
  dsimp only
  go_wp2_with fail
  refine (ValidPlan_ok ⟨cs.length, code, wh, its, gr, li, ag⟩ ca ia ga cc ic gc w1 (hp.out.ext X1.out) hok).mono ?_
  rintro e w2 ⟨rfl, x2⟩
  have X2 : Hid (Ext w w2) := X1.out.trans x2
  replace hB1 := hide (hB1.out.ext x2)
  replace hB2 := hide (hB2.out.ext x2)
  clear x2 X1 q0 q1 q2 q3 q4 q5 q6
  have q0 := hB1.out.box 0 _ rfl
  have q1 := hB1.out.box 1 _ rfl
  have q2 := hB1.out.box 2 _ rfl
  have q3 := hB1.out.box 3 _ rfl
  have q4 := hB1.out.box 4 _ rfl
  have q5 := hB1.out.box 5 _ rfl
  have q6 := hB1.out.box 6 _ rfl
  have t0 := hB2.out.box 0 _ rfl
  have t1 := hB2.out.box 1 _ rfl
  dsimp only
  go_wp2_with fail
  refine (costOK ⟨cs.length, code, wh, its, gr, li, ag⟩ ca ia ga a cc ic gc cap n cs.length w2 hlen.out hl3 hn2).mono ?_
  rintro e w3 ⟨rfl, x3⟩
  have X3 : Hid (Ext w w3) := X2.out.trans x3
  clear x3 X2 q0 q1 q2 q3 q4 q5 q6 t0 t1
  obtain ⟨V, hV⟩ : ∃ V, Hid (costV ⟨cs.length, code, wh, its, gr, li, ag⟩ cs.length n = V) := ⟨_, rfl⟩
  rw [hV.out]
  dsimp only
  go_wp2
  go_ret
  exact ⟨by rw [hV.out]; rfl, X3.out⟩
set_option maxHeartbeats 4000000 in
theorem planTableOK_no (p : Pl) (ca ia ga a : Option Addr) (cc ic gc cap : Nat) (cs : List Col) (n : Int) (w : World) (ht : Hid (ColsAt w a cs)) (hlc : cs.length < 2 ^ 39) (hv : Hid (¬ ValidT cs n)) :
    Calls Yaan.prog 127 #[.agg (plCells p ca ia ga cc ic gc).toArray, .agg #[.int .i64 n, .slice a cs.length cap]] w (RetBo false w) := by
  obtain ⟨nc, code, wh, its, gr, li, ag⟩ := p
  have hX : Hid (Ext w ((w.alloc (.cells #[.int .i64 nc, .slice ca code.length cc, .int .i64 wh, .slice ia its.length ic, .slice ga gr.length gc, .int .i64 li, .bool ag] 81)).alloc (.cells #[.int .i64 n, .slice a cs.length cap] 66))) := ((Ext.refl w).alloc _).alloc _
  simp only [plCells]
  go_enter Yaan.func127, Yaan.ntmps127
  go_wp2_with fail
  generalize ((w.alloc (.cells #[.int .i64 nc, .slice ca code.length cc, .int .i64 wh, .slice ia its.length ic, .slice ga gr.length gc, .int .i64 li, .bool ag] 81)).alloc (.cells #[.int .i64 n, .slice a cs.length cap] 66)) = W at *
  refine (RefValidTable cs n a cap W (ht.out.ext hX.out) (by omega)).mono ?_
  rintro e w1 ⟨bz, rfl, hbz, x1⟩
  obtain rfl : bz = false := by
    cases bz with
    | false => rfl
    | true => exact absurd (hbz.1 rfl) hv.out
  have X1 : Hid (Ext w w1) := hX.out.trans x1
  clear x1 hbz
  go_wp2
  go_ret
  exact ⟨rfl, X1.out⟩
set_option maxHeartbeats 4000000 in
theorem planTableOK_yes (p : Pl) (ca ia ga a : Option Addr) (cc ic gc cap : Nat) (cs : List Col) (n : Nat) (w : World) (hp : Hid (PAt w p ca ia ga)) (hok : Hid (PlOK p)) (ht : Hid (ColsAt w a cs)) (hv : Hid (ValidT cs n)) (hnc : p.nc = cs.length) :
    Calls Yaan.prog 127 #[.agg (plCells p ca ia ga cc ic gc).toArray, .agg #[.int .i64 n, .slice a cs.length cap]] w (RetBo (costV p cs.length n) w) := by
  have hlen := hide hp.out.len
  obtain ⟨nc, code, wh, its, gr, li, ag⟩ := p
  simp only at hnc
  subst hnc
  have hl3 : cs.length ≤ 256 := hv.out.2.2.1
  have hn2 : n ≤ 65536 := by have := hv.out.2.1; omega
  have hB1 : Hid (Blk ((w.alloc (.cells #[.int .i64 cs.length, .slice ca code.length cc, .int .i64 wh, .slice ia its.length ic, .slice ga gr.length gc, .int .i64 li, .bool ag] 81)).alloc (.cells #[.int .i64 n, .slice a cs.length cap] 66)) w.heap.size 81 [.int .i64 cs.length, .slice ca code.length cc, .int .i64 wh, .slice ia its.length ic, .slice ga gr.length gc, .int .i64 li, .bool ag]) := (Blk.new w _ _).alloc _
  have hB2 : Hid (Blk ((w.alloc (.cells #[.int .i64 cs.length, .slice ca code.length cc, .int .i64 wh, .slice ia its.length ic, .slice ga gr.length gc, .int .i64 li, .bool ag] 81)).alloc (.cells #[.int .i64 n, .slice a cs.length cap] 66)) (w.heap.size + 1) 66 [.int .i64 n, .slice a cs.length cap]) := by
    have := Blk.new (w.alloc (.cells #[.int .i64 cs.length, .slice ca code.length cc, .int .i64 wh, .slice ia its.length ic, .slice ga gr.length gc, .int .i64 li, .bool ag] 81)) #[.int .i64 n, .slice a cs.length cap] 66
    rw [show (w.alloc (.cells #[.int .i64 cs.length, .slice ca code.length cc, .int .i64 wh, .slice ia its.length ic, .slice ga gr.length gc, .int .i64 li, .bool ag] 81)).heap.size = w.heap.size + 1 by simp] at this
    exact this
  have hX : Hid (Ext w ((w.alloc (.cells #[.int .i64 cs.length, .slice ca code.length cc, .int .i64 wh, .slice ia its.length ic, .slice ga gr.length gc, .int .i64 li, .bool ag] 81)).alloc (.cells #[.int .i64 n, .slice a cs.length cap] 66))) := ((Ext.refl w).alloc _).alloc _
  have hcc : ((cs.length : Int) == cs.length) = true := by simp
  simp only [plCells]
  go_enter Yaan.func127, Yaan.ntmps127
  go_wp2_with fail
  generalize ((w.alloc (.cells #[.int .i64 cs.length, .slice ca code.length cc, .int .i64 wh, .slice ia its.length ic, .slice ga gr.length gc, .int .i64 li, .bool ag] 81)).alloc (.cells #[.int .i64 n, .slice a cs.length cap] 66)) = W at *
  refine (RefValidTable cs n a cap W (ht.out.ext hX.out) (by omega)).mono ?_
  rintro e w1 ⟨bz, rfl, hbz, x1⟩
  obtain rfl : bz = true := hbz.2 hv.out
  have X1 : Hid (Ext w w1) := hX.out.trans x1
  replace hB1 := hide (hB1.out.ext x1)
  replace hB2 := hide (hB2.out.ext x1)
  clear x1 hbz hX
  have q0 := hB1.out.box 0 _ rfl
  have q1 := hB1.out.box 1 _ rfl
  have q2 := hB1.out.box 2 _ rfl
  have q3 := hB1.out.box 3 _ rfl
  have q4 := hB1.out.box 4 _ rfl
  have q5 := hB1.out.box 5 _ rfl
  have q6 := hB1.out.box 6 _ rfl
  dsimp only
  go_wp2_with fail
  refine (RefValidPlan_ok ⟨cs.length, code, wh, its, gr, li, ag⟩ ca ia ga cc ic gc w1 (hp.out.ext X1.out) hok).mono ?_
  rintro e w2 ⟨rfl, x2⟩
  have X2 : Hid (Ext w w2) := X1.out.trans x2
  replace hB1 := hide (hB1.out.ext x2)
  replace hB2 := hide (hB2.out.ext x2)
  clear x2 X1 q0 q1 q2 q3 q4 q5 q6
  have q0 := hB1.out.box 0 _ rfl
  have q1 := hB1.out.box 1 _ rfl
  have q2 := hB1.out.box 2 _ rfl
  have q3 := hB1.out.box 3 _ rfl
  have q4 := hB1.out.box 4 _ rfl
  have q5 := hB1.out.box 5 _ rfl
  have q6 := hB1.out.box 6 _ rfl
  have t0 := hB2.out.box 0 _ rfl
  have t1 := hB2.out.box 1 _ rfl
  dsimp only
  go_wp2_with fail
  refine (refCostOK ⟨cs.length, code, wh, its, gr, li, ag⟩ ca ia ga a cc ic gc cap n cs.length w2 hlen.out hl3 hn2).mono ?_
  rintro e w3 ⟨rfl, x3⟩
  have X3 : Hid (Ext w w3) := X2.out.trans x3
  clear x3 X2 q0 q1 q2 q3 q4 q5 q6 t0 t1
  obtain ⟨V, hV⟩ : ∃ V, Hid (costV ⟨cs.length, code, wh, its, gr, li, ag⟩ cs.length n = V) := ⟨_, rfl⟩
  rw [hV.out]
  dsimp only
  go_wp2
  go_ret
  exact ⟨by rw [hV.out]; rfl, X3.out⟩
end Go.Proofs.Ybyaaw
