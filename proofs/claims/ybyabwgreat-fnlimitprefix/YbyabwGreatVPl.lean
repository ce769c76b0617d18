/- Walk: impl.ValidPlan on a plan that is in order -/
import Derived.Test.YbyabwGreatPlnEq
namespace Go.Proofs.YbyabwGreat
open Go.RowKit
set_option maxRecDepth 100000
set_option linter.unusedVariables false
set_option linter.unusedSimpArgs false

set_option maxHeartbeats 8000000 in
theorem ValidPlan_ok (p : Pl) (ca ia ga : Option Addr) (cc ic gc : Nat) (w : World) (hp : Hid (PAt w p ca ia ga)) (hok : Hid (PlOK p)) :
    Calls Yabn.prog 77 #[.agg (plCells p ca ia ga cc ic gc).toArray] w (RetTrue w) := by
  obtain ⟨nc, code, wh, its, gr, li, ag⟩ := p
  obtain ⟨n, rfl⟩ := Int.eq_ofNat_of_zero_le hok.out.n0
  have hn : n ≤ 256 := by have := hok.out.n1; simp only at this; omega
  have hn' : ¬ (256 : Int) < n := by omega
  have hl1 := hp.out.lc
  have hl2 := hp.out.li
  have hl3 := hp.out.lg
  simp only at hl1 hl2 hl3
  have hB : Hid (Blk (w.alloc (.cells #[.int .i64 n, .slice ca code.length cc, .int .i64 wh, .slice ia its.length ic, .slice ga gr.length gc, .int .i64 li, .bool ag] 57)) w.heap.size 57 [.int .i64 (n : Int), .slice ca code.length cc, .int .i64 wh, .slice ia its.length ic, .slice ga gr.length gc, .int .i64 li, .bool ag]) := Blk.new w _ _
  have hX : Hid (Ext w (w.alloc (.cells #[.int .i64 n, .slice ca code.length cc, .int .i64 wh, .slice ia its.length ic, .slice ga gr.length gc, .int .i64 li, .bool ag] 57))) := (Ext.refl w).alloc _
  (try clear q0)
  (try clear q1)
  (try clear q2)
  (try clear q3)
  (try clear q4)
  (try clear q5)
  (try clear q6)
  have q0 := hB.out.box 0 _ rfl
  have q1 := hB.out.box 1 _ rfl
  have q2 := hB.out.box 2 _ rfl
  have q3 := hB.out.box 3 _ rfl
  have q4 := hB.out.box 4 _ rfl
  have q5 := hB.out.box 5 _ rfl
  have q6 := hB.out.box 6 _ rfl
  simp only [plCells]
  go_enter Yabn.func77, Yabn.ntmps77
  go_wp2_with fail
  generalize w.alloc (.cells #[.int .i64 n, .slice ca code.length cc, .int .i64 wh, .slice ia its.length ic, .slice ga gr.length gc, .int .i64 li, .bool ag] 57) = X at *
  go_loopw [4] (fun i wr => ∃ k : Nat, i = .int .i64 k ∧ k ≤ code.length ∧ Hid (Blk wr w.heap.size 57 [.int .i64 (n : Int), .slice ca code.length cc, .int .i64 wh, .slice ia its.length ic, .slice ga gr.length gc, .int .i64 li, .bool ag]) ∧ Hid (Ext w wr)) (fun i _ => code.length - (intOf i).toNat)
  case atStart => exact ⟨0, rfl, Nat.zero_le _, hB, hX⟩
  clear hB hX q0 q1 q2 q3 q4 q5 q6
  obtain ⟨k, rfl, hk, hB, hX⟩ := hrel
  (try clear q0)
  (try clear q1)
  (try clear q2)
  (try clear q3)
  (try clear q4)
  (try clear q5)
  (try clear q6)
  have q0 := hB.out.box 0 _ rfl
  have q1 := hB.out.box 1 _ rfl
  have q2 := hB.out.box 2 _ rfl
  have q3 := hB.out.box 3 _ rfl
  have q4 := hB.out.box 4 _ rfl
  have q5 := hB.out.box 5 _ rfl
  have q6 := hB.out.box 6 _ rfl
  by_cases hlt : k < code.length
  · have hlt' : (k : Int) < code.length := by omega
    have hwk := hide (hok.out.wf k hlt)
    obtain ⟨b, off, hca, g1, g2, g3, g4⟩ := (hp.out.code.ext hX.out).get k hlt
    subst hca
    obtain ⟨⟨o, y, l, r⟩, hnd⟩ : ∃ m, Hid (code.getD k nd0 = m) := ⟨_, rfl⟩
    rw [hnd.out] at g1 g2 g3 g4
    simp only at g1 g2 g3 g4
    have hwk2 : Hid (wfP ⟨o, y, l, r⟩ k n) := by have := hwk.out; rw [hnd.out] at this; exact this
    go_wp2_with fail
    refine Dr.region_text (by kernel_rfl) ?_
    go_wp2_with fail
    refine (impl.wellFormed o y l r k n wr.drew).mono ?_
    rintro e w1 ⟨bz, rfl, hbz, x1⟩
    obtain rfl : bz = true := hbz.2 hwk2.out
    replace hB := hide (Blk.ext hB.out.drew x1)
    replace hX : Hid (Ext w w1) := hX.out.drew.trans x1
    clear x1 hbz q0 q1 q2 q3 q4 q5 q6 g1 g2 g3 g4
    go_wp2_with fail
    refine ⟨by rfl, ?_⟩
    go_wp2_with fail
    go_roundw
    case rel => exact ⟨k + 1, by go_num, by omega, hB.out, hX.out⟩
    case measure => simp [intOf] <;> omega
  · have hlt' : ¬ (k : Int) < code.length := by omega
    obtain rfl : k = code.length := by omega
    have hw1 : ¬ wh < -1 := by have := hok.out.wh; unfold WhP at this; simp only at this; omega
    have hw2 : ¬ (code.length : Int) ≤ wh := by have := hok.out.wh; unfold WhP at this; simp only at this; omega
    have hi1 : ¬ (its.length : Int) < 1 := by have := hok.out.ni; simp only at this; omega
    have hl9 : ¬ li < -1 := by have := hok.out.li; simp only at this; omega
    have hits : Hid (ItsOK code.length its) := hok.out.its
    have hgrp : Hid (GrP n gr) := hok.out.gr
    have hwf : Hid (WfA code n) := hok.out.wf
    have hagg : Hid (ag = aggW its gr) := hok.out.ag
    have hnone : Hid (ag = true → NoneP code its gr) := hok.out.none
    clear hlt hk
    go_wp2_with fail
    refine (itemsOK its ia ic code.length wr (hp.out.its.ext hX.out) hl2).mono ?_
    rintro e w1 ⟨bz, rfl, hbz, x1⟩
    obtain rfl : bz = true := hbz.2 hits.out
    replace hB := hide (hB.out.ext x1)
    replace hX : Hid (Ext w w1) := hX.out.trans x1
    clear x1 hbz
    (try clear q0)
    (try clear q1)
    (try clear q2)
    (try clear q3)
    (try clear q4)
    (try clear q5)
    (try clear q6)
    have q0 := hB.out.box 0 _ rfl
    have q1 := hB.out.box 1 _ rfl
    have q2 := hB.out.box 2 _ rfl
    have q3 := hB.out.box 3 _ rfl
    have q4 := hB.out.box 4 _ rfl
    have q5 := hB.out.box 5 _ rfl
    have q6 := hB.out.box 6 _ rfl
    go_wp2_with fail
    refine (groupOK gr ga gc n w1 (hp.out.gr.ext hX.out) (by omega)).mono ?_
    rintro e w2 ⟨bz, rfl, hbz, x1⟩
    obtain rfl : bz = true := hbz.2 hgrp.out
    replace hB := hide (hB.out.ext x1)
    replace hX : Hid (Ext w w2) := hX.out.trans x1
    clear x1 hbz
    (try clear q0)
    (try clear q1)
    (try clear q2)
    (try clear q3)
    (try clear q4)
    (try clear q5)
    (try clear q6)
    have q0 := hB.out.box 0 _ rfl
    have q1 := hB.out.box 1 _ rfl
    have q2 := hB.out.box 2 _ rfl
    have q3 := hB.out.box 3 _ rfl
    have q4 := hB.out.box 4 _ rfl
    have q5 := hB.out.box 5 _ rfl
    have q6 := hB.out.box 6 _ rfl
    go_wp2_with fail
    refine (aggWanted its gr ia ga ic gc w2 (hp.out.its.ext hX.out) hl2 (by omega)).mono ?_
    rintro e w3 ⟨rfl, x1⟩
    replace hB := hide (hB.out.ext x1)
    replace hX : Hid (Ext w w3) := hX.out.trans x1
    clear x1
    rw [← hagg.out]
    (try clear q0)
    (try clear q1)
    (try clear q2)
    (try clear q3)
    (try clear q4)
    (try clear q5)
    (try clear q6)
    have q0 := hB.out.box 0 _ rfl
    have q1 := hB.out.box 1 _ rfl
    have q2 := hB.out.box 2 _ rfl
    have q3 := hB.out.box 3 _ rfl
    have q4 := hB.out.box 4 _ rfl
    have q5 := hB.out.box 5 _ rfl
    have q6 := hB.out.box 6 _ rfl
    have hee : (ag != ag) = false := by simp
    cases ag with
    | false =>
      go_wp2
      go_ret
      exact ⟨rfl, hX.out⟩
    | true =>
      go_wp2_with fail
      refine (noneItemsOK code its gr ca ia ga cc ic gc n w3 (hp.out.code.ext hX.out) (hp.out.its.ext hX.out) (hp.out.gr.ext hX.out) (by omega) hl2 (by omega) hn hwf hits hgrp).mono ?_
      rintro e w4 ⟨bz, rfl, hbz, x1⟩
      obtain rfl : bz = true := hbz.2 (hnone.out (by trivial))
      replace hX : Hid (Ext w w4) := hX.out.trans x1
      clear x1 hbz q0 q1 q2 q3 q4 q5 q6
      dsimp only
      go_wp2
      go_ret
      exact ⟨rfl, hX.out⟩
end Go.Proofs.YbyabwGreat
