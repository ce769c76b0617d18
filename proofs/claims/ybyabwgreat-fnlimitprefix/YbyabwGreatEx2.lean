/- Walks: costOK, refCostOK, RefValidPlan on a plan in order, baseOK, planTableOK -/
import Derived.Test.YbyabwGreatVPl
import Derived.Test.YbyabwGreatSpc5
import Derived.Test.YbyabwGreatTab1
namespace Go.Proofs.YbyabwGreat
open Go.RowKit
set_option maxRecDepth 100000
set_option linter.unusedVariables false
set_option linter.unusedSimpArgs false

/-- The cost lid. -/
def costV (p : Pl) (ncol n : Nat) : Bool := decide (n = 0) || decide (n * (ncol + p.code.length + p.its.length + p.gr.length) ≤ 16777216)
theorem wrap64_id (z : Int) (h0 : -(2 ^ 63) ≤ z) (h1 : z < 2 ^ 63) : wrap64 z = z := by
  unfold wrap64
  omega
theorem cost_fact (n s : Nat) (hn : n ≤ 65536) (hs : s ≤ 200000) : (n : Int) * (s : Int) < 2 ^ 40 ∧ 0 ≤ (n : Int) * (s : Int) := by
  have h1 : n * s ≤ 65536 * 200000 := Nat.mul_le_mul hn hs
  have h2 : (n : Int) * (s : Int) = ((n * s : Nat) : Int) := by simp
  omega
structure PLen (p : Pl) : Prop where
  lc : p.code.length ≤ 65536
  li : p.its.length ≤ 65536
  lg : p.gr.length ≤ 65600
theorem PAt.len {w : World} {p : Pl} {ca ia ga : Option Addr} (h : PAt w p ca ia ga) : PLen p := ⟨h.lc, h.li, h.lg⟩
set_option maxHeartbeats 4000000 in
theorem costOK (p : Pl) (ca ia ga a : Option Addr) (cc ic gc cap n ncol : Nat) (w : World) (hl : PLen p) (hc : ncol ≤ 256) (hn : n ≤ 65536) :
    Calls Yabn.prog 78 #[.agg (plCells p ca ia ga cc ic gc).toArray, .agg #[.int .i64 n, .slice a ncol cap]] w (RetBo (costV p ncol n) w) := by
  obtain ⟨nc, code, wh, its, gr, li, ag⟩ := p
  obtain ⟨hl1, hl2, hl3⟩ := hl
  simp only at hl1 hl2 hl3
  have hX : Hid (Ext w ((w.alloc (.cells #[.int .i64 nc, .slice ca code.length cc, .int .i64 wh, .slice ia its.length ic, .slice ga gr.length gc, .int .i64 li, .bool ag] 57)).alloc (.cells #[.int .i64 n, .slice a ncol cap] 27))) := ((Ext.refl w).alloc _).alloc _
  have hcv : Hid (costV ⟨nc, code, wh, its, gr, li, ag⟩ ncol n = (decide (n = 0) || decide (n * (ncol + code.length + its.length + gr.length) ≤ 16777216))) := rfl
  simp only [plCells]
  generalize costV ⟨nc, code, wh, its, gr, li, ag⟩ ncol n = V at *
  by_cases h0 : n = 0
  · have h0b : ((n : Int) == 0) = true := by simp [h0]
    have hV : Hid (V = true) := by show _ = _; rw [hcv.out]; simp [h0]
    replace h0 := hide h0
    go_enter Yabn.func78, Yabn.ntmps78
    go_wp2
    go_ret
    exact ⟨by rw [hV.out]; rfl, hX.out⟩
  · have h0b : ((n : Int) == 0) = false := by simp [h0]
    have hpr := cost_fact n (ncol + code.length + its.length + gr.length) hn (by omega)
    have hV : Hid (V = decide ((n : Int) * ((ncol : Int) + code.length + its.length + gr.length) ≤ 16777216)) := by
      show _ = _
      rw [hcv.out, decide_eq_false h0, Bool.false_or]
      refine decide_eq_decide.2 ?_
      have e : (n : Int) * ((ncol : Int) + code.length + its.length + gr.length) = ((n * (ncol + code.length + its.length + gr.length) : Nat) : Int) := by simp
      rw [e]
      omega
    have hw : Hid (wrap64 ((n : Int) * ((ncol : Int) + code.length + its.length + gr.length)) = (n : Int) * ((ncol : Int) + code.length + its.length + gr.length)) := by
      have e : (n : Int) * ((ncol : Int) + code.length + its.length + gr.length) = (n : Int) * ((ncol + code.length + its.length + gr.length : Nat) : Int) := by simp
      show _ = _
      rw [e]
      refine wrap64_id _ ?_ ?_ <;> omega
    replace h0 := hide h0
    replace hpr := hide hpr
    go_enter Yabn.func78, Yabn.ntmps78
    go_wp2
    go_ret
    exact ⟨by rw [hV.out, hw.out]; rfl, hX.out⟩
/-- The four parts' sums. -/
def sum4 (a b c d : Nat) : Nat → Nat
  | 0 => 0
  | 1 => a
  | 2 => a + b
  | 3 => a + b + c
  | _ => a + b + c + d
set_option maxHeartbeats 4000000 in
theorem refCostOK (p : Pl) (ca ia ga a : Option Addr) (cc ic gc cap n ncol : Nat) (w : World) (hl : PLen p) (hc : ncol ≤ 256) (hn : n ≤ 65536) :
    Calls Yabn.prog 23 #[.agg (plCells p ca ia ga cc ic gc).toArray, .agg #[.int .i64 n, .slice a ncol cap]] w (RetBo (costV p ncol n) w) := by
  obtain ⟨nc, code, wh, its, gr, li, ag⟩ := p
  obtain ⟨hl1, hl2, hl3⟩ := hl
  simp only at hl1 hl2 hl3
  have hX : Hid (Ext w ((w.alloc (.cells #[.int .i64 nc, .slice ca code.length cc, .int .i64 wh, .slice ia its.length ic, .slice ga gr.length gc, .int .i64 li, .bool ag] 57)).alloc (.cells #[.int .i64 n, .slice a ncol cap] 27))) := ((Ext.refl w).alloc _).alloc _
  have hcv : Hid (costV ⟨nc, code, wh, its, gr, li, ag⟩ ncol n = (decide (n = 0) || decide (n * (ncol + code.length + its.length + gr.length) ≤ 16777216))) := rfl
  simp only [plCells]
  generalize costV ⟨nc, code, wh, its, gr, li, ag⟩ ncol n = V at *
  by_cases h0 : n = 0
  · have h0b : ((n : Int) == 0) = true := by simp [h0]
    have hV : Hid (V = true) := by show _ = _; rw [hcv.out]; simp [h0]
    replace h0 := hide h0
    go_enter Yabn.func23, Yabn.ntmps23
    go_wp2
    go_ret
    exact ⟨by rw [hV.out]; rfl, hX.out⟩
  · have h0b : ((n : Int) == 0) = false := by simp [h0]
    have hV : Hid (V = decide ((n : Int) * (sum4 ncol code.length its.length gr.length 4 : Nat) ≤ 16777216)) := by
      show _ = _
      rw [hcv.out, decide_eq_false h0, Bool.false_or]
      refine decide_eq_decide.2 ?_
      have e : (n : Int) * ((sum4 ncol code.length its.length gr.length 4 : Nat) : Int) = ((n * (ncol + code.length + its.length + gr.length) : Nat) : Int) := by simp [sum4]
      rw [e]
      omega
    have hpr := cost_fact n (sum4 ncol code.length its.length gr.length 4) hn (by simp [sum4]; omega)
    have hw : Hid (wrap64 ((n : Int) * (sum4 ncol code.length its.length gr.length 4 : Nat)) = (n : Int) * (sum4 ncol code.length its.length gr.length 4 : Nat)) := by
      show _ = _
      refine wrap64_id _ ?_ ?_ <;> omega
    replace h0 := hide h0
    replace hpr := hide hpr
    have hB1 : Hid (Blk ((w.alloc (.cells #[.int .i64 nc, .slice ca code.length cc, .int .i64 wh, .slice ia its.length ic, .slice ga gr.length gc, .int .i64 li, .bool ag] 57)).alloc (.cells #[.int .i64 n, .slice a ncol cap] 27)) w.heap.size 57 [.int .i64 nc, .slice ca code.length cc, .int .i64 wh, .slice ia its.length ic, .slice ga gr.length gc, .int .i64 li, .bool ag]) := (Blk.new w _ _).alloc _
    have hB2 : Hid (Blk ((w.alloc (.cells #[.int .i64 nc, .slice ca code.length cc, .int .i64 wh, .slice ia its.length ic, .slice ga gr.length gc, .int .i64 li, .bool ag] 57)).alloc (.cells #[.int .i64 n, .slice a ncol cap] 27)) (w.heap.size + 1) 27 [.int .i64 n, .slice a ncol cap]) := by
      have := Blk.new (w.alloc (.cells #[.int .i64 nc, .slice ca code.length cc, .int .i64 wh, .slice ia its.length ic, .slice ga gr.length gc, .int .i64 li, .bool ag] 57)) #[.int .i64 n, .slice a ncol cap] 27
      rw [show (w.alloc (.cells #[.int .i64 nc, .slice ca code.length cc, .int .i64 wh, .slice ia its.length ic, .slice ga gr.length gc, .int .i64 li, .bool ag] 57)).heap.size = w.heap.size + 1 by simp] at this
      exact this
    have hsz : Hid (((w.alloc (.cells #[.int .i64 nc, .slice ca code.length cc, .int .i64 wh, .slice ia its.length ic, .slice ga gr.length gc, .int .i64 li, .bool ag] 57)).alloc (.cells #[.int .i64 n, .slice a ncol cap] 27)).heap.size = w.heap.size + 1 + 1) := by show _ = _; simp
    have p1 := hB1.out.box 1 _ rfl
    have p3 := hB1.out.box 3 _ rfl
    have p4 := hB1.out.box 4 _ rfl
    have t0 := hB2.out.box 0 _ rfl
    have t1 := hB2.out.box 1 _ rfl
    have hS : Hid (Blk (((w.alloc (.cells #[.int .i64 nc, .slice ca code.length cc, .int .i64 wh, .slice ia its.length ic, .slice ga gr.length gc, .int .i64 li, .bool ag] 57)).alloc (.cells #[.int .i64 n, .slice a ncol cap] 27)).alloc (.cells #[.int .i64 ncol, .int .i64 code.length, .int .i64 its.length, .int .i64 gr.length] 3)) (w.heap.size + 1 + 1) 3 [.int .i64 ncol, .int .i64 code.length, .int .i64 its.length, .int .i64 gr.length]) := by
      have := Blk.new ((w.alloc (.cells #[.int .i64 nc, .slice ca code.length cc, .int .i64 wh, .slice ia its.length ic, .slice ga gr.length gc, .int .i64 li, .bool ag] 57)).alloc (.cells #[.int .i64 n, .slice a ncol cap] 27)) #[.int .i64 ncol, .int .i64 code.length, .int .i64 its.length, .int .i64 gr.length] 3
      rw [hsz.out] at this
      exact this
    have t0' := (hB2.out.alloc (.cells #[.int .i64 ncol, .int .i64 code.length, .int .i64 its.length, .int .i64 gr.length] 3)).box 0 _ rfl
    have s0 := hS.out.box 0 _ rfl
    have s1 := hS.out.box 1 _ rfl
    have s2 := hS.out.box 2 _ rfl
    have s3 := hS.out.box 3 _ rfl
    have hXS : Hid (Ext w (((w.alloc (.cells #[.int .i64 nc, .slice ca code.length cc, .int .i64 wh, .slice ia its.length ic, .slice ga gr.length gc, .int .i64 li, .bool ag] 57)).alloc (.cells #[.int .i64 n, .slice a ncol cap] 27)).alloc (.cells #[.int .i64 ncol, .int .i64 code.length, .int .i64 its.length, .int .i64 gr.length] 3))) := hX.out.alloc _
    go_enter Yabn.func23, Yabn.ntmps23
    go_wp2_with fail
    generalize (((w.alloc (.cells #[.int .i64 nc, .slice ca code.length cc, .int .i64 wh, .slice ia its.length ic, .slice ga gr.length gc, .int .i64 li, .bool ag] 57)).alloc (.cells #[.int .i64 n, .slice a ncol cap] 27)).alloc (.cells #[.int .i64 ncol, .int .i64 code.length, .int .i64 its.length, .int .i64 gr.length] 3)) = W at *
    go_loopw [6, 7] (fun v i wr => ∃ k : Nat, i = .int .i64 k ∧ k ≤ 4 ∧ v = .int .i64 (sum4 ncol code.length its.length gr.length k : Nat) ∧ W = wr) (fun _ i _ => 4 - (intOf i).toNat)
    case atStart => exact ⟨0, rfl, by omega, rfl, rfl⟩
    obtain ⟨k, rfl, hk, rfl, rfl⟩ := hrel
    by_cases hk4 : k = 4
    · subst hk4
      go_wp2
      go_ret
      exact ⟨by rw [hV.out, hw.out]; rfl, hXS.out⟩
    · have hcases : k = 0 ∨ k = 1 ∨ k = 2 ∨ k = 3 := by omega
      rcases hcases with rfl | rfl | rfl | rfl
      · simp only [sum4]
        go_wp2
        go_roundw
        case rel => exact ⟨1, by go_num, by omega, by first | rfl | (simp only [sum4]; done) | (simp only [sum4]; go_num), by trivial⟩
        case measure => simp [intOf]
      · simp only [sum4]
        go_wp2
        go_roundw
        case rel => exact ⟨2, by go_num, by omega, by first | rfl | (simp only [sum4]; done) | (simp only [sum4]; go_num), by trivial⟩
        case measure => simp [intOf]
      · simp only [sum4]
        go_wp2
        go_roundw
        case rel => exact ⟨3, by go_num, by omega, by first | rfl | (simp only [sum4]; done) | (simp only [sum4]; go_num), by trivial⟩
        case measure => simp [intOf]
      · simp only [sum4]
        go_wp2
        go_roundw
        case rel => exact ⟨4, by go_num, by omega, by first | rfl | (simp only [sum4]; done) | (simp only [sum4]; go_num), by trivial⟩
        case measure => simp [intOf]
end Go.Proofs.YbyabwGreat
