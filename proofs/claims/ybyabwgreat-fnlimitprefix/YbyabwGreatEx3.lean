/- Walks: RefValidPlan on a plan in order, baseOK, planTableOK -/
import Derived.Test.YbyabwGreatEx2
namespace Go.Proofs.YbyabwGreat
open Go.RowKit
set_option maxRecDepth 100000
set_option linter.unusedVariables false
set_option linter.unusedSimpArgs false

set_option maxHeartbeats 4000000 in
theorem baseOK_no (p : Pl) (ca ia ga a : Option Addr) (cc ic gc cap : Nat) (cs : List Col) (n : Int) (w : World) (ht : Hid (ColsAt w a cs)) (hlc : cs.length < 2 ^ 39) (hv : Hid (¬ ValidT cs n)) :
    Calls Yabn.prog 47 #[.agg (plCells p ca ia ga cc ic gc).toArray, .agg #[.int .i64 n, .slice a cs.length cap]] w (RetBo false w) := by
  obtain ⟨nc, code, wh, its, gr, li, ag⟩ := p
  have hX : Hid (Ext w ((w.alloc (.cells #[.int .i64 nc, .slice ca code.length cc, .int .i64 wh, .slice ia its.length ic, .slice ga gr.length gc, .int .i64 li, .bool ag] 57)).alloc (.cells #[.int .i64 n, .slice a cs.length cap] 27))) := ((Ext.refl w).alloc _).alloc _
  simp only [plCells]
  go_enter Yabn.func47, Yabn.ntmps47
  go_wp2_with fail
  generalize ((w.alloc (.cells #[.int .i64 nc, .slice ca code.length cc, .int .i64 wh, .slice ia its.length ic, .slice ga gr.length gc, .int .i64 li, .bool ag] 57)).alloc (.cells #[.int .i64 n, .slice a cs.length cap] 27)) = W at *
  refine (ValidTable cs n a cap W (ht.out.ext hX.out) (by omega)).mono ?_
  rintro e w1 ⟨bz, rfl, hbz, x1⟩
  obtain rfl : bz = false := by
    cases bz with
    | false => rfl
    | true => exact absurd (hbz.1 rfl) hv.out
  have X1 : Hid (Ext w w1) := hX.out.trans x1
  clear x1 hbz
  go_wp2
  go_ret
  exact ⟨rfl, X1.out⟩
set_option maxHeartbeats 4000000 in
theorem baseOK_yes (p : Pl) (ca ia ga a : Option Addr) (cc ic gc cap : Nat) (cs : List Col) (n : Nat) (w : World) (hp : Hid (PAt w p ca ia ga)) (hok : Hid (PlOK p)) (ht : Hid (ColsAt w a cs)) (hv : Hid (ValidT cs n)) (hnc : p.nc = cs.length) :
    Calls Yabn.prog 47 #[.agg (plCells p ca ia ga cc ic gc).toArray, .agg #[.int .i64 n, .slice a cs.length cap]] w (RetBo (costV p cs.length n) w) := by
  have hlen := hide hp.out.len
  obtain ⟨nc, code, wh, its, gr, li, ag⟩ := p
  simp only at hnc
  subst hnc
  have hl3 : cs.length ≤ 256 := hv.out.2.2.1
  have hn2 : n ≤ 65536 := by have := hv.out.2.1; omega
  have hB1 : Hid (Blk ((w.alloc (.cells #[.int .i64 cs.length, .slice ca code.length cc, .int .i64 wh, .slice ia its.length ic, .slice ga gr.length gc, .int .i64 li, .bool ag] 57)).alloc (.cells #[.int .i64 n, .slice a cs.length cap] 27)) w.heap.size 57 [.int .i64 cs.length, .slice ca code.length cc, .int .i64 wh, .slice ia its.length ic, .slice ga gr.length gc, .int .i64 li, .bool ag]) := (Blk.new w _ _).alloc _
  have hB2 : Hid (Blk ((w.alloc (.cells #[.int .i64 cs.length, .slice ca code.length cc, .int .i64 wh, .slice ia its.length ic, .slice ga gr.length gc, .int .i64 li, .bool ag] 57)).alloc (.cells #[.int .i64 n, .slice a cs.length cap] 27)) (w.heap.size + 1) 27 [.int .i64 n, .slice a cs.length cap]) := by
    have := Blk.new (w.alloc (.cells #[.int .i64 cs.length, .slice ca code.length cc, .int .i64 wh, .slice ia its.length ic, .slice ga gr.length gc, .int .i64 li, .bool ag] 57)) #[.int .i64 n, .slice a cs.length cap] 27
    rw [show (w.alloc (.cells #[.int .i64 cs.length, .slice ca code.length cc, .int .i64 wh, .slice ia its.length ic, .slice ga gr.length gc, .int .i64 li, .bool ag] 57)).heap.size = w.heap.size + 1 by simp] at this
    exact this
  have hX : Hid (Ext w ((w.alloc (.cells #[.int .i64 cs.length, .slice ca code.length cc, .int .i64 wh, .slice ia its.length ic, .slice ga gr.length gc, .int .i64 li, .bool ag] 57)).alloc (.cells #[.int .i64 n, .slice a cs.length cap] 27))) := ((Ext.refl w).alloc _).alloc _
  have hcc : ((cs.length : Int) == cs.length) = true := by simp
  simp only [plCells]
  go_enter Yabn.func47, Yabn.ntmps47
  go_wp2_with fail
  generalize ((w.alloc (.cells #[.int .i64 cs.length, .slice ca code.length cc, .int .i64 wh, .slice ia its.length ic, .slice ga gr.length gc, .int .i64 li, .bool ag] 57)).alloc (.cells #[.int .i64 n, .slice a cs.length cap] 27)) = W at *
  refine (ValidTable cs n a cap W (ht.out.ext hX.out) (by omega)).mono ?_
  rintro e w1 ⟨bz, rfl, hbz, x1⟩
  obtain rfl : bz = true := hbz.2 hv.out
  have X1 : Hid (Ext w w1) := hX.out.trans x1
  replace hB1 := hide (hB1.out.ext x1)
  replace hB2 := hide (hB2.out.ext x1)
  clear x1 hbz hX
  have q0 := hB1.out.box 0 _ rfl
  have q1 := hB1.out.box 1 _ rfl
  have q2 := hB1.out.box 2 _ rfl
  have q3 := hB1.out.box 3 _ rfl
  have q4 := hB1.out.box 4 _ rfl
  have q5 := hB1.out.box 5 _ rfl
  have q6 := hB1.out.box 6 _ rfl
  dsimp only
  go_wp2_with fail
  refine (ValidPlan_ok ⟨cs.length, code, wh, its, gr, li, ag⟩ ca ia ga cc ic gc w1 (hp.out.ext X1.out) hok).mono ?_
  rintro e w2 ⟨rfl, x2⟩
  have X2 : Hid (Ext w w2) := X1.out.trans x2
  replace hB1 := hide (hB1.out.ext x2)
  replace hB2 := hide (hB2.out.ext x2)
  clear x2 X1 q0 q1 q2 q3 q4 q5 q6
  have q0 := hB1.out.box 0 _ rfl
  have q1 := hB1.out.box 1 _ rfl
  have q2 := hB1.out.box 2 _ rfl
  have q3 := hB1.out.box 3 _ rfl
  have q4 := hB1.out.box 4 _ rfl
  have q5 := hB1.out.box 5 _ rfl
  have q6 := hB1.out.box 6 _ rfl
  have t0 := hB2.out.box 0 _ rfl
  have t1 := hB2.out.box 1 _ rfl
  dsimp only
  go_wp2_with fail
  refine (costOK ⟨cs.length, code, wh, its, gr, li, ag⟩ ca ia ga a cc ic gc cap n cs.length w2 hlen.out hl3 hn2).mono ?_
  rintro e w3 ⟨rfl, x3⟩
  have X3 : Hid (Ext w w3) := X2.out.trans x3
  clear x3 X2 q0 q1 q2 q3 q4 q5 q6 t0 t1
  obtain ⟨V, hV⟩ : ∃ V, Hid (costV ⟨cs.length, code, wh, its, gr, li, ag⟩ cs.length n = V) := ⟨_, rfl⟩
  rw [hV.out]
  dsimp only
  go_wp2
  go_ret
  exact ⟨by rw [hV.out]; rfl, X3.out⟩
end Go.Proofs.YbyabwGreat
