/- Walks: impl.Select, spec.evalOn, spec.RefSelect, the two selOK -/
import Derived.Test.YbyaawEx3
import Derived.Test.YbyaawEx5
import Derived.Test.YbyaawDecTab
import Derived.Test.YbyaawRefDecTab
import Derived.Test.YbyaawEval3
import Derived.Test.YbyaawHeld
namespace Go.Proofs.Ybyaaw
open Go.RowKit
set_option maxRecDepth 100000
set_option linter.unusedVariables false
set_option linter.unusedSimpArgs false

theorem rowAt_T (cs : List Col) : rowAt (colF cs) cs.length = rowT cs := by
  funext r
  apply List.ext_getElem
  · simp [rowAt, rowT]
  · intro i h1 h2
    have hi : i < cs.length := by simpa [rowAt] using h1
    simp [rowAt, rowT, colF, hi]
theorem colF_len {cs : List Col} {n : Nat} (hv : ValidT cs n) {j : Nat} (hj : j < cs.length) : (colF cs j).length = n := by
  have := dec_len _ _ (hv.2.2.2 j hj)
  unfold colF
  omega
/-- Answers of a plan on a table: the plan fits, the table is sound, the cost is paid. -/
def RetSel (b : Bool) (xs : List Int) (w : World) : Ending → World → Prop := fun en w' => (b = true ∧ RetYes 3 xs w en w') ∨ (b = false ∧ RetNo w en w')
set_option maxHeartbeats 4000000 in
theorem Select_no (p : Pl) (ca ia ga a : Option Addr) (cc ic gc cap : Nat) (cs : List Col) (n : Int) (w : World) (ht : Hid (ColsAt w a cs)) (hlc : cs.length < 2 ^ 39) (hv : Hid (¬ ValidT cs n)) :
    Calls Yaan.prog 57 #[.agg (plCells p ca ia ga cc ic gc).toArray, .agg #[.int .i64 n, .slice a cs.length cap]] w (RetNo w) := by
  obtain ⟨nc, code, wh, its, gr, li, ag⟩ := p
  have hX : Hid (Ext w ((w.alloc (.cells #[.int .i64 nc, .slice ca code.length cc, .int .i64 wh, .slice ia its.length ic, .slice ga gr.length gc, .int .i64 li, .bool ag] 81)).alloc (.cells #[.int .i64 n, .slice a cs.length cap] 66))) := ((Ext.refl w).alloc _).alloc _
  simp only [plCells]
  go_enter Yaan.func57, Yaan.ntmps57
  go_wp2_with fail
  generalize ((w.alloc (.cells #[.int .i64 nc, .slice ca code.length cc, .int .i64 wh, .slice ia its.length ic, .slice ga gr.length gc, .int .i64 li, .bool ag] 81)).alloc (.cells #[.int .i64 n, .slice a cs.length cap] 66)) = W at *
  refine (baseOK_no ⟨nc, code, wh, its, gr, li, ag⟩ ca ia ga a cc ic gc cap cs n W (ht.out.ext hX.out) hlc hv).mono ?_
  rintro e w1 ⟨rfl, x1⟩
  have X1 : Hid (Ext w w1) := hX.out.trans x1
  clear x1
  go_wp2
  go_ret2
  exact ⟨rfl, X1.out⟩
set_option maxHeartbeats 4000000 in
theorem RefSelect_no (p : Pl) (ca ia ga a : Option Addr) (cc ic gc cap : Nat) (cs : List Col) (n : Int) (w : World) (ht : Hid (ColsAt w a cs)) (hlc : cs.length < 2 ^ 39) (hv : Hid (¬ ValidT cs n)) :
    Calls Yaan.prog 58 #[.agg (plCells p ca ia ga cc ic gc).toArray, .agg #[.int .i64 n, .slice a cs.length cap]] w (RetNo w) := by
  obtain ⟨nc, code, wh, its, gr, li, ag⟩ := p
  have hX : Hid (Ext w ((w.alloc (.cells #[.int .i64 nc, .slice ca code.length cc, .int .i64 wh, .slice ia its.length ic, .slice ga gr.length gc, .int .i64 li, .bool ag] 81)).alloc (.cells #[.int .i64 n, .slice a cs.length cap] 66))) := ((Ext.refl w).alloc _).alloc _
  simp only [plCells]
  go_enter Yaan.func58, Yaan.ntmps58
  go_wp2_with fail
  generalize ((w.alloc (.cells #[.int .i64 nc, .slice ca code.length cc, .int .i64 wh, .slice ia its.length ic, .slice ga gr.length gc, .int .i64 li, .bool ag] 81)).alloc (.cells #[.int .i64 n, .slice a cs.length cap] 66)) = W at *
  refine (planTableOK_no ⟨nc, code, wh, its, gr, li, ag⟩ ca ia ga a cc ic gc cap cs n W (ht.out.ext hX.out) hlc hv).mono ?_
  rintro e w1 ⟨rfl, x1⟩
  have X1 : Hid (Ext w w1) := hX.out.trans x1
  clear x1
  go_wp2
  go_ret2
  exact ⟨rfl, X1.out⟩
set_option maxHeartbeats 4000000 in
theorem Select (p : Pl) (ca ia ga a : Option Addr) (cc ic gc cap : Nat) (cs : List Col) (n : Nat) (w : World) (hp : Hid (PAt w p ca ia ga)) (hok : Hid (PlOK p)) (ht : Hid (ColsAt w a cs)) (hv : Hid (ValidT cs n)) (hnc : p.nc = cs.length) :
    Calls Yaan.prog 57 #[.agg (plCells p ca ia ga cc ic gc).toArray, .agg #[.int .i64 n, .slice a cs.length cap]] w (RetSel (costV p cs.length n) (slTo p (rowT cs) n) w) := by
  have hlen := hide hp.out.len
  obtain ⟨nc, code, wh, its, gr, li, ag⟩ := p
  simp only at hnc
  replace hnc := hide hnc
  have hl3 : cs.length ≤ 256 := hv.out.2.2.1
  have hn2 : n ≤ 65536 := by have := hv.out.2.1; omega
  have hB1 : Hid (Blk ((w.alloc (.cells #[.int .i64 nc, .slice ca code.length cc, .int .i64 wh, .slice ia its.length ic, .slice ga gr.length gc, .int .i64 li, .bool ag] 81)).alloc (.cells #[.int .i64 n, .slice a cs.length cap] 66)) w.heap.size 81 [.int .i64 nc, .slice ca code.length cc, .int .i64 wh, .slice ia its.length ic, .slice ga gr.length gc, .int .i64 li, .bool ag]) := (Blk.new w _ _).alloc _
  have hB2 : Hid (Blk ((w.alloc (.cells #[.int .i64 nc, .slice ca code.length cc, .int .i64 wh, .slice ia its.length ic, .slice ga gr.length gc, .int .i64 li, .bool ag] 81)).alloc (.cells #[.int .i64 n, .slice a cs.length cap] 66)) (w.heap.size + 1) 66 [.int .i64 n, .slice a cs.length cap]) := by
    have := Blk.new (w.alloc (.cells #[.int .i64 nc, .slice ca code.length cc, .int .i64 wh, .slice ia its.length ic, .slice ga gr.length gc, .int .i64 li, .bool ag] 81)) #[.int .i64 n, .slice a cs.length cap] 66
    rw [show (w.alloc (.cells #[.int .i64 nc, .slice ca code.length cc, .int .i64 wh, .slice ia its.length ic, .slice ga gr.length gc, .int .i64 li, .bool ag] 81)).heap.size = w.heap.size + 1 by simp] at this
    exact this
  have hX : Hid (Ext w ((w.alloc (.cells #[.int .i64 nc, .slice ca code.length cc, .int .i64 wh, .slice ia its.length ic, .slice ga gr.length gc, .int .i64 li, .bool ag] 81)).alloc (.cells #[.int .i64 n, .slice a cs.length cap] 66))) := ((Ext.refl w).alloc _).alloc _
  simp only [plCells]
  go_enter Yaan.func57, Yaan.ntmps57
  go_wp2_with fail
  generalize ((w.alloc (.cells #[.int .i64 nc, .slice ca code.length cc, .int .i64 wh, .slice ia its.length ic, .slice ga gr.length gc, .int .i64 li, .bool ag] 81)).alloc (.cells #[.int .i64 n, .slice a cs.length cap] 66)) = W at *
  refine (baseOK_yes ⟨nc, code, wh, its, gr, li, ag⟩ ca ia ga a cc ic gc cap cs n W (hp.out.ext hX.out) hok (ht.out.ext hX.out) hv hnc.out).mono ?_
  rintro e w1 ⟨rfl, x1⟩
  have X1 : Hid (Ext w w1) := hX.out.trans x1
  replace hB1 := hide (hB1.out.ext x1)
  replace hB2 := hide (hB2.out.ext x1)
  clear x1 hX
  obtain ⟨V, hV⟩ : ∃ V, Hid (costV ⟨nc, code, wh, its, gr, li, ag⟩ cs.length n = V) := ⟨_, rfl⟩
  rw [hV.out]
  cases V with
  | false =>
    go_wp2
    go_ret2
    exact .inr ⟨hV.out, rfl, X1.out⟩
  | true =>
    have q0 := hB1.out.box 0 _ rfl
    have q1 := hB1.out.box 1 _ rfl
    have q2 := hB1.out.box 2 _ rfl
    have q3 := hB1.out.box 3 _ rfl
    have q4 := hB1.out.box 4 _ rfl
    have q5 := hB1.out.box 5 _ rfl
    have q6 := hB1.out.box 6 _ rfl
    have t0 := hB2.out.box 0 _ rfl
    have t1 := hB2.out.box 1 _ rfl
    go_wp2_with fail
    refine Dr.region_held (fun b => b = w.heap.size ∨ b = w.heap.size + 1) [0, 2] (by kernel_rfl) ?_
    refine Dr.held_q4 (by rfl) ?_
    go_wp2_with fail
    refine Dr.held_act (by rfl) (by rfl) ?_
    go_wp2_with fail
    refine (decodeAll cs n a cap w1.drew (ht.out.ext X1.out.drew) hv).mono ?_
    rintro e w2 ⟨ra, rc, rfl, hr, x2⟩
    have hsz := hB2.out.lt
    refine ⟨fun b hb => x2.block b (by simp only at hb; simp only [World.drew]; omega), ?_⟩
    have X2 : Hid (Ext w w2) := X1.out.drew.trans x2
    have hB12 := hide (hB1.out.ext ((Ext.refl w1).drew.trans x2))
    have hB22 := hide (hB2.out.ext ((Ext.refl w1).drew.trans x2))
    have hr2 := hide hr
    clear x2 hr q0 q1 q2 q3 q4 q5 q6 t0 t1
    refine Dr.held_act (by rfl) (by rfl) ?_
    go_wp2_with fail
    have hsel := selectRows ⟨nc, code, wh, its, gr, li, ag⟩ ca ia ga cc ic gc (colF cs) cs.length n ra rc w2 (hp.out.ext X2.out) hok hnc.out hr2 (fun j hj => colF_len hv.out hj) hl3 hn2
    rw [rowAt_T] at hsel
    refine hsel.mono ?_
    clear hsel
    rintro e w3 ⟨oa, oc, rfl, hO, x3⟩
    refine ⟨fun b hb => x3.block b (by simp only at hb; have := hB22.out.lt; omega), ?_⟩
    have X3 : Hid (Ext w w3) := X2.out.trans x3
    have hO3 := hide (OwnI.mono hO X2.out.size)
    have q9 := (hB12.out.ext x3).box 0 _ rfl
    have t9 := (hB22.out.ext x3).box 0 _ rfl
    clear x3 hO
    refine Dr.held_q2 (by rfl) ?_
    go_wp2
    refine Dr.held_nil (by rfl) ⟨fun _ => ⟨w.heap.size, 0, rfl, .inl rfl, Dr.isCells_of q9⟩, fun _ => ⟨w.heap.size + 1, 0, rfl, .inr rfl, Dr.isCells_of t9⟩, trivial⟩ ?_
    clear q9 t9
    go_wp2
    go_ret2
    exact .inl ⟨hV.out, oa, oc, rfl, hO3.out, X3.out⟩
set_option maxHeartbeats 1000000 in
theorem evalOn (ns : List Nd) (row : List Int) (a ar : Option Addr) (c cr x : Nat) (xi : Int) (hxi : xi = (x : Int)) (w : World) (h : Hid (NodesAt w a ns)) (hr : Hid (IntsAt w ar row)) (l1 : ns.length < 2 ^ 39) (l2 : row.length < 2 ^ 39) (hw : Hid (WfA ns row.length)) (hx : x < ns.length) :
    Calls Yaan.prog 129 #[.slice a ns.length c, .int .i64 xi, .slice ar row.length cr] w (fun e w' => e = .returned (.int .i64 (evX ns row x)) ∧ Ext w w') := by
  subst hxi
  have hok : Hid (evOK ns row (x : Int)) := ⟨by omega, by omega, fun i hi => hw.out i (by omega)⟩
  have hev : Hid (evAt ns row (x : Int) = evX ns row x) := by
    show _ = _
    unfold evAt
    rw [Int.toNat_natCast]
    exact evTo_get ns row x
  go_enter Yaan.func129, Yaan.ntmps129
  go_wp2_with fail
  refine (RefEval ns row a ar c cr x w h hr l1 l2).mono ?_
  rintro e v1 ⟨xv1, ⟨_, rfl⟩ | ⟨hno, _⟩⟩
  rotate_left
  · exact absurd hok.out hno
  rw [hev.out]
  replace xv1 := hide xv1
  go_wp2
  go_ret
  exact ⟨rfl, xv1.out⟩
end Go.Proofs.Ybyaaw
