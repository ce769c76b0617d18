/- Walk: laws.FnGroupRows -/
import Derived.Test.YbyaawGrp11
import Derived.Test.YbyaawEx10
import Derived.Test.YbyaawFnSelectProjectW
namespace Go.Proofs.Ybyaaw
open Go.RowKit
set_option maxRecDepth 100000
set_option linter.unusedVariables false
set_option linter.unusedSimpArgs false

/-- Every second entry. -/
def halfL (S : List Int) (t : Nat) : List Int := (List.range t).map (fun i => S.getD (2 * i) 0)
theorem halfL_len (S : List Int) (t : Nat) : (halfL S t).length = t := by simp [halfL]
theorem halfL_succ (S : List Int) (t : Nat) : halfL S (t + 1) = halfL S t ++ [S.getD (2 * t) 0] := by simp [halfL, List.range_succ]
set_option maxHeartbeats 16000000 in
theorem FnGroupRows (zs cells ks : List Int) (qa ce ka : Option Addr) (qc cec kc : Nat) (u : Int) (w : World) (hq : Hid (BytesAt w qa zs)) (hce : Hid (IntsAt w ce cells)) (hk : Hid (BytesAt w ka ks)) (hu0 : 0 ≤ u) (hu1 : u ≤ 255) :
    Calls Yaan.prog 12 #[.slice qa zs.length qc, .slice ce cells.length cec, .int .u8 u, .slice ka ks.length kc] w (RetTrue w) := by
  by_cases l1 : 1048576 < zs.length
  · have l1' : 1048576 < (zs.length : Int) := by omega
    go_enter Yaan.func12, Yaan.ntmps12
    go_wp2
    go_ret
    exact ⟨rfl, Ext.refl w⟩
  have l1' : ¬ 1048576 < (zs.length : Int) := by omega
  by_cases l2 : 1048576 < cells.length
  · have l2' : 1048576 < (cells.length : Int) := by omega
    go_enter Yaan.func12, Yaan.ntmps12
    go_wp2
    go_ret
    exact ⟨rfl, Ext.refl w⟩
  have l2' : ¬ 1048576 < (cells.length : Int) := by omega
  by_cases l3 : 1048576 < ks.length
  · have l3' : 1048576 < (ks.length : Int) := by omega
    go_enter Yaan.func12, Yaan.ntmps12
    go_wp2
    go_ret
    exact ⟨rfl, Ext.refl w⟩
  have l3' : ¬ 1048576 < (ks.length : Int) := by omega
  go_enter Yaan.func12, Yaan.ntmps12
  go_wp2_with fail
  refine (setup zs cells ks qa ce ka qc cec kc u w hq hce hk hu0 hu1 (by omega) (by omega) (by omega)).mono ?_
  rintro e w1 ⟨x1, hcase⟩
  rcases hcase with rfl | ⟨p, ca, ia, ga, cc, ic, gc, cs, n, a, cap, rfl, hset⟩
  · have X1 : Hid (Ext w ((w1.alloc (.cells #[.int .i64 0, .slice none 0 0, .int .i64 0, .slice none 0 0, .slice none 0 0, .int .i64 0, .bool false] 81)).alloc (.cells #[.int .i64 0, .slice none 0 0] 66))) := (x1.alloc _).alloc _
    clear x1
    simp only [plz]
    go_wp2
    go_ret
    exact ⟨rfl, X1.out⟩
  obtain ⟨V, hV⟩ : ∃ V, Hid (costV p cs.length n = V) := ⟨_, rfl⟩
  obtain ⟨S, hS⟩ : ∃ S, Hid (slTo p (rowT cs) n = S) := ⟨_, rfl⟩
  have hn2 : n ≤ 65536 := by have := hset.v.2.1; omega
  have hSl : S.length ≤ 65536 := by rw [← hS.out]; exact Nat.le_trans (slTo_len p (rowT cs) n) hn2
  have hcl : cs.length ≤ 256 := hset.v.2.2.1
  obtain ⟨nc, code, wh, its, gr, li, ag⟩ := p
  have hlc : code.length ≤ 65536 := hset.pat.lc
  have hli : its.length ≤ 65536 := hset.pat.li
  have X1 : Hid (Ext w ((w1.alloc (.cells #[.int .i64 nc, .slice ca code.length cc, .int .i64 wh, .slice ia its.length ic, .slice ga gr.length gc, .int .i64 li, .bool ag] 81)).alloc (.cells #[.int .i64 n, .slice a cs.length cap] 66))) := (x1.alloc _).alloc _
  have hs1 := hide (hset.ext (((Ext.refl w1).alloc (.cells #[.int .i64 nc, .slice ca code.length cc, .int .i64 wh, .slice ia its.length ic, .slice ga gr.length gc, .int .i64 li, .bool ag] 81)).alloc (.cells #[.int .i64 n, .slice a cs.length cap] 66)))
  have hB1 : Hid (Blk ((w1.alloc (.cells #[.int .i64 nc, .slice ca code.length cc, .int .i64 wh, .slice ia its.length ic, .slice ga gr.length gc, .int .i64 li, .bool ag] 81)).alloc (.cells #[.int .i64 n, .slice a cs.length cap] 66)) w1.heap.size 81 [.int .i64 nc, .slice ca code.length cc, .int .i64 wh, .slice ia its.length ic, .slice ga gr.length gc, .int .i64 li, .bool ag]) := (Blk.new w1 _ _).alloc _
  have hB2 : Hid (Blk ((w1.alloc (.cells #[.int .i64 nc, .slice ca code.length cc, .int .i64 wh, .slice ia its.length ic, .slice ga gr.length gc, .int .i64 li, .bool ag] 81)).alloc (.cells #[.int .i64 n, .slice a cs.length cap] 66)) (w1.heap.size + 1) 66 [.int .i64 n, .slice a cs.length cap]) := blk2 w1 _ _ _ _
  have hpo := hide hs1.out.ok
  have hpn := hs1.out.nc
  replace hpn := hide hpn
  have hvv := hide hs1.out.v
  clear x1 hset
  simp only [plCells]
  go_wp2_with fail
  generalize ((w1.alloc (.cells #[.int .i64 nc, .slice ca code.length cc, .int .i64 wh, .slice ia its.length ic, .slice ga gr.length gc, .int .i64 li, .bool ag] 81)).alloc (.cells #[.int .i64 n, .slice a cs.length cap] 66)) = W1 at *
  generalize w1.heap.size = Pb at *
  refine (RefSelect ⟨nc, code, wh, its, gr, li, ag⟩ ca ia ga a cc ic gc cap cs n W1 hs1.out.pat hpo hs1.out.t hvv hpn.out).mono ?_
  rintro e w2 hh
  unfold RetSel at hh
  rw [hV.out, hS.out] at hh
  obtain ⟨S2, b2, sa, sc, rfl, hS2, oS, x2⟩ : ∃ (S2 : List Int) (b2 : Bool) (sa : Option Addr) (sc : Nat), e = .returned (.tuple #[.slice sa S2.length sc, .bool b2]) ∧ S2.length ≤ 65536 ∧ IntsAt w2 sa S2 ∧ Ext W1 w2 := by
    rcases hh with ⟨_, sa, sc, rfl, oS, x2⟩ | ⟨_, rfl, x2⟩
    · exact ⟨S, true, sa, sc, rfl, hSl, oS.ints, x2⟩
    · exact ⟨[], false, none, 0, rfl, by simp, IntsAt.nil _ _, x2⟩
  have X2 : Hid (Ext W1 w2) := x2
  replace oS := hide oS
  clear hh x2
  go_wp2_with fail
  obtain ⟨W2, hW2⟩ : ∃ W2, W2 = w2 := ⟨_, rfl⟩
  rw [← hW2] at X2 oS
  rw [← hW2]
  clear hW2
  go_loopw [14, 15] (fun v i wr => ∃ (t : Nat) (z : Nat), Hid (z = 2 * t) ∧ i = .int .i64 z ∧ z ≤ S2.length + 1 ∧ Hid (OwnI wr W2.heap.size 3 v (halfL S2 t)) ∧ Hid (Ext W2 wr)) (fun _ i _ => S2.length + 2 - (intOf i).toNat)
  case atStart => exact ⟨0, 0, rfl, rfl, by omega, OwnI.nil _ _ _, Ext.refl W2⟩
  obtain ⟨t, z, hz, rfl, hzl, hO, hX⟩ := hrel
  by_cases hlt : z < S2.length
  · have hlt' : (z : Int) < S2.length := by omega
    obtain ⟨b1, off1, rfl, c1⟩ := (oS.out.ext hX.out) z hlt
    have hT := hide (halfL_succ S2 t)
    rw [← hz.out] at hT
    have hln : Hid ((halfL S2 t).length < 2 ^ 39) := by show _ < _; rw [halfL_len]; have := hz.out; omega
    generalize S2.getD z 0 = y at *
    generalize halfL S2 t = J at *
    have hX3 : Hid (Ext W2 (wr.alloc (.cells #[.int .i64 y] 3))) := hX.out.alloc _
    have hG3 := hide (OwnI.alloc hO.out (.cells #[.int .i64 y] 3))
    have hblk := hide (heap_alloc_new wr (.cells #[.int .i64 y] 3))
    go_wp2_with (at_builtin; refine app_int rfl rfl W2.heap.size hX3.out.size _ J y rfl hG3.out wr.heap.size 1 (by rfl) hblk.out hln.out ?_; intro g7 cap7 w7 O7 hgr7 hor7 hlt7; have hX7 : Hid (Ext W2 w7) := hX3.out.grown hgr7 (fun q hq => (World.ownsRow.lt hG3.out q hq).1); have hO7 := hide O7; clear O7 hgr7 hor7 hlt7)
    go_roundw
    case rel => exact ⟨t + 1, z + 2, by have := hz.out; show _ = _; omega, by go_num, by omega, by rw [hT.out]; exact hO7.out, hX7.out⟩
    case measure => simp [intOf]; omega
  · have hlt' : ¬ (z : Int) < S2.length := by omega
    have hhl : Hid ((halfL S2 t).length ≤ 65537) := by show _ ≤ _; rw [halfL_len]; have := hz.out; omega
    generalize halfL S2 t = J at *
    obtain ⟨pa, pc, rfl, _⟩ := hO.out.form
    have oJ := hide hO.out.ints
    have X3 : Hid (Ext W1 wr) := X2.out.trans hX.out
    (try clear q0)
    (try clear q1)
    (try clear q2)
    (try clear q3)
    (try clear q4)
    (try clear q5)
    (try clear q6)
    (try clear t0)
    (try clear t1)
    have q0 := (hB1.out.ext X3.out).box 0 _ rfl
    have q1 := (hB1.out.ext X3.out).box 1 _ rfl
    have q2 := (hB1.out.ext X3.out).box 2 _ rfl
    have q3 := (hB1.out.ext X3.out).box 3 _ rfl
    have q4 := (hB1.out.ext X3.out).box 4 _ rfl
    have q5 := (hB1.out.ext X3.out).box 5 _ rfl
    have q6 := (hB1.out.ext X3.out).box 6 _ rfl
    have t0 := (hB2.out.ext X3.out).box 0 _ rfl
    have t1 := (hB2.out.ext X3.out).box 1 _ rfl
    go_wp2_with fail
    refine (groupAgrees ⟨nc, code, wh, its, gr, li, ag⟩ ca ia ga a sa cc ic gc cap sc cs n S2 wr (hs1.out.pat.ext X3.out) hpo (hs1.out.t.ext X3.out) hvv hpn.out (oS.out.ext hX.out) (by omega)).mono ?_
    rintro e w4 ⟨rfl, x4⟩
    have X4 : Hid (Ext W1 w4) := X3.out.trans x4
    have oJ4 := hide (oJ.out.ext x4)
    clear x4
    (try clear q0)
    (try clear q1)
    (try clear q2)
    (try clear q3)
    (try clear q4)
    (try clear q5)
    (try clear q6)
    (try clear t0)
    (try clear t1)
    have q0 := (hB1.out.ext X4.out).box 0 _ rfl
    have q1 := (hB1.out.ext X4.out).box 1 _ rfl
    have q2 := (hB1.out.ext X4.out).box 2 _ rfl
    have q3 := (hB1.out.ext X4.out).box 3 _ rfl
    have q4 := (hB1.out.ext X4.out).box 4 _ rfl
    have q5 := (hB1.out.ext X4.out).box 5 _ rfl
    have q6 := (hB1.out.ext X4.out).box 6 _ rfl
    have t0 := (hB2.out.ext X4.out).box 0 _ rfl
    have t1 := (hB2.out.ext X4.out).box 1 _ rfl
    dsimp only
    go_wp2_with fail
    refine (groupAgrees ⟨nc, code, wh, its, gr, li, ag⟩ ca ia ga a pa cc ic gc cap pc cs n J w4 (hs1.out.pat.ext X4.out) hpo (hs1.out.t.ext X4.out) hvv hpn.out oJ4 hhl.out).mono ?_
    rintro e w5 ⟨rfl, x5⟩
    have X5 : Hid (Ext w w5) := (X1.out.trans X4.out).trans x5
    clear x5 q0 q1 q2 q3 q4 q5 q6 t0 t1
    dsimp only
    go_wp2
    go_ret
    exact ⟨rfl, X5.out⟩
end Go.Proofs.Ybyaaw
