/- Walk: laws.groupAgrees -/
import Derived.Test.YbyaawGrp10
import Derived.Test.YbyaawMut
namespace Go.Proofs.Ybyaaw
open Go.RowKit
set_option maxRecDepth 100000
set_option linter.unusedVariables false
set_option linter.unusedSimpArgs false

set_option maxHeartbeats 8000000 in
theorem groupAgrees (p : Pl) (ca ia ga a sa : Option Addr) (cc ic gc cap sc : Nat) (cs : List Col) (n : Nat) (sel : List Int) (w : World) (hp : Hid (PAt w p ca ia ga)) (hok : Hid (PlOK p)) (ht : Hid (ColsAt w a cs)) (hv : Hid (ValidT cs n)) (hnc : p.nc = cs.length) (hs : Hid (IntsAt w sa sel)) (hsl : sel.length ≤ 65537) :
    Calls Yaan.prog 61 #[.agg (plCells p ca ia ga cc ic gc).toArray, .agg #[.int .i64 n, .slice a cs.length cap], .slice sa sel.length sc] w (RetTrue w) := by
  obtain ⟨C, hC⟩ : ∃ C, Hid (GrOK p cs.length n sel = C) := ⟨_, rfl⟩
  have hbd : Hid (C → (gKeys p.gr (rowT cs) sel).flatten.length < 2 ^ 39) := fun h => by
    rw [← hC.out] at h
    have h1 := cost_gr h.1 h.2
    have h2 := grK_law (K := keyJ p.gr (rowT cs) sel) (w := p.gr.length) (keyJ_len p.gr (rowT cs) sel) sel.length
    have h3 : (gKeys p.gr (rowT cs) sel).flatten.length = (gKeys p.gr (rowT cs) sel).length * p.gr.length := flat_len _ (fun d hd => h2.1.len d hd)
    have h4 : (gKeys p.gr (rowT cs) sel).length * p.gr.length ≤ sel.length * p.gr.length := Nat.mul_le_mul_right _ h2.2.2
    omega
  obtain ⟨nc, code, wh, its, gr, li, ag⟩ := p
  have hB1 : Hid (Blk ((w.alloc (.cells #[.int .i64 nc, .slice ca code.length cc, .int .i64 wh, .slice ia its.length ic, .slice ga gr.length gc, .int .i64 li, .bool ag] 81)).alloc (.cells #[.int .i64 n, .slice a cs.length cap] 66)) w.heap.size 81 [.int .i64 nc, .slice ca code.length cc, .int .i64 wh, .slice ia its.length ic, .slice ga gr.length gc, .int .i64 li, .bool ag]) := (Blk.new w _ _).alloc _
  have hB2 : Hid (Blk ((w.alloc (.cells #[.int .i64 nc, .slice ca code.length cc, .int .i64 wh, .slice ia its.length ic, .slice ga gr.length gc, .int .i64 li, .bool ag] 81)).alloc (.cells #[.int .i64 n, .slice a cs.length cap] 66)) (w.heap.size + 1) 66 [.int .i64 n, .slice a cs.length cap]) := blk2 w _ _ _ _
  have hX : Hid (Ext w ((w.alloc (.cells #[.int .i64 nc, .slice ca code.length cc, .int .i64 wh, .slice ia its.length ic, .slice ga gr.length gc, .int .i64 li, .bool ag] 81)).alloc (.cells #[.int .i64 n, .slice a cs.length cap] 66))) := ((Ext.refl w).alloc _).alloc _
  replace hnc := hide hnc
  simp only [plCells]
  go_enter Yaan.func61, Yaan.ntmps61
  go_wp2_with fail
  generalize ((w.alloc (.cells #[.int .i64 nc, .slice ca code.length cc, .int .i64 wh, .slice ia its.length ic, .slice ga gr.length gc, .int .i64 li, .bool ag] 81)).alloc (.cells #[.int .i64 n, .slice a cs.length cap] 66)) = W at *
  generalize w.heap.size = Pb at *
  refine (GroupRows ⟨nc, code, wh, its, gr, li, ag⟩ ca ia ga a sa cc ic gc cap sc cs n sel W (hp.out.ext hX.out) hok (ht.out.ext hX.out) hv hnc.out (hs.out.ext hX.out) hsl).mono ?_
  rintro e w1 ⟨x1, hh⟩
  rw [hC.out] at hh
  rcases hh with ⟨c, k1, g1, d1, f1, rfl, hO⟩ | ⟨c, rfl⟩
  · have hks := hide (hbd.out c)
    have X1 : Hid (Ext W w1) := x1
    have o1 := hide (OwnI.ints hO.keys)
    have o2 := hide (OwnI.ints hO.gid)
    have hil := hide (gIds_len gr (rowT cs) sel)
    simp only [gpCells]
    (try simp only at hks)
    obtain ⟨KS, hKS⟩ : ∃ KS, Hid ((gKeys gr (rowT cs) sel).flatten = KS) := ⟨_, rfl⟩
    obtain ⟨NG, hNG⟩ : ∃ NG, Hid (gNum gr (rowT cs) sel = NG) := ⟨_, rfl⟩
    obtain ⟨IS, hIS⟩ : ∃ IS, Hid (gIds gr (rowT cs) sel = IS) := ⟨_, rfl⟩
    rw [hKS.out] at o1 hks
    rw [hIS.out] at o2 hil
    rw [hKS.out, hNG.out]
    clear x1 hO
    have X2 : Hid (Ext W (w1.alloc (.cells #[.int .i64 gr.length, .int .i64 NG, .slice k1 KS.length d1, .slice g1 sel.length f1] 181))) := X1.out.alloc _
    have hA : Hid (Blk (w1.alloc (.cells #[.int .i64 gr.length, .int .i64 NG, .slice k1 KS.length d1, .slice g1 sel.length f1] 181)) w1.heap.size 181 [.int .i64 gr.length, .int .i64 NG, .slice k1 KS.length d1, .slice g1 sel.length f1]) := Blk.new w1 _ _
    have o12 := hide (o1.out.ext ((Ext.refl w1).alloc (.cells #[.int .i64 gr.length, .int .i64 NG, .slice k1 KS.length d1, .slice g1 sel.length f1] 181)))
    have o22 := hide (o2.out.ext ((Ext.refl w1).alloc (.cells #[.int .i64 gr.length, .int .i64 NG, .slice k1 KS.length d1, .slice g1 sel.length f1] 181)))
    clear o1 o2
    (try clear q0)
    (try clear q1)
    (try clear q2)
    (try clear q3)
    (try clear q4)
    (try clear q5)
    (try clear q6)
    (try clear t0)
    (try clear t1)
    have q0 := (hB1.out.ext X2.out).box 0 _ rfl
    have q1 := (hB1.out.ext X2.out).box 1 _ rfl
    have q2 := (hB1.out.ext X2.out).box 2 _ rfl
    have q3 := (hB1.out.ext X2.out).box 3 _ rfl
    have q4 := (hB1.out.ext X2.out).box 4 _ rfl
    have q5 := (hB1.out.ext X2.out).box 5 _ rfl
    have q6 := (hB1.out.ext X2.out).box 6 _ rfl
    have t0 := (hB2.out.ext X2.out).box 0 _ rfl
    have t1 := (hB2.out.ext X2.out).box 1 _ rfl
    go_wp2_with fail
    generalize (w1.alloc (.cells #[.int .i64 gr.length, .int .i64 NG, .slice k1 KS.length d1, .slice g1 sel.length f1] 181)) = W2 at *
    generalize w1.heap.size = Ab at *
    refine (RefGroupRows ⟨nc, code, wh, its, gr, li, ag⟩ ca ia ga a sa cc ic gc cap sc cs n sel W2 (hp.out.ext (hX.out.trans X2.out)) hok (ht.out.ext (hX.out.trans X2.out)) hv hnc.out (hs.out.ext (hX.out.trans X2.out)) hsl).mono ?_
    rintro e w3 ⟨x3, hh⟩
    rw [hC.out] at hh
    rcases hh with ⟨_, k2, g2, d2, f2, rfl, hO⟩ | ⟨c', rfl⟩
    · have X3 : Hid (Ext W2 w3) := x3
      have p1 := hide (OwnI.ints hO.keys)
      have p2 := hide (OwnI.ints hO.gid)
      simp only [gpCells]
      rw [hKS.out] at p1
      rw [hIS.out] at p2
      rw [hKS.out, hNG.out]
      clear x3 hO q0 q1 q2 q3 q4 q5 q6 t0 t1
      have X4 : Hid (Ext W2 (w3.alloc (.cells #[.int .i64 gr.length, .int .i64 NG, .slice k2 KS.length d2, .slice g2 sel.length f2] 181))) := X3.out.alloc _
      have hA4 := hide (hA.out.ext X4.out)
      have hB4 : Hid (Blk (w3.alloc (.cells #[.int .i64 gr.length, .int .i64 NG, .slice k2 KS.length d2, .slice g2 sel.length f2] 181)) w3.heap.size 181 [.int .i64 gr.length, .int .i64 NG, .slice k2 KS.length d2, .slice g2 sel.length f2]) := Blk.new w3 _ _
      have a0 := hA4.out.box 0 _ rfl
      have a1 := hA4.out.box 1 _ rfl
      have a2 := hA4.out.box 2 _ rfl
      have a3 := hA4.out.box 3 _ rfl
      have b0 := hB4.out.box 0 _ rfl
      have b1 := hB4.out.box 1 _ rfl
      have b2 := hB4.out.box 2 _ rfl
      have b3 := hB4.out.box 3 _ rfl
      go_wp2_with fail
      have hgq := GroupingEqual_same gr.length NG KS IS k1 g1 k2 g2 d1 f1 d2 f2 (w3.alloc (.cells #[.int .i64 gr.length, .int .i64 NG, .slice k2 KS.length d2, .slice g2 sel.length f2] 181)) (o12.out.ext X4.out) (p1.out.ext ((Ext.refl w3).alloc (.cells #[.int .i64 gr.length, .int .i64 NG, .slice k2 KS.length d2, .slice g2 sel.length f2] 181))) (o22.out.ext X4.out) (p2.out.ext ((Ext.refl w3).alloc (.cells #[.int .i64 gr.length, .int .i64 NG, .slice k2 KS.length d2, .slice g2 sel.length f2] 181))) hks.out (by rw [hil.out]; omega)
      rw [hil.out] at hgq
      refine hgq.mono ?_
      clear hgq
      rintro e w5 ⟨rfl, x5⟩
      have X5 : Hid (Ext w w5) := (hX.out.trans X2.out).trans (X4.out.trans x5)
      clear x5 a0 a1 a2 a3 b0 b1 b2 b3
      dsimp only
      go_wp2
      go_ret
      exact ⟨rfl, X5.out⟩
    · exact absurd c c'
  · have X1 : Hid (Ext W w1) := x1
    simp only [gpz]
    clear x1
    have X2 : Hid (Ext W (w1.alloc (.cells #[.int .i64 0, .int .i64 0, .slice none 0 0, .slice none 0 0] 181))) := X1.out.alloc _
    have hA : Hid (Blk (w1.alloc (.cells #[.int .i64 0, .int .i64 0, .slice none 0 0, .slice none 0 0] 181)) w1.heap.size 181 gpz) := Blk.new w1 _ _
    (try clear q0)
    (try clear q1)
    (try clear q2)
    (try clear q3)
    (try clear q4)
    (try clear q5)
    (try clear q6)
    (try clear t0)
    (try clear t1)
    have q0 := (hB1.out.ext X2.out).box 0 _ rfl
    have q1 := (hB1.out.ext X2.out).box 1 _ rfl
    have q2 := (hB1.out.ext X2.out).box 2 _ rfl
    have q3 := (hB1.out.ext X2.out).box 3 _ rfl
    have q4 := (hB1.out.ext X2.out).box 4 _ rfl
    have q5 := (hB1.out.ext X2.out).box 5 _ rfl
    have q6 := (hB1.out.ext X2.out).box 6 _ rfl
    have t0 := (hB2.out.ext X2.out).box 0 _ rfl
    have t1 := (hB2.out.ext X2.out).box 1 _ rfl
    go_wp2_with fail
    generalize (w1.alloc (.cells #[.int .i64 0, .int .i64 0, .slice none 0 0, .slice none 0 0] 181)) = W2 at *
    generalize w1.heap.size = Ab at *
    refine (RefGroupRows ⟨nc, code, wh, its, gr, li, ag⟩ ca ia ga a sa cc ic gc cap sc cs n sel W2 (hp.out.ext (hX.out.trans X2.out)) hok (ht.out.ext (hX.out.trans X2.out)) hv hnc.out (hs.out.ext (hX.out.trans X2.out)) hsl).mono ?_
    rintro e w3 ⟨x3, hh⟩
    rw [hC.out] at hh
    rcases hh with ⟨c', _⟩ | ⟨_, rfl⟩
    · exact absurd c' c
    · have X3 : Hid (Ext W2 w3) := x3
      simp only [gpz]
      clear x3 q0 q1 q2 q3 q4 q5 q6 t0 t1
      have X4 : Hid (Ext W2 (w3.alloc (.cells #[.int .i64 0, .int .i64 0, .slice none 0 0, .slice none 0 0] 181))) := X3.out.alloc _
      have hA4 := hide (hA.out.ext X4.out)
      have hB4 : Hid (Blk (w3.alloc (.cells #[.int .i64 0, .int .i64 0, .slice none 0 0, .slice none 0 0] 181)) w3.heap.size 181 gpz) := Blk.new w3 _ _
      have a0 := hA4.out.box 0 _ rfl
      have a1 := hA4.out.box 1 _ rfl
      have a2 := hA4.out.box 2 _ rfl
      have a3 := hA4.out.box 3 _ rfl
      have b0 := hB4.out.box 0 _ rfl
      have b1 := hB4.out.box 1 _ rfl
      have b2 := hB4.out.box 2 _ rfl
      have b3 := hB4.out.box 3 _ rfl
      go_wp2_with fail
      refine (GroupingEqual_same 0 0 [] [] none none none none 0 0 0 0 (w3.alloc (.cells #[.int .i64 0, .int .i64 0, .slice none 0 0, .slice none 0 0] 181)) (IntsAt.nil _ _) (IntsAt.nil _ _) (IntsAt.nil _ _) (IntsAt.nil _ _) (by simp) (by simp)).mono ?_
      rintro e w5 ⟨rfl, x5⟩
      have X5 : Hid (Ext w w5) := (hX.out.trans X2.out).trans (X4.out.trans x5)
      clear x5 a0 a1 a2 a3 b0 b1 b2 b3
      dsimp only
      go_wp2
      go_ret
      exact ⟨rfl, X5.out⟩
end Go.Proofs.Ybyaaw
