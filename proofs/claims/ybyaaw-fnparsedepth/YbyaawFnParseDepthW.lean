/- Walk: laws.FnParseDepth -/
import Derived.Test.YbyaawDepPc
import Derived.Test.YbyaawDep2
import Derived.Test.YbyaawParseAg
namespace Go.Proofs.Ybyaaw
open Go.RowKit
set_option maxRecDepth 100000
set_option linter.unusedVariables false

/-- What the plain law says of the two texts. -/
def DL (n k : Nat) (xw xp : ByteArray) : Prop := ∀ rp rw, Pq xp rp → Pq xw rw → (rw = none ∧ (rp = none ∨ 4096 < n ∨ 65536 < xw.size)) ∨
    ∃ qp qw e N, rp = some qp ∧ rw = some qw ∧ n ≤ 4096 ∧ xw.size ≤ 65536 ∧ (N : List Nd).length = e + 1 ∧ qp.its = [(0, (e : Int))] ∧ qw.its = [(0, ((e + k : Nat) : Int))] ∧
      qw.nd.length = qp.nd.length + k ∧ (∃ f, qp.nd = N ++ f) ∧ ∃ f, qw.nd = N ++ f
def RetL (n : Nat) (w : World) : Ending → World → Prop := fun en w' => ∃ (k l : Nat) (xw xp : ByteArray), k ≤ n ∧ l ≤ n ∧ DL n (k + l) xw xp ∧ Ext w w' ∧ en = .returned (.tuple #[.string xw, .string xp, .int .i64 k, .int .i64 l])
theorem DepthTextL (n : Nat) (hn : n ≤ 65535) (zs : List Int) (a : Option Addr) (c : Nat) (w : World) (h : Hid (BytesAt w a zs)) (hzl : zs.length ≤ 1048576) : Calls Yaan.prog 24 #[.int .i64 n, .slice a zs.length c] w (RetL n w) := by
  refine (DepthText n hn zs a c w h hzl).mono ?_
  rintro e w' ⟨t0, ps, m, hf, hm, hx, rfl⟩
  refine ⟨_, _, _, _, by omega, by omega, fun rp rw hp hw => ?_, hx, rfl⟩
  rw [tx_size]
  rcases depth_law hf n m hm rp rw hp hw with h | ⟨qp, qw, x, N, h1, h2, h3, h4, h5, h6, h7, h8, h9, h10, h11⟩
  · exact .inl h
  · refine .inr ⟨qp, qw, x.toNat, N, h1, h2, h3, h4, by omega, ?_, ?_, h9, h10, h11⟩
    · rw [h7, show ((x.toNat : Nat) : Int) = x by omega]
    · rw [h8, show ((x.toNat + ((n + 1) / 3 + n / 3) : Nat) : Int) = x + (((n + 1) / 3 + n / 3 : Nat) : Int) by omega]
theorem OwnN.has {w : World} {base : Nat} {e : TypeId} {a : Option Addr} {n cap : Nat} {ns : List Nd} (h : OwnN w base e (.slice a n cap) ns) (hn : 0 < ns.length) : (∃ g, a = some ⟨g, 0, none⟩) ∧ ns.length ≤ cap ∧ cap ≤ maxLen := by
  have hl := OwnV.len h
  obtain ⟨a', cap', e', hc⟩ := h.form
  injection e' with e1 e2 e3
  subst e1 e3
  rcases hc with ⟨rfl, rfl, h0⟩ | ⟨g, rfl⟩
  · omega
  · obtain ⟨_, _, _, h1, h2⟩ := OwnV.blk h
    rw [nodeRows_len] at h1
    exact ⟨⟨g, rfl⟩, h1, h2⟩
theorem NodesAt.pre {w : World} {a : Option Addr} {N f : List Nd} (h : NodesAt w a (N ++ f)) : NodesAt w a N := by
  intro i hi
  rw [nodeRows_len] at hi
  obtain ⟨b, off, e, hc⟩ := h i (by rw [nodeRows_len, List.length_append]; omega)
  refine ⟨b, off, e, ?_⟩
  rw [nodeRows_at _ i (by rw [List.length_append]; omega)] at hc
  rw [nodeRows_at _ i hi]
  have e2 : (N ++ f).getD i nd0 = N.getD i nd0 := by simp [List.getElem?_append_left hi]
  rw [e2] at hc
  exact hc
theorem NodesAt.pre2 {w : World} {a : Option Addr} {M N f : List Nd} (h : NodesAt w a M) (e : M = N ++ f) : NodesAt w a N := by subst e; exact h.pre

set_option maxHeartbeats 8000000 in
theorem FnParseDepth (n : Nat) (hn : n ≤ 65535) (zs : List Int) (a : Option Addr) (c : Nat) (w : World) (h : Hid (BytesAt w a zs)) :
    Calls Yaan.prog 5 #[.int .u16 n, .slice a zs.length c] w (RetTrue w) := by
  by_cases hz : 1048576 < zs.length
  · have hz' : 1048576 < (zs.length : Int) := by omega
    go_enter Yaan.func5, Yaan.ntmps5
    go_wp2
    go_ret
    exact ⟨rfl, Ext.refl w⟩
  · have hz' : ¬ 1048576 < (zs.length : Int) := by omega
    go_enter Yaan.func5, Yaan.ntmps5
    go_wp2_with fail
    refine (DepthTextL n hn zs a c w h (by omega)).mono ?_
    rintro e w1 ⟨k, l, xw, xp, hk, hl, dl, x1, rfl⟩
    replace dl := hide dl
    have X1 : Hid (Ext w w1) := x1
    clear x1 hz hz' h
    go_wp2_with fail
    refine (parseAgrees xw w1).mono ?_
    rintro e w2 ⟨rfl, x2⟩
    have X2 : Hid (Ext w w2) := X1.out.trans x2
    clear x2 X1
    go_wp2_with fail
    refine (RefParse xp w2).mono ?_
    rintro e w3 ⟨x3, ⟨hp, rfl⟩ | ⟨q, ia, na, ga, ic, nc, gc, hp, rfl, hq⟩⟩
    · replace hp := hide hp
      have X1 : Hid (Ext w (w3.alloc (.cells #[.slice none 0 0, .slice none 0 0, .int .i64 0, .slice none 0 0, .int .i64 0] 36))) := (X2.out.trans x3).alloc _
      clear x3 X2
      simp only [qz]
      go_wp2_with fail
      generalize w3.alloc (.cells #[.slice none 0 0, .slice none 0 0, .int .i64 0, .slice none 0 0, .int .i64 0] 36) = W1 at *
      refine (Parse xw W1).mono ?_
      rintro e w4 ⟨x4, ⟨hp2, rfl⟩ | ⟨q, ja, ma, ha, jc, mc, hc, hp2, rfl, hq⟩⟩
      · have X3 : Hid (Ext w (w4.alloc (.cells #[.slice none 0 0, .slice none 0 0, .int .i64 0, .slice none 0 0, .int .i64 0] 36))) := (X1.out.trans x4).alloc _
        clear x4 hp2
        simp only [qz]
        go_wp2
        go_ret
        exact ⟨rfl, X3.out⟩
      · rcases dl.out _ _ hp.out hp2 with ⟨hh, _⟩ | ⟨_, _, _, _, hh, _⟩
        · cases hh
        · cases hh
    · replace hp := hide hp
      obtain ⟨its, nd, wh, gr, li⟩ := q
      have X1 : Hid (Ext w (w3.alloc (.cells #[.slice ia its.length ic, .slice na nd.length nc, .int .i64 wh, .slice ga gr.length gc, .int .i64 li] 36))) := (X2.out.trans x3).alloc _
      have b1 : Hid (Box (w3.alloc (.cells #[.slice ia its.length ic, .slice na nd.length nc, .int .i64 wh, .slice ga gr.length gc, .int .i64 li] 36)) w3.heap.size [.slice ia its.length ic, .slice na nd.length nc, .int .i64 wh, .slice ga gr.length gc, .int .i64 li]) := Box.new w3 _ _
      have q1 := hide (hq.at.ext ((Ext.refl w3).alloc (.cells #[.slice ia its.length ic, .slice na nd.length nc, .int .i64 wh, .slice ga gr.length gc, .int .i64 li] 36)))
      have has1 := hide (OwnN.has hq.nd)
      clear x3 hq X2
      simp only [qCells]
      go_wp2_with fail
      generalize (w3.alloc (.cells #[.slice ia its.length ic, .slice na nd.length nc, .int .i64 wh, .slice ga gr.length gc, .int .i64 li] 36)) = W1 at *
      refine (Parse xw W1).mono ?_
      rintro e w4 ⟨x4, ⟨hp2, rfl⟩ | ⟨q, ja, ma, ha, jc, mc, hc, hp2, rfl, hq⟩⟩
      · have X3 : Hid (Ext w (w4.alloc (.cells #[.slice none 0 0, .slice none 0 0, .int .i64 0, .slice none 0 0, .int .i64 0] 36))) := (X1.out.trans x4).alloc _
        clear x4
        simp only [qz]
        rcases dl.out _ _ hp.out hp2 with ⟨_, hh | hh | hh⟩ | ⟨_, _, _, _, _, hh, _⟩
        · cases hh
        · have hd : ¬ (n : Int) ≤ 4096 := by omega
          clear hh hp2 hk hl has1
          go_wp2
          go_ret
          exact ⟨rfl, X3.out⟩
        · have hd : ¬ (xw.size : Int) ≤ 65536 := by omega
          clear hh hp2 hk hl has1
          by_cases hn4 : n ≤ 4096
          · have hn5 : (n : Int) ≤ 4096 := by omega
            clear hn4
            go_wp2
            go_ret
            exact ⟨rfl, X3.out⟩
          · have hn5 : ¬ (n : Int) ≤ 4096 := by omega
            clear hn4
            go_wp2
            go_ret
            exact ⟨rfl, X3.out⟩
        · cases hh
      · rcases dl.out _ _ hp.out hp2 with ⟨hh, _⟩ | ⟨qp, qw, ei, N, hh1, hh2, hn4, hs4, hN, i1, i2, hnl, ⟨f1, n1⟩, f2, n2⟩
        · cases hh
        · cases hh1
          cases hh2
          obtain ⟨its2, nd2, wh2, gr2, li2⟩ := q
          simp only at i1 i2 hnl n1 n2
          subst i1 i2
          obtain ⟨⟨g1, rfl⟩, hc1, hm1⟩ := has1.out (by show 0 < nd.length; rw [n1, List.length_append]; omega)
          obtain ⟨⟨g2, rfl⟩, hc2, hm2⟩ := OwnN.has hq.nd (by show 0 < nd2.length; rw [n2, List.length_append]; omega)
          simp only at hc2
          have X3 : Hid (Ext w (w4.alloc (.cells #[.slice ja 1 jc, .slice (some ⟨g2, 0, none⟩) nd2.length mc, .int .i64 wh2, .slice ha gr2.length hc, .int .i64 li2] 36))) := (X1.out.trans x4).alloc _
          have b2 : Hid (Box (w4.alloc (.cells #[.slice ja 1 jc, .slice (some ⟨g2, 0, none⟩) nd2.length mc, .int .i64 wh2, .slice ha gr2.length hc, .int .i64 li2] 36)) w4.heap.size [.slice ja 1 jc, .slice (some ⟨g2, 0, none⟩) nd2.length mc, .int .i64 wh2, .slice ha gr2.length hc, .int .i64 li2]) := Box.new w4 _ _
          have b3 := hide ((b1.out.ext x4).alloc (.cells #[.slice ja 1 jc, .slice (some ⟨g2, 0, none⟩) nd2.length mc, .int .i64 wh2, .slice ha gr2.length hc, .int .i64 li2] 36))
          have q2 := hide (hq.at.ext ((Ext.refl w4).alloc (.cells #[.slice ja 1 jc, .slice (some ⟨g2, 0, none⟩) nd2.length mc, .int .i64 wh2, .slice ha gr2.length hc, .int .i64 li2] 36)))
          replace q1 := hide ((q1.out.ext x4).ext ((Ext.refl w4).alloc (.cells #[.slice ja 1 jc, .slice (some ⟨g2, 0, none⟩) nd2.length mc, .int .i64 wh2, .slice ha gr2.length hc, .int .i64 li2] 36)))
          clear x4 hp2 hq has1 hp dl b1 X1
          simp only [qCells, List.length_singleton]
          have hl1 := q1.out.ln
          have hl2 := q2.out.ln
          simp only at hl1 hl2
          have p0 := b2.out 0 _ rfl
          have p1 := b2.out 1 _ rfl
          have r0 := b3.out 0 _ rfl
          have r1 := b3.out 1 _ rfl
          obtain ⟨ib, io, rfl, c1, c2⟩ := q1.out.its 0 (by simp)
          obtain ⟨jb, jo, rfl, d1, d2⟩ := q2.out.its 0 (by simp)
          have N1 : Hid (NodesAt (w4.alloc (.cells #[.slice (some ⟨jb, jo, none⟩) 1 jc, .slice (some ⟨g2, 0, none⟩) nd2.length mc, .int .i64 wh2, .slice ha gr2.length hc, .int .i64 li2] 36)) (some ⟨g1, 0, none⟩) N) := NodesAt.pre2 q1.out.nd n1
          have N2 : Hid (NodesAt (w4.alloc (.cells #[.slice (some ⟨jb, jo, none⟩) 1 jc, .slice (some ⟨g2, 0, none⟩) nd2.length mc, .int .i64 wh2, .slice ha gr2.length hc, .int .i64 li2] 36)) (some ⟨g2, 0, none⟩) N) := NodesAt.pre2 q2.out.nd n2
          have hNl : N.length ≤ nd.length := by rw [n1, List.length_append]; omega
          have hNl2 : N.length ≤ nd2.length := by rw [n2, List.length_append]; omega
          clear n1 n2 b2 b3 q1 q2
          simp only [List.getD_cons_zero, Nat.zero_mul, Nat.add_zero] at c1 c2 d1 d2
          simp only [List.length_singleton] at r0
          have hn5 : (n : Int) ≤ 4096 := by omega
          have hs5 : (xw.size : Int) ≤ 65536 := by omega
          have e1 : ((nd2.length : Int) != (nd.length : Int) + k + l) = false := by simp; omega
          obtain ⟨y, hy, e2⟩ : ∃ y : Int, ((ei + (k + l) : Nat) : Int) = y ∧ (y != (ei : Int) + k + l) = false := ⟨_, rfl, by simp; omega⟩
          rw [hy] at d2
          have hb1 : ei + 1 ≤ nc := by omega
          have hb2 : ei + 1 ≤ mc := by omega
          have hei : ei ≤ 65536 := by omega
          have hN2 : Hid (N.length = ei + 1) := hN
          have hB1 : (ei : Int) + 1 ≤ nc := by omega
          have hB2 : (ei : Int) + 1 ≤ mc := by omega
          clear hy hnl hN hNl hNl2 hc1 hc2 hn4 hs4
          go_wp2_with fail
          generalize (w4.alloc (.cells #[.slice (some ⟨jb, jo, none⟩) 1 jc, .slice (some ⟨g2, 0, none⟩) nd2.length mc, .int .i64 wh2, .slice ha gr2.length hc, .int .i64 li2] 36)) = W2 at *
          refine Dr.region_text (by kernel_rfl) ?_
          go_wp2_with fail
          have hh := NodesEqual_same N (some ⟨g2, 0, none⟩) (some ⟨g1, 0, none⟩) mc nc W2.drew N2.out N1.out (by have := hN2.out; omega)
          rw [hN2.out] at hh
          refine hh.mono ?_
          rintro e w5 ⟨rfl, x5⟩
          have X5 : Hid (Ext w w5) := X3.out.drew.trans x5
          clear x5
          go_wp2
          refine ⟨by rfl, ?_⟩
          go_wp2
          go_ret
          exact ⟨rfl, X5.out⟩
end Go.Proofs.Ybyaaw
