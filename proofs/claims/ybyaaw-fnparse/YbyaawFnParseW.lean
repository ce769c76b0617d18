/- Walk: laws.FnParse -/
import Derived.Test.YbyaawPrnW2
import Derived.Test.YbyaawGen11
import Derived.Test.YbyaawParseAg
namespace Go.Proofs.Ybyaaw
open Go.RowKit
set_option maxRecDepth 100000
set_option linter.unusedVariables false

set_option maxHeartbeats 8000000 in
theorem FnParse (zs : List Int) (a : Option Addr) (c : Nat) (x : ByteArray) (w : World) (h : Hid (BytesAt w a zs)) :
    Calls Yaan.prog 4 #[.slice a zs.length c, .string x] w (RetTrue w) := by
  by_cases hz : 1048576 < zs.length
  · have hz' : 1048576 < (zs.length : Int) := by omega
    go_enter Yaan.func4, Yaan.ntmps4
    go_wp2
    go_ret
    exact ⟨rfl, Ext.refl w⟩
  · have hz' : ¬ 1048576 < (zs.length : Int) := by omega
    by_cases hs : 1048576 < x.size
    · have hs' : 1048576 < (x.size : Int) := by omega
      go_enter Yaan.func4, Yaan.ntmps4
      go_wp2
      go_ret
      exact ⟨rfl, Ext.refl w⟩
    · have hs' : ¬ 1048576 < (x.size : Int) := by omega
      go_enter Yaan.func4, Yaan.ntmps4
      go_wp2_with fail
      refine (QueryText zs a c w h (by omega)).mono ?_
      rintro e w1 ⟨x1, l, rfl⟩
      have X1 : Hid (Ext w w1) := x1
      clear x1 h
      obtain ⟨t, ht⟩ : ∃ t, tx l = t := ⟨_, rfl⟩
      rw [ht]
      clear ht
      go_wp2_with fail
      refine (parseAgrees t w1).mono ?_
      rintro e w2 ⟨rfl, x2⟩
      have X2 : Hid (Ext w w2) := X1.out.trans x2
      clear x2 X1
      go_wp2_with fail
      refine (parseAgrees x w2).mono ?_
      rintro e w3 ⟨rfl, x3⟩
      have X3 : Hid (Ext w w3) := X2.out.trans x3
      clear x3 X2
      go_wp2_with fail
      refine (RefParse t w3).mono ?_
      rintro e w4 ⟨x4, ⟨hp, rfl⟩ | ⟨q, ia, na, ga, ic, nc, gc, hp, rfl, hq⟩⟩
      · have X4 : Hid (Ext w (w4.alloc (.cells #[.slice none 0 0, .slice none 0 0, .int .i64 0, .slice none 0 0, .int .i64 0] 36))) := (X3.out.trans x4).alloc _
        clear x4 hp X3
        simp only [qz]
        go_wp2
        go_ret
        exact ⟨rfl, X4.out⟩
      · have hok := hide hp.ok
        replace hp := hide hp
        obtain ⟨its, nd, wh, gr, li⟩ := q
        have X4 : Hid (Ext w (w4.alloc (.cells #[.slice ia its.length ic, .slice na nd.length nc, .int .i64 wh, .slice ga gr.length gc, .int .i64 li] 36))) := (X3.out.trans x4).alloc _
        have b4 : Hid (Box (w4.alloc (.cells #[.slice ia its.length ic, .slice na nd.length nc, .int .i64 wh, .slice ga gr.length gc, .int .i64 li] 36)) w4.heap.size [.slice ia its.length ic, .slice na nd.length nc, .int .i64 wh, .slice ga gr.length gc, .int .i64 li]) := Box.new w4 _ _
        have hq4 := hide (hq.at.ext ((Ext.refl w4).alloc (.cells #[.slice ia its.length ic, .slice na nd.length nc, .int .i64 wh, .slice ga gr.length gc, .int .i64 li] 36)))
        have p0 := b4.out 0 _ rfl
        have p1 := b4.out 1 _ rfl
        have p2 := b4.out 2 _ rfl
        have p3 := b4.out 3 _ rfl
        have p4 := b4.out 4 _ rfl
        clear x4 hq X3
        simp only [qCells]
        go_wp2_with fail
        clear p0 p1 p2 p3 p4
        generalize (w4.alloc (.cells #[.slice ia its.length ic, .slice na nd.length nc, .int .i64 wh, .slice ga gr.length gc, .int .i64 li] 36)) = W4 at *
        refine (PrintQuery ⟨its, nd, wh, gr, li⟩ ia na ga ic nc gc W4 hq4 hok).mono ?_
        rintro e w5 ⟨rfl, x5⟩
        have X5 : Hid (Ext w w5) := X4.out.trans x5
        have b5 := hide (b4.out.ext x5)
        have hq5 := hide (hq4.out.ext x5)
        clear x5 X4 b4 hq4 hok
        obtain ⟨s, hsq⟩ : ∃ s, Hid (tx (qT ⟨its, nd, wh, gr, li⟩) = s) := ⟨_, rfl⟩
        rw [hsq.out]
        go_wp2_with fail
        refine (parseAgrees s w5).mono ?_
        rintro e w6 ⟨rfl, x6⟩
        have X6 : Hid (Ext w w6) := X5.out.trans x6
        have b6 := hide (b5.out.ext x6)
        have hq6 := hide (hq5.out.ext x6)
        clear x6 X5 b5 hq5
        go_wp2_with fail
        refine (RefParse s w6).mono ?_
        rintro e w7 ⟨x7, ⟨hp7, rfl⟩ | ⟨q2, ja, ma, ha, jc, mc, hc, hp7, rfl, _⟩⟩
        · have X7 : Hid (Ext w (w7.alloc (.cells #[.slice none 0 0, .slice none 0 0, .int .i64 0, .slice none 0 0, .int .i64 0] 36))) := (X6.out.trans x7).alloc _
          clear x7 hp7 X6 b6 hq6
          simp only [qz]
          go_wp2
          go_ret
          exact ⟨rfl, X7.out⟩
        · have hqe : q2 = ⟨its, nd, wh, gr, li⟩ := print_law hp.out (by rw [hsq.out]; exact hp7)
          subst hqe
          replace hp7 := hide hp7
          have X7 : Hid (Ext w (w7.alloc (.cells #[.slice ja its.length jc, .slice ma nd.length mc, .int .i64 wh, .slice ha gr.length hc, .int .i64 li] 36))) := (X6.out.trans x7).alloc _
          have b7 := hide ((b6.out.ext x7).alloc (.cells #[.slice ja its.length jc, .slice ma nd.length mc, .int .i64 wh, .slice ha gr.length hc, .int .i64 li] 36))
          have hq7 := hide ((hq6.out.ext x7).ext ((Ext.refl w7).alloc (.cells #[.slice ja its.length jc, .slice ma nd.length mc, .int .i64 wh, .slice ha gr.length hc, .int .i64 li] 36)))
          clear x7 X6 b6 hq6
          simp only [qCells]
          go_wp2_with fail
          generalize (w7.alloc (.cells #[.slice ja its.length jc, .slice ma nd.length mc, .int .i64 wh, .slice ha gr.length hc, .int .i64 li] 36)) = W7 at *
          refine (Parse s W7).mono ?_
          rintro e w8 ⟨x8, ⟨hp8, rfl⟩ | ⟨q3, ka, pa, ra, kc, pc, rc, hp8, rfl, hq8⟩⟩
          · cases hp7.out.det hp8
          · cases hp7.out.det hp8
            have X8 : Hid (Ext w (w8.alloc (.cells #[.slice ka its.length kc, .slice pa nd.length pc, .int .i64 wh, .slice ra gr.length rc, .int .i64 li] 36))) := (X7.out.trans x8).alloc _
            have b8 := hide ((b7.out.ext x8).alloc (.cells #[.slice ka its.length kc, .slice pa nd.length pc, .int .i64 wh, .slice ra gr.length rc, .int .i64 li] 36))
            have hqa := hide ((hq7.out.ext x8).ext ((Ext.refl w8).alloc (.cells #[.slice ka its.length kc, .slice pa nd.length pc, .int .i64 wh, .slice ra gr.length rc, .int .i64 li] 36)))
            have hqb := hide (hq8.at.ext ((Ext.refl w8).alloc (.cells #[.slice ka its.length kc, .slice pa nd.length pc, .int .i64 wh, .slice ra gr.length rc, .int .i64 li] 36)))
            have b9 : Hid (Box (w8.alloc (.cells #[.slice ka its.length kc, .slice pa nd.length pc, .int .i64 wh, .slice ra gr.length rc, .int .i64 li] 36)) w8.heap.size [.slice ka its.length kc, .slice pa nd.length pc, .int .i64 wh, .slice ra gr.length rc, .int .i64 li]) := Box.new w8 _ _
            have p0 := b8.out 0 _ rfl
            have p1 := b8.out 1 _ rfl
            have p2 := b8.out 2 _ rfl
            have p3 := b8.out 3 _ rfl
            have p4 := b8.out 4 _ rfl
            have r0 := b9.out 0 _ rfl
            have r1 := b9.out 1 _ rfl
            have r2 := b9.out 2 _ rfl
            have r3 := b9.out 3 _ rfl
            have r4 := b9.out 4 _ rfl
            clear x8 hq8 X7 b7 hq7
            simp only [qCells]
            go_wp2_with fail
            generalize (w8.alloc (.cells #[.slice ka its.length kc, .slice pa nd.length pc, .int .i64 wh, .slice ra gr.length rc, .int .i64 li] 36)) = W8 at *
            refine (QueryEqual_same ⟨its, nd, wh, gr, li⟩ ka pa ra ia na ga kc pc rc ic nc gc W8 hqb hqa).mono ?_
            rintro e w9 ⟨rfl, x9⟩
            have X9 : Hid (Ext w w9) := X8.out.trans x9
            clear x9 p0 p1 p2 p3 p4 r0 r1 r2 r3 r4
            go_wp2
            go_ret
            exact ⟨rfl, X9.out⟩
end Go.Proofs.Ybyaaw
