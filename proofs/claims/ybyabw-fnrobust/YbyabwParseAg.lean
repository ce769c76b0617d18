/- Walk: laws.parseAgrees -/
import Derived.Test.YbyabwImplParse
import Derived.Test.YbyabwRefParse
import Derived.Test.YbyabwQryEq
namespace Go.Proofs.Ybyabw
open Go.RowKit
set_option maxRecDepth 100000
set_option linter.unusedVariables false

set_option maxHeartbeats 4000000 in
theorem parseAgrees (x : ByteArray) (w : World) : Calls Yabn.prog 18 #[.string x] w (RetTrue w) := by
  go_enter Yabn.func18, Yabn.ntmps18
  go_wp2_with fail
  refine (Parse x w).mono ?_
  rintro e w1 ⟨x1, ⟨hp, rfl⟩ | ⟨q, ia, na, ga, ic, nc, gc, hp, rfl, hq⟩⟩
  · replace hp := hide hp
    have X1 : Hid (Ext w (w1.alloc (.cells #[.slice none 0 0, .slice none 0 0, .int .i64 0, .slice none 0 0, .int .i64 0] 96))) := x1.alloc _
    have b1 : Hid (Box (w1.alloc (.cells #[.slice none 0 0, .slice none 0 0, .int .i64 0, .slice none 0 0, .int .i64 0] 96)) w1.heap.size qz) := Box.new w1 _ _
    clear x1
    simp only [qz]
    go_wp2_with fail
    generalize (w1.alloc (.cells #[.slice none 0 0, .slice none 0 0, .int .i64 0, .slice none 0 0, .int .i64 0] 96)) = W1 at *
    refine (RefParse x W1).mono ?_
    rintro e w2 ⟨x2, ⟨hp2, rfl⟩ | ⟨q, ia, na, ga, ic, nc, gc, hp2, rfl, hq⟩⟩
    · have X2 : Hid (Ext w (w2.alloc (.cells #[.slice none 0 0, .slice none 0 0, .int .i64 0, .slice none 0 0, .int .i64 0] 96))) := (X1.out.trans x2).alloc _
      have b2 : Hid (Box (w2.alloc (.cells #[.slice none 0 0, .slice none 0 0, .int .i64 0, .slice none 0 0, .int .i64 0] 96)) w2.heap.size qz) := Box.new w2 _ _
      have b3 : Hid (Box (w2.alloc (.cells #[.slice none 0 0, .slice none 0 0, .int .i64 0, .slice none 0 0, .int .i64 0] 96)) w1.heap.size qz) := (b1.out.ext x2).alloc _
      have p0 := b2.out 0 _ rfl
      have p1 := b2.out 1 _ rfl
      have p2 := b2.out 2 _ rfl
      have p3 := b2.out 3 _ rfl
      have p4 := b2.out 4 _ rfl
      have r0 := b3.out 0 _ rfl
      have r1 := b3.out 1 _ rfl
      have r2 := b3.out 2 _ rfl
      have r3 := b3.out 3 _ rfl
      have r4 := b3.out 4 _ rfl
      clear x2 hp2
      simp only [qz]
      go_wp2_with fail
      generalize (w2.alloc (.cells #[.slice none 0 0, .slice none 0 0, .int .i64 0, .slice none 0 0, .int .i64 0] 96)) = W2 at *
      refine (QueryEqual_same q00 none none none none none none 0 0 0 0 0 0 W2 (QAt.zero _) (QAt.zero _)).mono ?_
      rintro e w3 ⟨rfl, x3⟩
      have X3 : Hid (Ext w w3) := X2.out.trans x3
      clear x3 p0 p1 p2 p3 p4 r0 r1 r2 r3 r4
      go_wp2
      go_ret
      exact ⟨rfl, X3.out⟩
    · cases hp.out.det hp2
  · replace hp := hide hp
    obtain ⟨its, nd, wh, gr, li⟩ := q
    have X1 : Hid (Ext w (w1.alloc (.cells #[.slice ia its.length ic, .slice na nd.length nc, .int .i64 wh, .slice ga gr.length gc, .int .i64 li] 96))) := x1.alloc _
    have b1 : Hid (Box (w1.alloc (.cells #[.slice ia its.length ic, .slice na nd.length nc, .int .i64 wh, .slice ga gr.length gc, .int .i64 li] 96)) w1.heap.size [.slice ia its.length ic, .slice na nd.length nc, .int .i64 wh, .slice ga gr.length gc, .int .i64 li]) := Box.new w1 _ _
    have hq1 := hide (hq.at.ext ((Ext.refl w1).alloc (.cells #[.slice ia its.length ic, .slice na nd.length nc, .int .i64 wh, .slice ga gr.length gc, .int .i64 li] 96)))
    clear x1 hq
    simp only [qCells]
    go_wp2_with fail
    generalize (w1.alloc (.cells #[.slice ia its.length ic, .slice na nd.length nc, .int .i64 wh, .slice ga gr.length gc, .int .i64 li] 96)) = W1 at *
    refine (RefParse x W1).mono ?_
    rintro e w2 ⟨x2, ⟨hp2, rfl⟩ | ⟨q, ja, ma, ha, jc, mc, hc, hp2, rfl, hq⟩⟩
    · cases hp.out.det hp2
    · cases hp.out.det hp2
      have X2 : Hid (Ext w (w2.alloc (.cells #[.slice ja its.length jc, .slice ma nd.length mc, .int .i64 wh, .slice ha gr.length hc, .int .i64 li] 96))) := (X1.out.trans x2).alloc _
      have b2 : Hid (Box (w2.alloc (.cells #[.slice ja its.length jc, .slice ma nd.length mc, .int .i64 wh, .slice ha gr.length hc, .int .i64 li] 96)) w2.heap.size [.slice ja its.length jc, .slice ma nd.length mc, .int .i64 wh, .slice ha gr.length hc, .int .i64 li]) := Box.new w2 _ _
      have b3 := hide ((b1.out.ext x2).alloc (.cells #[.slice ja its.length jc, .slice ma nd.length mc, .int .i64 wh, .slice ha gr.length hc, .int .i64 li] 96))
      have hq2 := hide (hq.at.ext ((Ext.refl w2).alloc (.cells #[.slice ja its.length jc, .slice ma nd.length mc, .int .i64 wh, .slice ha gr.length hc, .int .i64 li] 96)))
      replace hq1 := hide ((hq1.out.ext x2).ext ((Ext.refl w2).alloc (.cells #[.slice ja its.length jc, .slice ma nd.length mc, .int .i64 wh, .slice ha gr.length hc, .int .i64 li] 96)))
      have p0 := b2.out 0 _ rfl
      have p1 := b2.out 1 _ rfl
      have p2 := b2.out 2 _ rfl
      have p3 := b2.out 3 _ rfl
      have p4 := b2.out 4 _ rfl
      have r0 := b3.out 0 _ rfl
      have r1 := b3.out 1 _ rfl
      have r2 := b3.out 2 _ rfl
      have r3 := b3.out 3 _ rfl
      have r4 := b3.out 4 _ rfl
      clear x2 hp2 hq
      simp only [qCells]
      go_wp2_with fail
      generalize (w2.alloc (.cells #[.slice ja its.length jc, .slice ma nd.length mc, .int .i64 wh, .slice ha gr.length hc, .int .i64 li] 96)) = W2 at *
      refine (QueryEqual_same ⟨its, nd, wh, gr, li⟩ ia na ga ja ma ha ic nc gc jc mc hc W2 hq1 hq2).mono ?_
      rintro e w3 ⟨rfl, x3⟩
      have X3 : Hid (Ext w w3) := X2.out.trans x3
      clear x3 p0 p1 p2 p3 p4 r0 r1 r2 r3 r4
      go_wp2
      go_ret
      exact ⟨rfl, X3.out⟩
end Go.Proofs.Ybyabw
