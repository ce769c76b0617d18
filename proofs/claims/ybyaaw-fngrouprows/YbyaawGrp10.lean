/- Walks: spec.GroupingEqual, laws.groupAgrees -/
import Derived.Test.YbyaawGrp9
import Derived.Test.YbyaawPlnEq
namespace Go.Proofs.Ybyaaw
open Go.RowKit
set_option maxRecDepth 100000
set_option linter.unusedVariables false
set_option linter.unusedSimpArgs false

theorem I64Eq_same (xs : List Int) (a1 a2 : Option Addr) (c1 c2 : Nat) (w : World) (h1 : IntsAt w a1 xs) (h2 : IntsAt w a2 xs) (l : xs.length < 2 ^ 39) :
    Calls Yaan.prog 29 #[.slice a1 xs.length c1, .slice a2 xs.length c2] w (RetTrue w) := by
  refine (Int64sEqual xs xs a1 a2 c1 c2 w h1 h2 (by omega) (by omega)).mono ?_
  rintro e w' ⟨b, rfl, hb, hx⟩
  obtain rfl : b = true := hb.2 rfl
  exact ⟨rfl, hx⟩
set_option maxHeartbeats 4000000 in
theorem GroupingEqual_same (wd ng : Int) (ks is : List Int) (k1 g1 k2 g2 : Option Addr) (d1 f1 d2 f2 : Nat) (w : World) (h1 : Hid (IntsAt w k1 ks)) (h2 : Hid (IntsAt w k2 ks)) (h3 : Hid (IntsAt w g1 is)) (h4 : Hid (IntsAt w g2 is)) (l1 : ks.length < 2 ^ 39) (l2 : is.length < 2 ^ 39) :
    Calls Yaan.prog 135 #[.agg #[.int .i64 wd, .int .i64 ng, .slice k1 ks.length d1, .slice g1 is.length f1], .agg #[.int .i64 wd, .int .i64 ng, .slice k2 ks.length d2, .slice g2 is.length f2]] w (RetTrue w) := by
  have hbA : Hid (Box ((w.alloc (.cells #[.int .i64 wd, .int .i64 ng, .slice k1 ks.length d1, .slice g1 is.length f1] 181)).alloc (.cells #[.int .i64 wd, .int .i64 ng, .slice k2 ks.length d2, .slice g2 is.length f2] 181)) w.heap.size [.int .i64 wd, .int .i64 ng, .slice k1 ks.length d1, .slice g1 is.length f1]) := (Box.new w _ _).alloc _
  have hbB : Hid (Box ((w.alloc (.cells #[.int .i64 wd, .int .i64 ng, .slice k1 ks.length d1, .slice g1 is.length f1] 181)).alloc (.cells #[.int .i64 wd, .int .i64 ng, .slice k2 ks.length d2, .slice g2 is.length f2] 181)) (w.heap.size + 1) [.int .i64 wd, .int .i64 ng, .slice k2 ks.length d2, .slice g2 is.length f2]) := by
    have := Box.new (w.alloc (.cells #[.int .i64 wd, .int .i64 ng, .slice k1 ks.length d1, .slice g1 is.length f1] 181)) #[.int .i64 wd, .int .i64 ng, .slice k2 ks.length d2, .slice g2 is.length f2] 181
    exact hide (by simpa using this)
  have hx0 : Hid (Ext w ((w.alloc (.cells #[.int .i64 wd, .int .i64 ng, .slice k1 ks.length d1, .slice g1 is.length f1] 181)).alloc (.cells #[.int .i64 wd, .int .i64 ng, .slice k2 ks.length d2, .slice g2 is.length f2] 181))) := ((Ext.refl w).alloc _).alloc _
  have en : (wd == wd) = true := by simp
  have ew : (ng == ng) = true := by simp
  have a0 := hbA.out 0 _ rfl
  have b0 := hbB.out 0 _ rfl
  have a1 := hbA.out 1 _ rfl
  have b1 := hbB.out 1 _ rfl
  have a2 := hbA.out 2 _ rfl
  have b2 := hbB.out 2 _ rfl
  go_enter Yaan.func135, Yaan.ntmps135
  go_wp2_with fail
  generalize ((w.alloc (.cells #[.int .i64 wd, .int .i64 ng, .slice k1 ks.length d1, .slice g1 is.length f1] 181)).alloc (.cells #[.int .i64 wd, .int .i64 ng, .slice k2 ks.length d2, .slice g2 is.length f2] 181)) = W at *
  refine (I64Eq_same ks k1 k2 d1 d2 W (h1.out.ext hx0.out) (h2.out.ext hx0.out) (by omega)).mono ?_
  rintro e w1 ⟨rfl, x1⟩
  clear a0 b0 a1 b1 a2 b2
  have X1 : Hid (Ext W w1) := x1
  have a3 := (hbA.out.ext X1.out) 3 _ rfl
  have b3 := (hbB.out.ext X1.out) 3 _ rfl
  clear x1
  go_wp2_with fail
  refine (IntsEq_same is g1 g2 f1 f2 w1 (h3.out.ext (hx0.out.trans X1.out)) (h4.out.ext (hx0.out.trans X1.out)) (by omega)).mono ?_
  rintro e w2 ⟨rfl, x2⟩
  have X2 : Hid (Ext W w2) := X1.out.trans x2
  clear x2
  go_wp2
  go_ret
  exact ⟨rfl, hx0.out.trans X2.out⟩
end Go.Proofs.Ybyaaw
