/- Walk: laws.FnTop -/
import Derived.Test.YbyaawGreatResEq
import Derived.Test.YbyaawGreatEx1
import Derived.Test.YbyaawGreatGen11
namespace Go.Proofs.YbyaawGreat
open Go.RowKit
set_option maxRecDepth 100000
set_option linter.unusedVariables false
set_option linter.unusedSimpArgs false

set_option maxHeartbeats 16000000 in
theorem FnTop (zs cells ks : List Int) (qa ce ka : Option Addr) (qc cec kc : Nat) (u : Int) (w : World) (hq : Hid (BytesAt w qa zs)) (hce : Hid (IntsAt w ce cells)) (hk : Hid (BytesAt w ka ks)) (hu0 : 0 ≤ u) (hu1 : u ≤ 255) :
    Calls Yaan.prog 3 #[.slice qa zs.length qc, .slice ce cells.length cec, .int .u8 u, .slice ka ks.length kc] w (RetTrue w) := by
  by_cases l1 : 1048576 < zs.length
  · have l1' : 1048576 < (zs.length : Int) := by omega
    go_enter Yaan.func3, Yaan.ntmps3
    go_wp2
    go_ret
    exact ⟨rfl, Ext.refl w⟩
  have l1' : ¬ 1048576 < (zs.length : Int) := by omega
  by_cases l2 : 1048576 < cells.length
  · have l2' : 1048576 < (cells.length : Int) := by omega
    go_enter Yaan.func3, Yaan.ntmps3
    go_wp2
    go_ret
    exact ⟨rfl, Ext.refl w⟩
  have l2' : ¬ 1048576 < (cells.length : Int) := by omega
  by_cases l3 : 1048576 < ks.length
  · have l3' : 1048576 < (ks.length : Int) := by omega
    go_enter Yaan.func3, Yaan.ntmps3
    go_wp2
    go_ret
    exact ⟨rfl, Ext.refl w⟩
  have l3' : ¬ 1048576 < (ks.length : Int) := by omega
  obtain ⟨m, hm⟩ : ∃ m : Nat, Hid (1 + u % 8 = (m : Int)) := ⟨(1 + u % 8).toNat, by show _ = _; omega⟩
  have hm1 : 1 ≤ m := by have := hm.out; omega
  have hm8 : m ≤ 8 := by have := hm.out; omega
  have hmm : 1 + u % 8 = (m : Int) := hm.out
  go_enter Yaan.func3, Yaan.ntmps3
  go_wp2_with fail
  refine (TableOf cells ks ce ka cec kc m w hce hk (by omega) (by omega) hm1 (by omega)).mono ?_
  rintro e w1 ⟨x1, ta, tcap, ra, rcap, _, hcase⟩
  clear hmm
  rcases hcase with ⟨hn, rfl, hcols⟩ | ⟨hn, rfl⟩
  rotate_left
  · have X1 : Hid (Ext w (w1.alloc (.cells #[.int .i64 0, .slice ta 0 tcap] 26))) := x1.alloc _
    clear x1 hn
    go_wp2
    go_ret
    exact ⟨rfl, X1.out⟩
  have hcl : (tabC cells m ks).length = m := by unfold tabC; rw [colsT_len, kinds3_len]
  obtain ⟨cs, hcs⟩ : ∃ cs, Hid (tabC cells m ks = cs) := ⟨_, rfl⟩
  obtain ⟨n, hnn⟩ : ∃ n, Hid (nR cells m = n) := ⟨_, rfl⟩
  rw [hcs.out] at hcols hcl
  rw [hcs.out, hnn.out]
  replace hcl := hide hcl
  have X1 : Hid (Ext w (w1.alloc (.cells #[.int .i64 n, .slice ta cs.length tcap] 26))) := x1.alloc _
  have hC1 := hide (hcols.at.ext ((Ext.refl w1).alloc (.cells #[.int .i64 n, .slice ta cs.length tcap] 26)))
  have hB1 : Hid (Blk (w1.alloc (.cells #[.int .i64 n, .slice ta cs.length tcap] 26)) w1.heap.size 26 [.int .i64 n, .slice ta cs.length tcap]) := Blk.new w1 _ _
  have hlc : Hid (cs.length < 2 ^ 39) := by have := hcl.out; show _ < _; omega
  clear x1 hn hcols
  go_wp2_with fail
  generalize (w1.alloc (.cells #[.int .i64 n, .slice ta cs.length tcap] 26)) = W1 at *
  generalize w1.heap.size = TT at *
  refine (QueryText zs qa qc W1 (hq.out.ext X1.out) (by omega)).mono ?_
  rintro e w2 ⟨x2, l, rfl⟩
  have X2 : Hid (Ext w w2) := X1.out.trans x2
  have hC2 := hide (hC1.out.ext x2)
  have hB2 := hide (hB1.out.ext x2)
  clear x2 X1 hC1 hB1
  obtain ⟨x, hx⟩ : ∃ x, tx l = x := ⟨_, rfl⟩
  rw [hx]
  clear hx
  have t0 := hB2.out.box 0 _ rfl
  have t1 := hB2.out.box 1 _ rfl
  go_wp2_with fail
  refine (Execute x cs n ta tcap w2 hC2 hlc.out).mono ?_
  rintro e w3 ⟨x3, ⟨hr, rfl⟩ | ⟨c, xs, a, cap, hr, rfl, hi, hlen⟩⟩
  · have X3 : Hid (Ext w (w3.alloc (.cells #[.int .i64 0, .slice none 0 0] 32))) := (X2.out.trans x3).alloc _
    have hC3 := hide ((hC2.out.ext x3).ext ((Ext.refl w3).alloc (.cells #[.int .i64 0, .slice none 0 0] 32)))
    have hB3 := hide ((hB2.out.ext x3).alloc (.cells #[.int .i64 0, .slice none 0 0] 32))
    have hZ3 : Hid (Blk (w3.alloc (.cells #[.int .i64 0, .slice none 0 0] 32)) w3.heap.size 32 rsz) := Blk.new w3 _ _
    replace hr := hide hr
    clear x3 t0 t1
    have t0 := hB3.out.box 0 _ rfl
    have t1 := hB3.out.box 1 _ rfl
    go_wp2_with fail
    generalize (w3.alloc (.cells #[.int .i64 0, .slice none 0 0] 32)) = W3 at *
    generalize w3.heap.size = ZZ at *
    refine (RefExecute x cs n ta tcap W3 hC3 hlc.out).mono ?_
    rintro e w4 ⟨x4, ⟨hr2, rfl⟩ | ⟨c, xs, a, cap, hr2, rfl, hi, _⟩⟩
    · have X4 : Hid (Ext w (w4.alloc (.cells #[.int .i64 0, .slice none 0 0] 32))) := (X3.out.trans x4).alloc _
      have hZ4 := hide ((hZ3.out.ext x4).alloc (.cells #[.int .i64 0, .slice none 0 0] 32))
      have z0 := hZ4.out.box 0 _ rfl
      have z1 := hZ4.out.box 1 _ rfl
      clear x4 t0 t1 hr2
      go_wp2_with fail
      generalize (w4.alloc (.cells #[.int .i64 0, .slice none 0 0] 32)) = W4 at *
      refine (resultZero W4).mono ?_
      rintro e w5 ⟨rfl, x5⟩
      have X5 : Hid (Ext w w5) := X4.out.trans x5
      clear x5 z0 z1
      go_wp2
      go_ret
      exact ⟨rfl, X5.out⟩
    · cases hr.out.det hr2
  · replace hlen := hide hlen
    have X3 : Hid (Ext w (w3.alloc (.cells #[.int .i64 c, .slice a xs.length cap] 32))) := (X2.out.trans x3).alloc _
    have hC3 := hide ((hC2.out.ext x3).ext ((Ext.refl w3).alloc (.cells #[.int .i64 c, .slice a xs.length cap] 32)))
    have hB3 := hide ((hB2.out.ext x3).alloc (.cells #[.int .i64 c, .slice a xs.length cap] 32))
    have hZ3 : Hid (Blk (w3.alloc (.cells #[.int .i64 c, .slice a xs.length cap] 32)) w3.heap.size 32 [.int .i64 c, .slice a xs.length cap]) := Blk.new w3 _ _
    have hi3 := hide (hi.ext ((Ext.refl w3).alloc (.cells #[.int .i64 c, .slice a xs.length cap] 32)))
    replace hr := hide hr
    clear x3 t0 t1 hi
    have t0 := hB3.out.box 0 _ rfl
    have t1 := hB3.out.box 1 _ rfl
    go_wp2_with fail
    generalize (w3.alloc (.cells #[.int .i64 c, .slice a xs.length cap] 32)) = W3 at *
    generalize w3.heap.size = ZZ at *
    refine (RefExecute x cs n ta tcap W3 hC3 hlc.out).mono ?_
    rintro e w4 ⟨x4, ⟨hr2, rfl⟩ | ⟨c2, xs2, a2, cap2, hr2, rfl, hi2, _⟩⟩
    · cases hr.out.det hr2
    · have he := hr.out.det hr2
      injection he with he
      injection he with he1 he2
      subst he1
      subst he2
      have X4 : Hid (Ext w (w4.alloc (.cells #[.int .i64 c, .slice a2 xs.length cap2] 32))) := (X3.out.trans x4).alloc _
      have hZ4 := hide ((hZ3.out.ext x4).alloc (.cells #[.int .i64 c, .slice a2 xs.length cap2] 32))
      have hY4 : Hid (Blk (w4.alloc (.cells #[.int .i64 c, .slice a2 xs.length cap2] 32)) w4.heap.size 32 [.int .i64 c, .slice a2 xs.length cap2]) := Blk.new w4 _ _
      have hi4 := hide ((hi3.out.ext x4).ext ((Ext.refl w4).alloc (.cells #[.int .i64 c, .slice a2 xs.length cap2] 32)))
      have hj4 := hide (hi2.ext ((Ext.refl w4).alloc (.cells #[.int .i64 c, .slice a2 xs.length cap2] 32)))
      have z0 := hZ4.out.box 0 _ rfl
      have z1 := hZ4.out.box 1 _ rfl
      have y0 := hY4.out.box 0 _ rfl
      have y1 := hY4.out.box 1 _ rfl
      clear x4 t0 t1 hr2 hi2
      go_wp2_with fail
      generalize (w4.alloc (.cells #[.int .i64 c, .slice a2 xs.length cap2] 32)) = W4 at *
      refine (ResultEqual_same c xs a a2 cap cap2 W4 hi4 hj4 hlen.out).mono ?_
      rintro e w5 ⟨rfl, x5⟩
      have X5 : Hid (Ext w w5) := X4.out.trans x5
      clear x5 z0 z1 y0 y1
      go_wp2
      go_ret
      exact ⟨rfl, X5.out⟩
end Go.Proofs.YbyaawGreat
