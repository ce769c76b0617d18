/- Walk: laws.FnEncodingIndependent -/
import Derived.Test.YbyaawGreatEncP
import Derived.Test.YbyaawGreatGen11
namespace Go.Proofs.YbyaawGreat
open Go.RowKit
set_option maxRecDepth 100000
set_option linter.unusedVariables false
set_option linter.unusedSimpArgs false

set_option maxHeartbeats 32000000 in
theorem FnEncodingIndependent (zs cells ks js ps : List Int) (qa ce ka ja pa0 : Option Addr) (qc cec kc jc pc0 : Nat) (u : Int) (w : World) (hq : Hid (BytesAt w qa zs)) (hce : Hid (IntsAt w ce cells)) (hk : Hid (BytesAt w ka ks)) (hj : Hid (BytesAt w ja js)) (hps : Hid (BytesAt w pa0 ps)) (hu0 : 0 ≤ u) (hu1 : u ≤ 255) :
    Calls Yaan.prog 4 #[.slice qa zs.length qc, .slice ce cells.length cec, .int .u8 u, .slice ka ks.length kc, .slice ja js.length jc, .slice pa0 ps.length pc0] w (RetTrue w) := by
  by_cases l1 : 1048576 < zs.length
  · have l1' : 1048576 < (zs.length : Int) := by omega
    go_enter Yaan.func4, Yaan.ntmps4
    go_wp2
    go_ret
    exact ⟨rfl, Ext.refl w⟩
  have l1' : ¬ 1048576 < (zs.length : Int) := by omega
  by_cases l2 : 1048576 < cells.length
  · have l2' : 1048576 < (cells.length : Int) := by omega
    go_enter Yaan.func4, Yaan.ntmps4
    go_wp2
    go_ret
    exact ⟨rfl, Ext.refl w⟩
  have l2' : ¬ 1048576 < (cells.length : Int) := by omega
  by_cases l3 : 1048576 < ks.length
  · have l3' : 1048576 < (ks.length : Int) := by omega
    go_enter Yaan.func4, Yaan.ntmps4
    go_wp2
    go_ret
    exact ⟨rfl, Ext.refl w⟩
  have l3' : ¬ 1048576 < (ks.length : Int) := by omega
  by_cases l4 : 1048576 < js.length
  · have l4' : 1048576 < (js.length : Int) := by omega
    go_enter Yaan.func4, Yaan.ntmps4
    go_wp2
    go_ret
    exact ⟨rfl, Ext.refl w⟩
  have l4' : ¬ 1048576 < (js.length : Int) := by omega
  by_cases l5 : 1048576 < ps.length
  · have l5' : 1048576 < (ps.length : Int) := by omega
    go_enter Yaan.func4, Yaan.ntmps4
    go_wp2
    go_ret
    exact ⟨rfl, Ext.refl w⟩
  have l5' : ¬ 1048576 < (ps.length : Int) := by omega
  obtain ⟨m, hm⟩ : ∃ m : Nat, Hid (1 + u % 8 = (m : Int)) := ⟨(1 + u % 8).toNat, by show _ = _; omega⟩
  have hm1 : 1 ≤ m := by have := hm.out; omega
  have hm8 : m ≤ 8 := by have := hm.out; omega
  have hmm : 1 + u % 8 = (m : Int) := hm.out
  go_enter Yaan.func4, Yaan.ntmps4
  go_wp2_with fail
  refine (TableOf cells ks ce ka cec kc m w hce hk (by omega) (by omega) hm1 (by omega)).mono ?_
  rintro e w1 ⟨x1, ta, tcap, ra, rcap, hrows, hcase⟩
  clear hmm
  rcases hcase with ⟨hn, rfl, hcols⟩ | ⟨hn, rfl⟩
  rotate_left
  · have X1 : Hid (Ext w (w1.alloc (.cells #[.int .i64 0, .slice ta 0 tcap] 26))) := x1.alloc _
    clear x1 hrows
    replace hn := hide hn
    go_wp2_with fail
    generalize (w1.alloc (.cells #[.int .i64 0, .slice ta 0 tcap] 26)) = W1 at *
    refine (TableOf cells js ce ja cec jc m W1 (hce.out.ext X1.out) (hj.out.ext X1.out) (by omega) (by omega) hm1 (by omega)).mono ?_
    rintro e w2 ⟨x2, tb, tbc, rb, rbc, _, ⟨hn2, _, _⟩ | ⟨_, rfl⟩⟩
    · exact absurd hn2 hn.out
    have X2 : Hid (Ext w (w2.alloc (.cells #[.int .i64 0, .slice tb 0 tbc] 26))) := (X1.out.trans x2).alloc _
    clear x2
    go_wp2
    go_ret
    exact ⟨rfl, X2.out⟩
  have hcl := tabC_lenI cells m ks
  have hdl := tabC_lenI cells m js
  have hval := hide (tabC_validI cells m ks (by omega) hn)
  have hvald := hide (tabC_validI cells m js (by omega) hn)
  have hrT : Hid (rowT (tabC cells m ks) = rowT (tabC cells m js)) := rowT_same (by rw [tabC_dec _ _ _ hn, tabC_dec _ _ _ hn])
  have hperm : Hid (∀ L : List (List Int), L.Perm (listF (rowsF cells m) (nR cells m)) → ((List.range (nR cells m)).map (rowT (tabC cells m ks))).Perm ((List.range (nR cells m)).map (rowT (colsT (nR cells m) (fD L) (kinds3 ks m))))) := fun L hL => perm_rows (by omega) hn hL
  have hv3 : Hid (∀ f, ValidT (colsT (nR cells m) f (kinds3 ks m)) (nR cells m)) := fun f => colsT_validI hn (by rw [kinds3_len]; omega) (fun j hj => kinds3_ok ks m j hj)
  have hc3 : Hid (∀ f, (colsT (nR cells m) f (kinds3 ks m)).length = m) := fun f => by rw [colsT_len, kinds3_len]
  have hrlen : Hid (∀ i, i < nR cells m → (rowsF cells m i).length = m) := fun i hi => rowsF_lenI cells m i hi
  have hirow := hrows.at
  obtain ⟨cs, hcs⟩ : ∃ cs, Hid (tabC cells m ks = cs) := ⟨_, rfl⟩
  obtain ⟨ds, hds⟩ : ∃ ds, Hid (tabC cells m js = ds) := ⟨_, rfl⟩
  obtain ⟨n, hnn⟩ : ∃ n, Hid (nR cells m = n) := ⟨_, rfl⟩
  rw [hcs.out] at hcols hcl hval hrT hperm
  rw [hds.out] at hdl hvald hrT
  rw [hnn.out] at hval hvald hperm hv3 hc3 hrlen hirow hn
  rw [hcs.out, hnn.out]
  replace hcl := hide hcl
  replace hdl := hide hdl
  replace hirow := hide hirow
  have X1 : Hid (Ext w (w1.alloc (.cells #[.int .i64 n, .slice ta cs.length tcap] 26))) := x1.alloc _
  have hC1 := hide (hcols.at.ext ((Ext.refl w1).alloc (.cells #[.int .i64 n, .slice ta cs.length tcap] 26)))
  have hB1 : Hid (Blk (w1.alloc (.cells #[.int .i64 n, .slice ta cs.length tcap] 26)) w1.heap.size 26 [.int .i64 n, .slice ta cs.length tcap]) := Blk.new w1 _ _
  have hI1 := hide (hirow.out.ext ((Ext.refl w1).alloc (.cells #[.int .i64 n, .slice ta cs.length tcap] 26)))
  have hlc : Hid (cs.length < 2 ^ 39) := by have := hcl.out; show _ < _; omega
  have hld : Hid (ds.length < 2 ^ 39) := by have := hdl.out; show _ < _; omega
  clear x1 hcols hrows hirow
  have hmm : 1 + u % 8 = (m : Int) := hm.out
  go_wp2_with fail
  generalize (w1.alloc (.cells #[.int .i64 n, .slice ta cs.length tcap] 26)) = W1 at *
  generalize w1.heap.size = TT at *
  refine (TableOf cells js ce ja cec jc m W1 (hce.out.ext X1.out) (hj.out.ext X1.out) (by omega) (by omega) hm1 (by omega)).mono ?_
  rintro e w2 ⟨x2, tb, tbc, rb, rbc, _, hcase⟩
  clear hmm
  rw [hds.out, hnn.out] at hcase
  rcases hcase with ⟨_, rfl, hcols⟩ | ⟨hn2, _⟩
  rotate_left
  · exact absurd hn hn2
  have X2 : Hid (Ext w (w2.alloc (.cells #[.int .i64 n, .slice tb ds.length tbc] 26))) := (X1.out.trans x2).alloc _
  have hC2 := hide ((hC1.out.ext x2).ext ((Ext.refl w2).alloc (.cells #[.int .i64 n, .slice tb ds.length tbc] 26)))
  have hB2 := hide ((hB1.out.ext x2).alloc (.cells #[.int .i64 n, .slice tb ds.length tbc] 26))
  have hI2 := hide ((hI1.out.ext x2).ext ((Ext.refl w2).alloc (.cells #[.int .i64 n, .slice tb ds.length tbc] 26)))
  have hD2 := hide (hcols.at.ext ((Ext.refl w2).alloc (.cells #[.int .i64 n, .slice tb ds.length tbc] 26)))
  have hE2 : Hid (Blk (w2.alloc (.cells #[.int .i64 n, .slice tb ds.length tbc] 26)) w2.heap.size 26 [.int .i64 n, .slice tb ds.length tbc]) := Blk.new w2 _ _
  clear x2 X1 hC1 hB1 hI1 hcols
  go_wp2_with fail
  generalize (w2.alloc (.cells #[.int .i64 n, .slice tb ds.length tbc] 26)) = W2 at *
  generalize w2.heap.size = UU at *
  refine (QueryText zs qa qc W2 (hq.out.ext X2.out) (by omega)).mono ?_
  rintro e w3 ⟨x3, l, rfl⟩
  have X3 : Hid (Ext w w3) := X2.out.trans x3
  have hC3 := hide (hC2.out.ext x3)
  have hB3 := hide (hB2.out.ext x3)
  have hI3 := hide (hI2.out.ext x3)
  have hD3 := hide (hD2.out.ext x3)
  have hE3 := hide (hE2.out.ext x3)
  clear x3 X2 hC2 hB2 hI2 hD2 hE2
  obtain ⟨x, hx⟩ : ∃ x, tx l = x := ⟨_, rfl⟩
  rw [hx]
  clear hx
  have t0 := hB3.out.box 0 _ rfl
  have t1 := hB3.out.box 1 _ rfl
  go_wp2_with fail
  refine (Execute x cs n ta tcap w3 hC3 hlc.out).mono ?_
  rintro e w4 ⟨x4, ⟨hr1, rfl⟩ | ⟨c, xs, a1, cap1, hr1, rfl, hi1, hlen⟩⟩
  · have hr2' : Hid (Exr x ds n none) := hr1.same (by rw [hcl.out, hdl.out]) hval.out hvald.out hrT.out
    replace hr1 := hide hr1
    have X4 : Hid (Ext w (w4.alloc (.cells #[.int .i64 0, .slice none 0 0] 32))) := (X3.out.trans x4).alloc _
    have hC4 := hide ((hC3.out.ext x4).ext ((Ext.refl w4).alloc (.cells #[.int .i64 0, .slice none 0 0] 32)))
    have hB4 := hide ((hB3.out.ext x4).alloc (.cells #[.int .i64 0, .slice none 0 0] 32))
    have hD4 := hide ((hD3.out.ext x4).ext ((Ext.refl w4).alloc (.cells #[.int .i64 0, .slice none 0 0] 32)))
    have hE4 := hide ((hE3.out.ext x4).alloc (.cells #[.int .i64 0, .slice none 0 0] 32))
    have hF4 : Hid (Blk (w4.alloc (.cells #[.int .i64 0, .slice none 0 0] 32)) w4.heap.size 32 rsz) := Blk.new w4 _ _
    clear x4 t0 t1 X3 hC3 hB3 hD3 hE3 hI3
    have t0 := hE4.out.box 0 _ rfl
    have t1 := hE4.out.box 1 _ rfl
    go_wp2_with fail
    generalize (w4.alloc (.cells #[.int .i64 0, .slice none 0 0] 32)) = W4 at *
    generalize w4.heap.size = RR1 at *
    refine (Execute x ds n tb tbc W4 hD4 hld.out).mono ?_
    rintro e w5 ⟨x5, ⟨hr2, rfl⟩ | ⟨c, xs, a1, cap1, hr2, rfl, hi1, _⟩⟩
    rotate_left
    · cases hr2'.out.det hr2
    have X5 : Hid (Ext w (w5.alloc (.cells #[.int .i64 0, .slice none 0 0] 32))) := (X4.out.trans x5).alloc _
    have hC5 := hide ((hC4.out.ext x5).ext ((Ext.refl w5).alloc (.cells #[.int .i64 0, .slice none 0 0] 32)))
    have hB5 := hide ((hB4.out.ext x5).alloc (.cells #[.int .i64 0, .slice none 0 0] 32))
    have hF5 := hide ((hF4.out.ext x5).alloc (.cells #[.int .i64 0, .slice none 0 0] 32))
    have hG5 : Hid (Blk (w5.alloc (.cells #[.int .i64 0, .slice none 0 0] 32)) w5.heap.size 32 rsz) := Blk.new w5 _ _
    clear x5 t0 t1 X4 hC4 hB4 hD4 hE4 hF4 hr2
    have t0 := hB5.out.box 0 _ rfl
    have t1 := hB5.out.box 1 _ rfl
    go_wp2_with fail
    generalize (w5.alloc (.cells #[.int .i64 0, .slice none 0 0] 32)) = W5 at *
    generalize w5.heap.size = RR2 at *
    refine (RefExecute x cs n ta tcap W5 hC5 hlc.out).mono ?_
    rintro e w6 ⟨x6, ⟨hr3, rfl⟩ | ⟨c, xs, a1, cap1, hr3, rfl, hi1, _⟩⟩
    rotate_left
    · cases hr1.out.det hr3
    have X6 : Hid (Ext w (w6.alloc (.cells #[.int .i64 0, .slice none 0 0] 32))) := (X5.out.trans x6).alloc _
    have hF6 := hide ((hF5.out.ext x6).alloc (.cells #[.int .i64 0, .slice none 0 0] 32))
    have hG6 := hide ((hG5.out.ext x6).alloc (.cells #[.int .i64 0, .slice none 0 0] 32))
    clear x6 t0 t1 X5 hC5 hB5 hF5 hG5 hr3
    have z0 := hF6.out.box 0 _ rfl
    have z1 := hF6.out.box 1 _ rfl
    go_wp2_with fail
    generalize (w6.alloc (.cells #[.int .i64 0, .slice none 0 0] 32)) = W6 at *
    refine (resultZero W6).mono ?_
    rintro e w7 ⟨rfl, x7⟩
    have X7 : Hid (Ext w w7) := X6.out.trans x7
    have hG7 := hide (hG6.out.ext x7)
    clear x7 z0 z1
    have z0 := hG7.out.box 0 _ rfl
    have z1 := hG7.out.box 1 _ rfl
    dsimp only
    go_wp2_with fail
    refine (resultZero w7).mono ?_
    rintro e w8 ⟨rfl, x8⟩
    have X8 : Hid (Ext w w8) := X7.out.trans x8
    clear x8 z0 z1
    dsimp only
    go_wp2
    go_ret
    exact ⟨rfl, X8.out⟩
  · have hr2' : Hid (Exr x ds n (some (c, xs))) := hr1.same (by rw [hcl.out, hdl.out]) hval.out hvald.out hrT.out
    replace hr1 := hide hr1
    replace hlen := hide hlen
    have X4 : Hid (Ext w (w4.alloc (.cells #[.int .i64 c, .slice a1 xs.length cap1] 32))) := (X3.out.trans x4).alloc _
    have hC4 := hide ((hC3.out.ext x4).ext ((Ext.refl w4).alloc (.cells #[.int .i64 c, .slice a1 xs.length cap1] 32)))
    have hB4 := hide ((hB3.out.ext x4).alloc (.cells #[.int .i64 c, .slice a1 xs.length cap1] 32))
    have hD4 := hide ((hD3.out.ext x4).ext ((Ext.refl w4).alloc (.cells #[.int .i64 c, .slice a1 xs.length cap1] 32)))
    have hE4 := hide ((hE3.out.ext x4).alloc (.cells #[.int .i64 c, .slice a1 xs.length cap1] 32))
    have hI4 := hide ((hI3.out.ext x4).ext ((Ext.refl w4).alloc (.cells #[.int .i64 c, .slice a1 xs.length cap1] 32)))
    have hF4 : Hid (Blk (w4.alloc (.cells #[.int .i64 c, .slice a1 xs.length cap1] 32)) w4.heap.size 32 [.int .i64 c, .slice a1 xs.length cap1]) := Blk.new w4 _ _
    have i14 := hide (hi1.ext ((Ext.refl w4).alloc (.cells #[.int .i64 c, .slice a1 xs.length cap1] 32)))
    clear x4 t0 t1 X3 hC3 hB3 hD3 hE3 hI3 hi1
    have t0 := hE4.out.box 0 _ rfl
    have t1 := hE4.out.box 1 _ rfl
    go_wp2_with fail
    generalize (w4.alloc (.cells #[.int .i64 c, .slice a1 xs.length cap1] 32)) = W4 at *
    generalize w4.heap.size = RR1 at *
    refine (Execute x ds n tb tbc W4 hD4 hld.out).mono ?_
    rintro e w5 ⟨x5, ⟨hr2, rfl⟩ | ⟨c2, xs2, a2, cap2, hr2, rfl, hi2, _⟩⟩
    · cases hr2'.out.det hr2
    have he := hr2'.out.det hr2
    injection he with he
    injection he with he1 he2
    subst he1
    subst he2
    have X5 : Hid (Ext w (w5.alloc (.cells #[.int .i64 c, .slice a2 xs.length cap2] 32))) := (X4.out.trans x5).alloc _
    have hC5 := hide ((hC4.out.ext x5).ext ((Ext.refl w5).alloc (.cells #[.int .i64 c, .slice a2 xs.length cap2] 32)))
    have hB5 := hide ((hB4.out.ext x5).alloc (.cells #[.int .i64 c, .slice a2 xs.length cap2] 32))
    have hI5 := hide ((hI4.out.ext x5).ext ((Ext.refl w5).alloc (.cells #[.int .i64 c, .slice a2 xs.length cap2] 32)))
    have hF5 := hide ((hF4.out.ext x5).alloc (.cells #[.int .i64 c, .slice a2 xs.length cap2] 32))
    have hG5 : Hid (Blk (w5.alloc (.cells #[.int .i64 c, .slice a2 xs.length cap2] 32)) w5.heap.size 32 [.int .i64 c, .slice a2 xs.length cap2]) := Blk.new w5 _ _
    have i15 := hide ((i14.out.ext x5).ext ((Ext.refl w5).alloc (.cells #[.int .i64 c, .slice a2 xs.length cap2] 32)))
    have i25 := hide (hi2.ext ((Ext.refl w5).alloc (.cells #[.int .i64 c, .slice a2 xs.length cap2] 32)))
    clear x5 t0 t1 X4 hC4 hB4 hD4 hE4 hF4 hr2 hI4 i14 hi2
    have t0 := hB5.out.box 0 _ rfl
    have t1 := hB5.out.box 1 _ rfl
    go_wp2_with fail
    generalize (w5.alloc (.cells #[.int .i64 c, .slice a2 xs.length cap2] 32)) = W5 at *
    generalize w5.heap.size = RR2 at *
    refine (RefExecute x cs n ta tcap W5 hC5 hlc.out).mono ?_
    rintro e w6 ⟨x6, ⟨hr3, rfl⟩ | ⟨c3, xs3, a3, cap3, hr3, rfl, hi3, _⟩⟩
    · cases hr1.out.det hr3
    have he := hr1.out.det hr3
    injection he with he
    injection he with he1 he2
    subst he1
    subst he2
    have X6 : Hid (Ext w (w6.alloc (.cells #[.int .i64 c, .slice a3 xs.length cap3] 32))) := (X5.out.trans x6).alloc _
    have hI6 := hide ((hI5.out.ext x6).ext ((Ext.refl w6).alloc (.cells #[.int .i64 c, .slice a3 xs.length cap3] 32)))
    have hF6 := hide ((hF5.out.ext x6).alloc (.cells #[.int .i64 c, .slice a3 xs.length cap3] 32))
    have hG6 := hide ((hG5.out.ext x6).alloc (.cells #[.int .i64 c, .slice a3 xs.length cap3] 32))
    have hH6 : Hid (Blk (w6.alloc (.cells #[.int .i64 c, .slice a3 xs.length cap3] 32)) w6.heap.size 32 [.int .i64 c, .slice a3 xs.length cap3]) := Blk.new w6 _ _
    have i16 := hide ((i15.out.ext x6).ext ((Ext.refl w6).alloc (.cells #[.int .i64 c, .slice a3 xs.length cap3] 32)))
    have i26 := hide ((i25.out.ext x6).ext ((Ext.refl w6).alloc (.cells #[.int .i64 c, .slice a3 xs.length cap3] 32)))
    have i36 := hide (hi3.ext ((Ext.refl w6).alloc (.cells #[.int .i64 c, .slice a3 xs.length cap3] 32)))
    clear x6 t0 t1 X5 hC5 hB5 hF5 hG5 hr3 hI5 i15 i25 hi3
    have z0 := hF6.out.box 0 _ rfl
    have z1 := hF6.out.box 1 _ rfl
    have y0 := hH6.out.box 0 _ rfl
    have y1 := hH6.out.box 1 _ rfl
    go_wp2_with fail
    generalize (w6.alloc (.cells #[.int .i64 c, .slice a3 xs.length cap3] 32)) = W6 at *
    generalize w6.heap.size = RR3 at *
    refine (ResultEqual_same c xs a1 a3 cap1 cap3 W6 i16 i36 hlen.out).mono ?_
    rintro e w7 ⟨rfl, x7⟩
    have X7 : Hid (Ext w w7) := X6.out.trans x7
    have hI7 := hide (hI6.out.ext x7)
    have hG7 := hide (hG6.out.ext x7)
    have hH7 := hide (hH6.out.ext x7)
    have i27 := hide (i26.out.ext x7)
    have i37 := hide (i36.out.ext x7)
    clear x7 z0 z1 y0 y1 X6 hI6 hF6 hG6 hH6 i16 i26 i36
    have z0 := hG7.out.box 0 _ rfl
    have z1 := hG7.out.box 1 _ rfl
    have y0 := hH7.out.box 0 _ rfl
    have y1 := hH7.out.box 1 _ rfl
    dsimp only
    go_wp2_with fail
    refine (ResultEqual_same c xs a2 a3 cap2 cap3 w7 i27 i37 hlen.out).mono ?_
    rintro e w8 ⟨rfl, x8⟩
    have X8 : Hid (Ext w w8) := X7.out.trans x8
    have hI8 := hide (hI7.out.ext x8)
    have hH8 := hide (hH7.out.ext x8)
    have i38 := hide (i37.out.ext x8)
    clear x8 z0 z1 y0 y1 X7 hI7 hG7 hH7 i27 i37
    dsimp only
    go_wp2_with fail
    refine (RefParse x w8).mono ?_
    obtain ⟨q0, hq0, hcm, -, -, -, -⟩ := hr1.out.len
    rintro e w9 ⟨x9, ⟨hp, rfl⟩ | ⟨q, ia, na, ga, ic, nc, gc, hp, rfl, hqo⟩⟩
    · cases hp.det hq0
    have hqq := hp.det hq0
    injection hqq with hqq
    subst hqq
    have hagq : Hid (aggW q.its q.gr = true → q.li = -1 → ∀ es : List Col, es.length = cs.length → ValidT es n → ((List.range n).map (rowT cs)).Perm ((List.range n).map (rowT es)) → Exr x es n (some (c, xs))) := fun ha hl es hel hve hpe => hr1.out.perm hp ha hl hel.symm hval.out hve hpe
    have hplg : Hid ((plan q cs.length).ag = aggW q.its q.gr ∧ (plan q cs.length).li = q.li) := ⟨rfl, rfl⟩
    replace hcm := hide hcm
    obtain ⟨its, nd, wh, gr, li⟩ := q
    have X9 : Hid (Ext w (w9.alloc (.cells #[.slice ia its.length ic, .slice na nd.length nc, .int .i64 wh, .slice ga gr.length gc, .int .i64 li] 42))) := (X8.out.trans x9).alloc _
    have hI9 := hide ((hI8.out.ext x9).ext ((Ext.refl w9).alloc (.cells #[.slice ia its.length ic, .slice na nd.length nc, .int .i64 wh, .slice ga gr.length gc, .int .i64 li] 42)))
    have hH9 := hide ((hH8.out.ext x9).alloc (.cells #[.slice ia its.length ic, .slice na nd.length nc, .int .i64 wh, .slice ga gr.length gc, .int .i64 li] 42))
    have i39 := hide ((i38.out.ext x9).ext ((Ext.refl w9).alloc (.cells #[.slice ia its.length ic, .slice na nd.length nc, .int .i64 wh, .slice ga gr.length gc, .int .i64 li] 42)))
    have hq9 := hide (hqo.at3.ext ((Ext.refl w9).alloc (.cells #[.slice ia its.length ic, .slice na nd.length nc, .int .i64 wh, .slice ga gr.length gc, .int .i64 li] 42)))
    have b9 : Hid (Blk (w9.alloc (.cells #[.slice ia its.length ic, .slice na nd.length nc, .int .i64 wh, .slice ga gr.length gc, .int .i64 li] 42)) w9.heap.size 42 [.slice ia its.length ic, .slice na nd.length nc, .int .i64 wh, .slice ga gr.length gc, .int .i64 li]) := Blk.new w9 _ _
    have hl1 : its.length ≤ 65536 := hq9.out.li
    have hl2 : nd.length ≤ 65536 := hq9.out.ln
    have hl3 : gr.length ≤ 65600 := hq9.out.lg
    clear x9 X8 hI8 hH8 i38 hqo hp hq0
    have p0 := b9.out.box 0 _ rfl
    have p1 := b9.out.box 1 _ rfl
    have p2 := b9.out.box 2 _ rfl
    have p3 := b9.out.box 3 _ rfl
    have p4 := b9.out.box 4 _ rfl
    have hmm : 1 + u % 8 = (m : Int) := hm.out
    simp only [qCells]
    go_wp2_with fail
    generalize (w9.alloc (.cells #[.slice ia its.length ic, .slice na nd.length nc, .int .i64 wh, .slice ga gr.length gc, .int .i64 li] 42)) = W9 at *
    rw [hcl.out] at hcm hplg
    refine (RefCompile ⟨its, nd, wh, gr, li⟩ ia na ga ic nc gc m W9 hq9.out.its hq9.out.nd hq9.out.gr hl1 hl2 hl3 (by omega)).mono ?_
    rintro e w10 ⟨x10, ⟨hno, _⟩ | ⟨hyes, ca, pa, pg, cc, pc, pgc, rfl, hop⟩⟩
    · exact absurd hcm.out hno
    clear hmm p0 p1 p2 p3 p4 hop
    obtain ⟨pp, hpp⟩ : ∃ pp, Hid (plan ⟨its, nd, wh, gr, li⟩ m = pp) := ⟨_, rfl⟩
    rw [hpp.out] at hplg ⊢
    obtain ⟨pnc, code, pwh, pits, pgr, pli, pag⟩ := pp
    simp only at hplg
    obtain ⟨hpag, hpli⟩ := hplg.out
    replace hpag := hide hpag
    replace hpli := hide hpli
    have X10 : Hid (Ext w (w10.alloc (.cells #[.int .i64 pnc, .slice ca code.length cc, .int .i64 pwh, .slice pa pits.length pc, .slice pg pgr.length pgc, .int .i64 pli, .bool pag] 46))) := (X9.out.trans x10).alloc _
    have hI10 := hide ((hI9.out.ext x10).ext ((Ext.refl w10).alloc (.cells #[.int .i64 pnc, .slice ca code.length cc, .int .i64 pwh, .slice pa pits.length pc, .slice pg pgr.length pgc, .int .i64 pli, .bool pag] 46)))
    have hH10 := hide ((hH9.out.ext x10).alloc (.cells #[.int .i64 pnc, .slice ca code.length cc, .int .i64 pwh, .slice pa pits.length pc, .slice pg pgr.length pgc, .int .i64 pli, .bool pag] 46))
    have i310 := hide ((i39.out.ext x10).ext ((Ext.refl w10).alloc (.cells #[.int .i64 pnc, .slice ca code.length cc, .int .i64 pwh, .slice pa pits.length pc, .slice pg pgr.length pgc, .int .i64 pli, .bool pag] 46)))
    have b10 : Hid (Blk (w10.alloc (.cells #[.int .i64 pnc, .slice ca code.length cc, .int .i64 pwh, .slice pa pits.length pc, .slice pg pgr.length pgc, .int .i64 pli, .bool pag] 46)) w10.heap.size 46 [.int .i64 pnc, .slice ca code.length cc, .int .i64 pwh, .slice pa pits.length pc, .slice pg pgr.length pgc, .int .i64 pli, .bool pag]) := Blk.new w10 _ _
    clear x10 X9 hI9 hH9 i39 hyes hplg hpp
    have p5 := b10.out.box 5 _ rfl
    have p6 := b10.out.box 6 _ rfl
    simp only [plCells]
    cases pag with
    | false =>
      go_wp2
      go_ret
      exact ⟨rfl, X10.out⟩
    | true =>
    by_cases hli : pli = -1
    rotate_left
    · have hlb : (pli != -1) = true := by simp [hli]
      replace hli := hide hli
      go_wp2
      go_ret
      exact ⟨rfl, X10.out⟩
    have hlb : (pli != -1) = false := by simp [hli]
    have hExr := hide (hagq.out hpag.out.symm (by show li = -1; rw [← hpli.out]; exact hli))
    replace hli := hide hli
    go_wp2_with fail
    generalize (w10.alloc (.cells #[.int .i64 pnc, .slice ca code.length cc, .int .i64 pwh, .slice pa pits.length pc, .slice pg pgr.length pgc, .int .i64 pli, .bool true] 46)) = W10 at *
    refine (permute (rowsF cells m) n ps ra pa0 rcap pc0 W10 hI10 (hps.out.ext X10.out) (by omega) (by omega)).mono ?_
    rintro e w11 ⟨oa, oc, L, rfl, hL, hIL, x11⟩
    have X11 : Hid (Ext w w11) := X10.out.trans x11
    have hH11 := hide (hH10.out.ext x11)
    have i311 := hide (i310.out.ext x11)
    replace hIL := hide hIL
    replace hL := hide hL
    have hes := hide (hExr.out (colsT n (fD L) (kinds3 ks m)) (by rw [hc3.out, hcl.out]) (hv3.out _) (hperm.out L hL.out))
    have hll : Hid (L.length = n) := by show _ = _; rw [hL.out.length_eq, listF_len]
    have hlf : Hid (∀ i, i < n → (fD L i).length < 2 ^ 39) := fun i hi => by
      have hmem : fD L i ∈ L := by
        unfold fD
        rw [List.getD_eq_getElem?_getD, List.getElem?_eq_getElem (show i < L.length by rw [hll.out]; exact hi)]
        exact List.getElem_mem _
      obtain ⟨j, hj, e⟩ := List.mem_map.1 (hL.out.mem_iff.1 hmem)
      rw [← e, hrlen.out j (List.mem_range.1 hj)]
      omega
    clear x11 X10 hI10 hH10 i310 p5 p6 hagq hExr
    have hmm : 1 + u % 8 = (m : Int) := hm.out
    go_wp2_with fail
    refine (KindsFrom3 ks ka kc m w11 (hk.out.ext X11.out) (by omega) (by omega)).mono ?_
    rintro e w12 ⟨ga2, gc2, rfl, hKo, x12⟩
    have hkl := kinds3_len ks m
    have X12 : Hid (Ext w w12) := X11.out.trans x12
    have hH12 := hide (hH11.out.ext x12)
    have i312 := hide (i311.out.ext x12)
    have hIL12 := hide (hIL.out.ext x12)
    have hKi := hide hKo.ints
    clear x12 X11 hH11 i311 hIL hKo hmm
    obtain ⟨kl, hkl9⟩ : ∃ kl, Hid (kinds3 ks m = kl) := ⟨_, rfl⟩
    rw [hkl9.out] at hkl hKi hes hv3 hc3 ⊢
    replace hkl := hide hkl
    go_wp2_with fail
    refine (RefBuildTableO n (fD L) kl oa ga2 oc gc2 w12 hIL12 hKi (by omega) (by have := hkl.out; omega) hlf).mono ?_
    rintro e w13 (⟨hbok, tq, tqc, rfl, hoc, x13⟩ | ⟨hbok, tq, tqc, rfl, hoc, x13⟩)
    rotate_left
    · have X13 : Hid (Ext w (w13.alloc (.cells #[.int .i64 0, .slice tq ([] : List Col).length tqc] 26))) := (X12.out.trans x13).alloc _
      clear x13 hoc hbok
      simp only [List.length_nil] at X13
      go_wp2
      go_ret
      exact ⟨rfl, X13.out⟩
    obtain ⟨es, hee⟩ : ∃ es, Hid (colsT n (fD L) kl = es) := ⟨_, rfl⟩
    have hel := hc3.out (fD L)
    rw [hee.out] at hoc hes hel
    rw [hee.out]
    replace hel := hide hel
    have X13 : Hid (Ext w (w13.alloc (.cells #[.int .i64 n, .slice tq es.length tqc] 26))) := (X12.out.trans x13).alloc _
    have hH13 := hide ((hH12.out.ext x13).alloc (.cells #[.int .i64 n, .slice tq es.length tqc] 26))
    have i313 := hide ((i312.out.ext x13).ext ((Ext.refl w13).alloc (.cells #[.int .i64 n, .slice tq es.length tqc] 26)))
    have hO13 := hide (hoc.at.ext ((Ext.refl w13).alloc (.cells #[.int .i64 n, .slice tq es.length tqc] 26)))
    have b13 : Hid (Blk (w13.alloc (.cells #[.int .i64 n, .slice tq es.length tqc] 26)) w13.heap.size 26 [.int .i64 n, .slice tq es.length tqc]) := Blk.new w13 _ _
    have t0 := b13.out.box 0 _ rfl
    have t1 := b13.out.box 1 _ rfl
    clear x13 hoc hbok X12 hH12 i312
    go_wp2_with fail
    generalize (w13.alloc (.cells #[.int .i64 n, .slice tq es.length tqc] 26)) = W13 at *
    refine (Execute x es n tq tqc W13 hO13 (by have := hel.out; omega)).mono ?_
    rintro e w14 ⟨x14, ⟨hr4, rfl⟩ | ⟨c4, xs4, a4, cap4, hr4, rfl, hi4, _⟩⟩
    · cases hes.out.det hr4
    have he := hes.out.det hr4
    injection he with he
    injection he with he1 he2
    subst he1
    subst he2
    have X14 : Hid (Ext w (w14.alloc (.cells #[.int .i64 c, .slice a4 xs.length cap4] 32))) := (X13.out.trans x14).alloc _
    have hH14 := hide ((hH13.out.ext x14).alloc (.cells #[.int .i64 c, .slice a4 xs.length cap4] 32))
    have i314 := hide ((i313.out.ext x14).ext ((Ext.refl w14).alloc (.cells #[.int .i64 c, .slice a4 xs.length cap4] 32)))
    have i414 := hide (hi4.ext ((Ext.refl w14).alloc (.cells #[.int .i64 c, .slice a4 xs.length cap4] 32)))
    have b14 : Hid (Blk (w14.alloc (.cells #[.int .i64 c, .slice a4 xs.length cap4] 32)) w14.heap.size 32 [.int .i64 c, .slice a4 xs.length cap4]) := Blk.new w14 _ _
    clear x14 t0 t1 X13 hr4 hi4 hH13 i313
    have z0 := b14.out.box 0 _ rfl
    have z1 := b14.out.box 1 _ rfl
    have y0 := hH14.out.box 0 _ rfl
    have y1 := hH14.out.box 1 _ rfl
    go_wp2_with fail
    generalize (w14.alloc (.cells #[.int .i64 c, .slice a4 xs.length cap4] 32)) = W14 at *
    refine (ResultEqual_same c xs a4 a3 cap4 cap3 W14 i414 i314 hlen.out).mono ?_
    rintro e w15 ⟨rfl, x15⟩
    have X15 : Hid (Ext w w15) := X14.out.trans x15
    clear x15 z0 z1 y0 y1
    dsimp only
    go_wp2
    go_ret
    exact ⟨rfl, X15.out⟩
end Go.Proofs.YbyaawGreat
