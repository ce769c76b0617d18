/- Walk: laws.FnLimitPrefix -/
import Derived.Test.YbyabwGreatResEq
import Derived.Test.YbyabwGreatExecC
import Derived.Test.YbyabwGreatLimP3
import Derived.Test.YbyabwGreatGenS11
import Derived.Test.YbyabwGreatEx1
import Derived.Test.YbyabwGreatPlainEnc3
import Derived.Deep.CutRange
namespace Go.Proofs.YbyabwGreat
open Go.RowKit
set_option maxRecDepth 100000
set_option linter.unusedVariables false
set_option linter.unusedSimpArgs false

theorem encOf_validL (k : Int) (xs : List Int) (h : xs.length ≤ 65536) (hk : k = 0 ∨ k = 1 ∨ k = 2) : Valid (encOf k xs) xs.length := by
  unfold encOf
  rw [if_neg (by omega)]
  rcases hk with rfl | rfl | rfl
  · exact encP_valid xs h
  · exact encD_valid xs h
  · exact encR_valid xs h
theorem tabC_validL (cells : List Int) (m : Nat) (zs : List Int) (hm : m ≤ 256) (hn : nR cells m ≤ 65536) : ValidT (tabC cells m zs) (nR cells m) := by
  have hl : (tabC cells m zs).length = m := by unfold tabC; rw [colsT_len, kinds3_len]
  refine ⟨by omega, by omega, by rw [hl]; exact hm, fun i hi => ?_⟩
  rw [hl] at hi
  unfold tabC
  rw [colsT_at _ _ _ _ (by rw [kinds3_len]; exact hi), kinds3_at _ _ _ hi]
  have hk := kind3_ok zs i
  have := encOf_validL (kind3 zs i) (colT (nR cells m) (rowsF cells m) i) (by rw [colT_len]; exact hn) (by omega)
  rw [colT_len] at this
  exact this
set_option maxHeartbeats 32000000 in
theorem FnLimitPrefix (zs cells : List Int) (qa ce : Option Addr) (qc cec : Nat) (u lm : Int) (w : World) (hq : Hid (BytesAt w qa zs)) (hce : Hid (IntsAt w ce cells)) (hu0 : 0 ≤ u) (hu1 : u ≤ 255) (hm0 : 0 ≤ lm) (hm1 : lm ≤ 65535) :
    Calls Yabn.prog 3 #[.slice qa zs.length qc, .slice ce cells.length cec, .int .u8 u, .int .u16 lm] w (RetTrue w) := by
  obtain ⟨L, rfl⟩ := Int.eq_ofNat_of_zero_le hm0
  by_cases l1 : 1048576 < zs.length
  · have l1' : 1048576 < (zs.length : Int) := by omega
    go_enter Yabn.func3, Yabn.ntmps3
    go_wp2
    go_ret
    exact ⟨rfl, Ext.refl w⟩
  have l1' : ¬ 1048576 < (zs.length : Int) := by omega
  by_cases l2 : 1048576 < cells.length
  · have l2' : 1048576 < (cells.length : Int) := by omega
    go_enter Yabn.func3, Yabn.ntmps3
    go_wp2
    go_ret
    exact ⟨rfl, Ext.refl w⟩
  have l2' : ¬ 1048576 < (cells.length : Int) := by omega
  obtain ⟨m, hm⟩ : ∃ m : Nat, Hid (1 + u % 8 = (m : Int)) := ⟨(1 + u % 8).toNat, by show _ = _; omega⟩
  have hm1' : 1 ≤ m := by have := hm.out; omega
  have hm8 : m ≤ 8 := by have := hm.out; omega
  have hmm : 1 + u % 8 = (m : Int) := hm.out
  have hz : Hid (BytesAt w none ([] : List Int)) := fun i hi => by simp at hi
  go_enter Yabn.func3, Yabn.ntmps3
  go_wp2_with fail
  refine (TableOf cells [] ce none cec 0 m w hce hz (by omega) (by simp) hm1' (by omega)).mono ?_
  rintro e w1 ⟨x1, ta, tcap, ra, rcap, _, hcase⟩
  clear hmm hz
  rcases hcase with ⟨hn, rfl, hcols⟩ | ⟨hn, rfl⟩
  rotate_left
  · have X1 : Hid (Ext w (w1.alloc (.cells #[.int .i64 0, .slice ta 0 tcap] 27))) := x1.alloc _
    clear x1 hn
    go_wp2
    go_ret
    exact ⟨rfl, X1.out⟩
  have hcl : (tabC cells m []).length = m := by unfold tabC; rw [colsT_len, kinds3_len]
  have hval := hide (tabC_validL cells m [] (by omega) hn)
  obtain ⟨cs, hcs⟩ : ∃ cs, Hid (tabC cells m [] = cs) := ⟨_, rfl⟩
  obtain ⟨n, hnn⟩ : ∃ n, Hid (nR cells m = n) := ⟨_, rfl⟩
  rw [hcs.out] at hcols hcl hval
  rw [hnn.out] at hval
  rw [hcs.out, hnn.out]
  replace hcl := hide hcl
  have X1 : Hid (Ext w (w1.alloc (.cells #[.int .i64 n, .slice ta cs.length tcap] 27))) := x1.alloc _
  have hC1 := hide (hcols.at.ext ((Ext.refl w1).alloc (.cells #[.int .i64 n, .slice ta cs.length tcap] 27)))
  have hB1 : Hid (Blk (w1.alloc (.cells #[.int .i64 n, .slice ta cs.length tcap] 27)) w1.heap.size 27 [.int .i64 n, .slice ta cs.length tcap]) := Blk.new w1 _ _
  have hlc : Hid (cs.length < 2 ^ 39) := by have := hcl.out; show _ < _; omega
  clear x1 hn hcols
  go_wp2_with fail
  generalize (w1.alloc (.cells #[.int .i64 n, .slice ta cs.length tcap] 27)) = W1 at *
  generalize w1.heap.size = TT at *
  refine (QueryTextNoLimit zs qa qc W1 (hq.out.ext X1.out) (by omega)).mono ?_
  rintro e w2 ⟨x2, l, hl, hll, rfl⟩
  have X2 : Hid (Ext w w2) := X1.out.trans x2
  have hC2 := hide (hC1.out.ext x2)
  have hB2 := hide (hB1.out.ext x2)
  clear x2 X1 hC1 hB1
  replace hl := hide hl
  have hLN : (L : Int) ≤ 9223372036854775807 := by omega
  have hitl := itoa_len20 (L : Int) (by omega)
  rw [Int.toNat_natCast] at hitl
  have hcat1 : (tx l ++ ({ data := #[32, 76, 73, 77, 73, 84, 32] } : ByteArray)) = tx (l ++ [32, 76, 73, 77, 73, 84, 32]) := tx_append l [32, 76, 73, 77, 73, 84, 32]
  have hcat2 : (tx (l ++ [32, 76, 73, 77, 73, 84, 32]) ++ tx (itoa L)) = tx (l ++ limR L) := by rw [tx_append, List.append_assoc]; rfl
  have hz1 : ¬ 9223372036854775807 < (tx l).size + 7 := by rw [tx_size]; omega
  have hz2 : ¬ 9223372036854775807 < (tx (l ++ [32, 76, 73, 77, 73, 84, 32])).size + (tx (itoa L)).size := by rw [tx_size, tx_size, List.length_append]; simp only [List.length_cons, List.length_nil]; omega
  go_wp2_with fail
  refine (ItoaI (L : Int) (by omega) (by omega) w2).mono ?_
  rw [Int.toNat_natCast]
  rintro e w3 ⟨rfl, x3⟩
  have X3 : Hid (Ext w w3) := X2.out.trans x3
  have hC3 := hide (hC2.out.ext x3)
  have hB3 := hide (hB2.out.ext x3)
  clear x3 X2 hC2 hB2
  have hlim : Hid (∀ r, Exr (tx l) cs n r → Exr (tx (l ++ limR L)) cs n (if 65536 < (l ++ limR L).length then none else r.map (fun x => (x.1, x.2.take (min L (x.2.length / x.1) * x.1)))) ∧ ∀ c xs, r = some (c, xs) → 1 ≤ c) := fun r h => lim_exr hl.out L (by omega) hval.out h
  have hys : (tx (l ++ limR L)).size = (l ++ limR L).length := tx_size _
  obtain ⟨yl, hyl⟩ : ∃ yl, (l ++ limR L).length = yl := ⟨_, rfl⟩
  rw [hyl] at hlim hys
  have t0 := hB3.out.box 0 _ rfl
  have t1 := hB3.out.box 1 _ rfl
  go_wp2_with fail
  obtain ⟨y, hy⟩ : ∃ y, Hid (tx (l ++ limR L) = y) := ⟨_, rfl⟩
  obtain ⟨x, hx⟩ : ∃ x, Hid (tx l = x) := ⟨_, rfl⟩
  rw [hx.out] at hlim
  rw [hy.out] at hlim hys
  rw [hx.out, hy.out]
  clear hcat1 hcat2 hz1 hz2 hx hy hyl hl hitl hll hLN
  refine (Execute x cs n ta tcap w3 hC3 hlc.out).mono ?_
  rintro e w4 ⟨x4, ⟨hr1, rfl⟩ | ⟨c, xs, a1, cap1, hr1, rfl, hi1, hlen⟩⟩
  · have hr2' := (hlim.out none hr1).1
    have e0 : (if 65536 < yl then none else (none : Option (Nat × List Int)).map (fun x => (x.1, x.2.take (min L (x.2.length / x.1) * x.1)))) = none := by split <;> rfl
    rw [e0] at hr2'
    replace hr2' := hide hr2'
    replace hr1 := hide hr1
    replace hys := hide hys
    have X4 : Hid (Ext w (w4.alloc (.cells #[.int .i64 0, .slice none 0 0] 34))) := (X3.out.trans x4).alloc _
    have hC4 := hide ((hC3.out.ext x4).ext ((Ext.refl w4).alloc (.cells #[.int .i64 0, .slice none 0 0] 34)))
    have hB4 := hide ((hB3.out.ext x4).alloc (.cells #[.int .i64 0, .slice none 0 0] 34))
    have hF4 : Hid (Blk (w4.alloc (.cells #[.int .i64 0, .slice none 0 0] 34)) w4.heap.size 34 rsz) := Blk.new w4 _ _
    clear x4 t0 t1 X3 hC3 hB3 e0
    have t0 := hB4.out.box 0 _ rfl
    have t1 := hB4.out.box 1 _ rfl
    go_wp2_with fail
    generalize (w4.alloc (.cells #[.int .i64 0, .slice none 0 0] 34)) = W4 at *
    generalize w4.heap.size = RR1 at *
    refine (Execute y cs n ta tcap W4 hC4 hlc.out).mono ?_
    rintro e w5 ⟨x5, ⟨hr2, rfl⟩ | ⟨c, xs, a1, cap1, hr2, rfl, hi1, _⟩⟩
    rotate_left
    · cases hr2'.out.det hr2
    have X5 : Hid (Ext w (w5.alloc (.cells #[.int .i64 0, .slice none 0 0] 34))) := (X4.out.trans x5).alloc _
    have hC5 := hide ((hC4.out.ext x5).ext ((Ext.refl w5).alloc (.cells #[.int .i64 0, .slice none 0 0] 34)))
    have hB5 := hide ((hB4.out.ext x5).alloc (.cells #[.int .i64 0, .slice none 0 0] 34))
    have hF5 := hide ((hF4.out.ext x5).alloc (.cells #[.int .i64 0, .slice none 0 0] 34))
    have hG5 : Hid (Blk (w5.alloc (.cells #[.int .i64 0, .slice none 0 0] 34)) w5.heap.size 34 rsz) := Blk.new w5 _ _
    clear x5 t0 t1 X4 hC4 hB4 hF4 hr2
    have t0 := hB5.out.box 0 _ rfl
    have t1 := hB5.out.box 1 _ rfl
    go_wp2_with fail
    generalize (w5.alloc (.cells #[.int .i64 0, .slice none 0 0] 34)) = W5 at *
    generalize w5.heap.size = RR2 at *
    refine (RefExecuteC x cs n ta tcap W5 hC5 hlc.out).mono ?_
    rintro e w6 ⟨x6, ⟨hr3, rfl⟩ | ⟨c, xs, a1, cap1, hr3, rfl, hi1, _, _⟩⟩
    rotate_left
    · cases hr1.out.det hr3
    have X6 : Hid (Ext w (w6.alloc (.cells #[.int .i64 0, .slice none 0 0] 34))) := (X5.out.trans x6).alloc _
    have hF6 := hide ((hF5.out.ext x6).alloc (.cells #[.int .i64 0, .slice none 0 0] 34))
    have hG6 := hide ((hG5.out.ext x6).alloc (.cells #[.int .i64 0, .slice none 0 0] 34))
    clear x6 t0 t1 X5 hC5 hB5 hF5 hG5 hr3
    have z0 := hF6.out.box 0 _ rfl
    have z1 := hF6.out.box 1 _ rfl
    go_wp2_with fail
    generalize (w6.alloc (.cells #[.int .i64 0, .slice none 0 0] 34)) = W6 at *
    refine (resultZero W6).mono ?_
    rintro e w7 ⟨rfl, x7⟩
    have X7 : Hid (Ext w w7) := X6.out.trans x7
    have hG7 := hide (hG6.out.ext x7)
    clear x7 z0 z1
    have z0 := hG7.out.box 0 _ rfl
    have z1 := hG7.out.box 1 _ rfl
    dsimp only
    go_wp2_with fail
    refine (resultZero w7).mono ?_
    rintro e w8 ⟨rfl, x8⟩
    have X8 : Hid (Ext w w8) := X7.out.trans x8
    clear x8 z0 z1
    dsimp only
    go_wp2
    go_ret
    exact ⟨rfl, X8.out⟩
  · obtain ⟨hr2', hc1⟩ := hlim.out _ hr1
    have hc1 := hc1 c xs rfl
    replace hr1 := hide hr1
    replace hlen := hide hlen
    have X4 : Hid (Ext w (w4.alloc (.cells #[.int .i64 c, .slice a1 xs.length cap1] 34))) := (X3.out.trans x4).alloc _
    have hC4 := hide ((hC3.out.ext x4).ext ((Ext.refl w4).alloc (.cells #[.int .i64 c, .slice a1 xs.length cap1] 34)))
    have hB4 := hide ((hB3.out.ext x4).alloc (.cells #[.int .i64 c, .slice a1 xs.length cap1] 34))
    have hF4 : Hid (Blk (w4.alloc (.cells #[.int .i64 c, .slice a1 xs.length cap1] 34)) w4.heap.size 34 [.int .i64 c, .slice a1 xs.length cap1]) := Blk.new w4 _ _
    have i14 := hide (hi1.ext ((Ext.refl w4).alloc (.cells #[.int .i64 c, .slice a1 xs.length cap1] 34)))
    clear x4 t0 t1 X3 hC3 hB3 hi1
    have t0 := hB4.out.box 0 _ rfl
    have t1 := hB4.out.box 1 _ rfl
    by_cases hbig : 65536 < yl
    · rw [if_pos hbig] at hr2'
      replace hr2' := hide hr2'
      have hbig' : ¬ (y.size : Int) ≤ 65536 := by omega
      replace hys := hide hys
      as_aux_lemma =>
        go_wp2_with fail
        generalize (w4.alloc (.cells #[.int .i64 c, .slice a1 xs.length cap1] 34)) = W4 at *
        generalize w4.heap.size = RR1 at *
        refine (Execute y cs n ta tcap W4 hC4 hlc.out).mono ?_
        rintro e w5 ⟨x5, ⟨hr2, rfl⟩ | ⟨c2, ys, a2, cap2, hr2, rfl, hi2, _⟩⟩
        rotate_left
        · cases hr2'.out.det hr2
        have X5 : Hid (Ext w (w5.alloc (.cells #[.int .i64 0, .slice none 0 0] 34))) := (X4.out.trans x5).alloc _
        have hC5 := hide ((hC4.out.ext x5).ext ((Ext.refl w5).alloc (.cells #[.int .i64 0, .slice none 0 0] 34)))
        have hB5 := hide ((hB4.out.ext x5).alloc (.cells #[.int .i64 0, .slice none 0 0] 34))
        have hF5 := hide ((hF4.out.ext x5).alloc (.cells #[.int .i64 0, .slice none 0 0] 34))
        have hG5 : Hid (Blk (w5.alloc (.cells #[.int .i64 0, .slice none 0 0] 34)) w5.heap.size 34 rsz) := Blk.new w5 _ _
        have i15 := hide ((i14.out.ext x5).ext ((Ext.refl w5).alloc (.cells #[.int .i64 0, .slice none 0 0] 34)))
        clear x5 t0 t1 X4 hC4 hB4 hF4 hr2 i14
        have t0 := hB5.out.box 0 _ rfl
        have t1 := hB5.out.box 1 _ rfl
        go_wp2_with fail
        generalize (w5.alloc (.cells #[.int .i64 0, .slice none 0 0] 34)) = W5 at *
        generalize w5.heap.size = RR2 at *
        refine (RefExecuteC x cs n ta tcap W5 hC5 hlc.out).mono ?_
        rintro e w6 ⟨x6, ⟨hr3, rfl⟩ | ⟨c3, xs3, a3, cap3, hr3, rfl, hi3, _, _⟩⟩
        · cases hr1.out.det hr3
        have he := hr1.out.det hr3
        injection he with he
        injection he with he1 he2
        subst he1
        subst he2
        have X6 : Hid (Ext w (w6.alloc (.cells #[.int .i64 c, .slice a3 xs.length cap3] 34))) := (X5.out.trans x6).alloc _
        have hF6 := hide ((hF5.out.ext x6).alloc (.cells #[.int .i64 c, .slice a3 xs.length cap3] 34))
        have hG6 := hide ((hG5.out.ext x6).alloc (.cells #[.int .i64 c, .slice a3 xs.length cap3] 34))
        have hH6 : Hid (Blk (w6.alloc (.cells #[.int .i64 c, .slice a3 xs.length cap3] 34)) w6.heap.size 34 [.int .i64 c, .slice a3 xs.length cap3]) := Blk.new w6 _ _
        have i16 := hide ((i15.out.ext x6).ext ((Ext.refl w6).alloc (.cells #[.int .i64 c, .slice a3 xs.length cap3] 34)))
        have i36 := hide (hi3.ext ((Ext.refl w6).alloc (.cells #[.int .i64 c, .slice a3 xs.length cap3] 34)))
        clear x6 t0 t1 X5 hC5 hB5 hF5 hG5 hr3 i15 hi3
        have z0 := hF6.out.box 0 _ rfl
        have z1 := hF6.out.box 1 _ rfl
        have y0 := hH6.out.box 0 _ rfl
        have y1 := hH6.out.box 1 _ rfl
        go_wp2_with fail
        generalize (w6.alloc (.cells #[.int .i64 c, .slice a3 xs.length cap3] 34)) = W6 at *
        generalize w6.heap.size = RR3 at *
        refine (ResultEqual_same c xs a1 a3 cap1 cap3 W6 i16 i36 hlen.out).mono ?_
        rintro e w7 ⟨rfl, x7⟩
        have X7 : Hid (Ext w w7) := X6.out.trans x7
        have hG7 := hide (hG6.out.ext x7)
        have hH7 := hide (hH6.out.ext x7)
        clear x7 z0 z1 y0 y1 X6 hF6 hG6 hH6
        have z0 := hG7.out.box 0 _ rfl
        have z1 := hG7.out.box 1 _ rfl
        have y0 := hH7.out.box 0 _ rfl
        have hc0 : ¬ (c : Int) ≤ 0 := by omega
        dsimp only
        go_wp2_with fail
        refine (resultZero w7).mono ?_
        rintro e w8 ⟨rfl, x8⟩
        have X8 : Hid (Ext w w8) := X7.out.trans x8
        clear x8 z0 z1 y0
        go_wp2
        go_ret
        exact ⟨rfl, X8.out⟩
    · rw [if_neg hbig] at hr2'
      simp only [Option.map_some] at hr2'
      obtain ⟨nr, hnr⟩ : ∃ nr, Hid (xs.length / c = nr) := ⟨_, rfl⟩
      rw [hnr.out] at hr2'
      have hmle : Hid (min L nr * c ≤ xs.length) := by
        show _ ≤ _
        have h1 : nr * c ≤ xs.length := by rw [← hnr.out]; exact Nat.div_mul_le_self _ _
        exact Nat.le_trans (Nat.mul_le_mul_right c (Nat.min_le_right _ _)) h1
      obtain ⟨ys, hyse⟩ : ∃ ys, Hid (xs.take (min L nr * c) = ys) := ⟨_, rfl⟩
      have hyl2 : Hid (ys.length = min L nr * c) := by show _ = _; rw [← hyse.out, List.length_take]; have := hmle.out; omega
      rw [hyse.out] at hr2'
      replace hr2' := hide hr2'
      have hbig' : (y.size : Int) ≤ 65536 := by omega
      replace hys := hide hys
      have hquo : (xs.length : Int) / (c : Int) = (nr : Int) := by rw [← hnr.out]; rfl
      as_aux_lemma =>
        go_wp2_with fail
        generalize (w4.alloc (.cells #[.int .i64 c, .slice a1 xs.length cap1] 34)) = W4 at *
        generalize w4.heap.size = RR1 at *
        refine (Execute y cs n ta tcap W4 hC4 hlc.out).mono ?_
        rintro e w5 ⟨x5, ⟨hr2, rfl⟩ | ⟨c2, ys2, a2, cap2, hr2, rfl, hi2, hlen2⟩⟩
        · cases hr2'.out.det hr2
        have he := hr2'.out.det hr2
        injection he with he
        injection he with he1 he2
        subst he1
        subst he2
        replace hlen2 := hide hlen2
        have X5 : Hid (Ext w (w5.alloc (.cells #[.int .i64 c, .slice a2 ys.length cap2] 34))) := (X4.out.trans x5).alloc _
        have hC5 := hide ((hC4.out.ext x5).ext ((Ext.refl w5).alloc (.cells #[.int .i64 c, .slice a2 ys.length cap2] 34)))
        have hB5 := hide ((hB4.out.ext x5).alloc (.cells #[.int .i64 c, .slice a2 ys.length cap2] 34))
        have hF5 := hide ((hF4.out.ext x5).alloc (.cells #[.int .i64 c, .slice a2 ys.length cap2] 34))
        have hG5 : Hid (Blk (w5.alloc (.cells #[.int .i64 c, .slice a2 ys.length cap2] 34)) w5.heap.size 34 [.int .i64 c, .slice a2 ys.length cap2]) := Blk.new w5 _ _
        have i15 := hide ((i14.out.ext x5).ext ((Ext.refl w5).alloc (.cells #[.int .i64 c, .slice a2 ys.length cap2] 34)))
        have i25 := hide (hi2.ext ((Ext.refl w5).alloc (.cells #[.int .i64 c, .slice a2 ys.length cap2] 34)))
        clear x5 t0 t1 X4 hC4 hB4 hF4 hr2 i14 hi2
        have t0 := hB5.out.box 0 _ rfl
        have t1 := hB5.out.box 1 _ rfl
        go_wp2_with fail
        generalize (w5.alloc (.cells #[.int .i64 c, .slice a2 ys.length cap2] 34)) = W5 at *
        generalize w5.heap.size = RR2 at *
        refine (RefExecuteC x cs n ta tcap W5 hC5 hlc.out).mono ?_
        rintro e w6 ⟨x6, ⟨hr3, rfl⟩ | ⟨c3, xs3, a3, cap3, hr3, rfl, hi3, _, hcap⟩⟩
        · cases hr1.out.det hr3
        have he := hr1.out.det hr3
        injection he with he
        injection he with he1 he2
        subst he1
        subst he2
        have X6 : Hid (Ext w (w6.alloc (.cells #[.int .i64 c, .slice a3 xs.length cap3] 34))) := (X5.out.trans x6).alloc _
        have hF6 := hide ((hF5.out.ext x6).alloc (.cells #[.int .i64 c, .slice a3 xs.length cap3] 34))
        have hG6 := hide ((hG5.out.ext x6).alloc (.cells #[.int .i64 c, .slice a3 xs.length cap3] 34))
        have hH6 : Hid (Blk (w6.alloc (.cells #[.int .i64 c, .slice a3 xs.length cap3] 34)) w6.heap.size 34 [.int .i64 c, .slice a3 xs.length cap3]) := Blk.new w6 _ _
        have i16 := hide ((i15.out.ext x6).ext ((Ext.refl w6).alloc (.cells #[.int .i64 c, .slice a3 xs.length cap3] 34)))
        have i26 := hide ((i25.out.ext x6).ext ((Ext.refl w6).alloc (.cells #[.int .i64 c, .slice a3 xs.length cap3] 34)))
        have i36 := hide (hi3.ext ((Ext.refl w6).alloc (.cells #[.int .i64 c, .slice a3 xs.length cap3] 34)))
        clear x6 t0 t1 X5 hC5 hB5 hF5 hG5 hr3 i15 i25 hi3
        have z0 := hF6.out.box 0 _ rfl
        have z1 := hF6.out.box 1 _ rfl
        have y0 := hH6.out.box 0 _ rfl
        have y1 := hH6.out.box 1 _ rfl
        have hquo9 := hide hquo
        clear hquo
        replace hcap := hide hcap
        go_wp2_with fail
        generalize (w6.alloc (.cells #[.int .i64 c, .slice a3 xs.length cap3] 34)) = W6 at *
        generalize w6.heap.size = RR3 at *
        refine (ResultEqual_same c xs a1 a3 cap1 cap3 W6 i16 i36 hlen.out).mono ?_
        rintro e w7 ⟨rfl, x7⟩
        have X7 : Hid (Ext w w7) := X6.out.trans x7
        have hG7 := hide (hG6.out.ext x7)
        have hH7 := hide (hH6.out.ext x7)
        have i27 := hide (i26.out.ext x7)
        have i37 := hide (i36.out.ext x7)
        clear x7 z0 z1 y0 y1 X6 hF6 hG6 hH6 i16 i26 i36
        have z0 := hG7.out.box 0 _ rfl
        have z1 := hG7.out.box 1 _ rfl
        have y0 := hH7.out.box 0 _ rfl
        have y1 := hH7.out.box 1 _ rfl
        have hc0 : ¬ (c : Int) ≤ 0 := by omega
        have hcz : ((c : Int) == 0) = false := beq_eq_false_iff_ne.2 (by omega)
        have hcc : ((c : Int) != (c : Int)) = false := by simp
        have hquo := hquo9.out
        have hlen9 := hlen.out
        have hnrb : nr < 2 ^ 39 := by have h1 := hnr.out; have h2 := Nat.div_le_self xs.length c; omega
        obtain ⟨MN, hMN⟩ : ∃ MN, Hid (min L nr * c = MN) := ⟨_, rfl⟩
        have hpre : Hid (IntsAt w7 a3 ys) := by
          have := i37.out.take (min L nr * c)
          rw [hyse.out] at this
          exact this
        rw [hMN.out] at hyl2 hmle
        have hle9 := hmle.out
        have hcap9 := hcap.out
        have hMc : (MN : Int) ≤ cap3 := by omega
        dsimp only
        by_cases hnl : nr < L
        · have hnl' : (nr : Int) < (L : Int) := by omega
          have hmul : (nr : Int) * (c : Int) = (MN : Int) := by rw [← hMN.out, Nat.min_eq_right (by omega)]; simp
          go_wp2_with fail
          refine Dr.region_text (by kernel_rfl) ?_
          go_wp2_with fail
          have hcall := hide (I64Eq_same ys a2 a3 cap2 cap3 w7.drew (i27.out.ext (Ext.refl w7).drew) (hpre.out.ext (Ext.refl w7).drew) hlen2.out)
          rw [hyl2.out] at hcall ⊢
          refine hcall.out.mono ?_
          rintro e w8 ⟨rfl, x8⟩
          have X8 : Hid (Ext w w8) := X7.out.drew.trans x8
          clear x8 z0 z1 y0 y1 hcall
          go_wp2
          refine ⟨by rfl, ?_⟩
          go_wp2
          go_ret
          exact ⟨rfl, X8.out⟩
        · have hnl' : ¬ (nr : Int) < (L : Int) := by omega
          have hmul : (L : Int) * (c : Int) = (MN : Int) := by rw [← hMN.out, Nat.min_eq_left (by omega)]; simp
          go_wp2_with fail
          refine Dr.region_text (by kernel_rfl) ?_
          go_wp2_with fail
          have hcall := hide (I64Eq_same ys a2 a3 cap2 cap3 w7.drew (i27.out.ext (Ext.refl w7).drew) (hpre.out.ext (Ext.refl w7).drew) hlen2.out)
          rw [hyl2.out] at hcall ⊢
          refine hcall.out.mono ?_
          rintro e w8 ⟨rfl, x8⟩
          have X8 : Hid (Ext w w8) := X7.out.drew.trans x8
          clear x8 z0 z1 y0 y1 hcall
          go_wp2
          refine ⟨by rfl, ?_⟩
          go_wp2
          go_ret
          exact ⟨rfl, X8.out⟩
end Go.Proofs.YbyabwGreat
