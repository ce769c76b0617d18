/- Walk: laws.FnTable -/
import Derived.Test.YbyaawGen1
import Derived.Test.YbyaawRowM
import Derived.Test.YbyaawRefBldTab
import Derived.Test.YbyaawTabSep
import Derived.Test.YbyaawPlainEnc4
namespace Go.Proofs.Ybyaaw
open Go.RowKit
set_option maxRecDepth 100000
set_option linter.unusedVariables false

def TrueE (w : World) : Ending → World → Prop := fun e w' => e = .returned (.bool true) ∧ Ext w w'

theorem encOf_valid (k : Int) (xs : List Int) (h : xs.length ≤ 65536) (hk : k = 0 ∨ k = 1 ∨ k = 2) : Valid (encOf k xs) xs.length := by
  unfold encOf
  rw [if_neg (by omega)]
  rcases hk with rfl | rfl | rfl
  · exact encP_valid xs h
  · exact encD_valid xs h
  · exact encR_valid xs h
theorem dec_encOf (k : Int) (xs : List Int) (h : xs.length ≤ 65536) (hk : k = 0 ∨ k = 1 ∨ k = 2) : dec (encOf k xs) = xs := by
  unfold encOf
  rw [if_neg (by omega)]
  rcases hk with rfl | rfl | rfl
  · exact dec_encP xs
  · exact dec_encD xs
  · exact dec_encR xs
theorem colsT_valid {n : Nat} {f : Nat → List Int} {ks : List Int} (h : BOK n f ks) : ValidT (colsT n f ks) n := by
  refine ⟨by omega, by have := h.1; omega, by rw [colsT_len]; exact h.2.1, fun i hi => ?_⟩
  rw [colsT_len] at hi
  rw [colsT_at n f ks i hi]
  have := encOf_valid (ks.getD i 0) (colT n f i) (by rw [colT_len]; exact h.1) (by have := h.2.2.1 i hi; omega)
  rwa [colT_len] at this
theorem rowT_colsT {n : Nat} {f : Nat → List Int} {ks : List Int} (h : BOK n f ks) (i : Nat) (hi : i < n) : rowT (colsT n f ks) i = f i := by
  have hl := h.2.2.2 i hi
  apply List.ext_getElem
  · rw [rowT_len, colsT_len, hl]
  · intro j h1 h2
    have hj : j < ks.length := by omega
    have e := rowT_at (colsT n f ks) i j (by rw [colsT_len]; exact hj)
    rw [colsT_at n f ks j hj, dec_encOf _ _ (by rw [colT_len]; exact h.1) (by have := h.2.2.1 j hj; omega), colT_at n f j i hi] at e
    simpa [List.getD_eq_getElem?_getD, List.getElem?_eq_getElem h1, List.getElem?_eq_getElem h2] using e

set_option maxHeartbeats 4000000 in
theorem fnTable_no (cells zs : List Int) (a az : Option Addr) (c cz : Nat) (wd : Int) (m : Nat) (n : Nat) (f : Nat → List Int) (ks : List Int) (w : World) (lc : (cells.length : Int) ≤ 1048576) (lz : (zs.length : Int) ≤ 1048576) (w0 : 0 ≤ wd) (w1 : wd < 256) (hM : Hid (wd % 9 = m)) (m1 : m < 9)
    (hRF : Hid (Calls Yaan.prog 38 #[.slice a cells.length c, .int .i64 m] w (RetR1 n f w))) (hKF : Hid (∀ w', Ext w w' → Calls Yaan.prog 39 #[.slice az zs.length cz, .int .i64 m, .int .i64 4] w' (RetInts 3 ks w')))
    (ln : n < 2 ^ 39) (lks : ks.length < 10) (hlf : Hid (∀ i, i < n → (f i).length < 2 ^ 39)) (hB : Hid (¬ BOK n f ks)) :
    Calls Yaan.prog 8 #[.slice a cells.length c, .int .u8 wd, .slice az zs.length cz] w (TrueE w) := by
  go_enter Yaan.func8, Yaan.ntmps8
  go_wp2_with fail
  rw [hM.out]
  refine (hRF.out).mono ?_
  rintro e w1 ⟨pr, qr, rfl, hR1, x1⟩
  replace hR1 := hide hR1
  have X1 : Hid (Ext w w1) := x1
  clear x1
  go_wp2_with fail
  refine (hKF.out w1 X1.out).mono ?_
  rintro e w2 ⟨pk, qk, rfl, OK, x2⟩
  have hR2 := hide (hR1.out.ext x2)
  have hK2 := hide OK.ints
  have X2 : Hid (Ext w w2) := X1.out.trans x2
  clear x2 X1 OK hR1
  go_wp2_with fail
  refine (BuildTable n f ks pr pk qr qk w2 hR2 hK2 ln (by omega) hlf).mono ?_
  rintro e w3 (⟨hb, _⟩ | ⟨_, pg, qg, rfl, OG, x3⟩)
  · exact absurd hb hB.out
  have hbT : Box (w3.alloc (.cells #[.int .i64 0, .slice pg 0 qg] 66)) w3.heap.size _ := Box.new w3 _ _
  have X3 : Hid (Ext w (w3.alloc (.cells #[.int .i64 0, .slice pg 0 qg] 66))) := (X2.out.trans x3).alloc _
  have hR3 := hide (hR2.out.ext (x3.alloc (.cells #[.int .i64 0, .slice pg 0 qg] 66)))
  have hK3 := hide (hK2.out.ext (x3.alloc (.cells #[.int .i64 0, .slice pg 0 qg] 66)))
  replace hbT := hide hbT
  clear x3 X2 OG hR2 hK2
  simp only [List.length_nil]
  go_wp2_with fail
  generalize (w3.alloc (.cells #[.int .i64 0, .slice pg 0 qg] 66)) = W3 at *
  generalize w3.heap.size = T at *
  refine (RefBuildTable n f ks pr pk qr qk W3 hR3 hK3 ln (by omega) hlf).mono ?_
  rintro e w4 (⟨hb, _⟩ | ⟨_, pw, qw, rfl, OW, x4⟩)
  · exact absurd hb hB.out
  have hbT4 := hide (hbT.out.ext (x4.alloc (.cells #[.int .i64 0, .slice pw 0 qw] 66)))
  have X4 : Hid (Ext w (w4.alloc (.cells #[.int .i64 0, .slice pw 0 qw] 66))) := (X3.out.trans x4).alloc _
  clear x4 X3 OW hbT hR3 hK3
  simp only [List.length_nil]
  have k0 := hbT4.out 0 _ rfl
  have k1 := hbT4.out 1 _ rfl
  go_wp2
  go_ret
  exact ⟨rfl, X4.out⟩

set_option maxHeartbeats 16000000 in
theorem fnTable_yes (cells zs : List Int) (a az : Option Addr) (c cz : Nat) (wd : Int) (m : Nat) (n : Nat) (f : Nat → List Int) (ks : List Int) (w : World) (lc : (cells.length : Int) ≤ 1048576) (lz : (zs.length : Int) ≤ 1048576) (w0 : 0 ≤ wd) (w1 : wd < 256) (hM : Hid (wd % 9 = m)) (m1 : m < 9)
    (hRF : Hid (Calls Yaan.prog 38 #[.slice a cells.length c, .int .i64 m] w (RetR1 n f w))) (hKF : Hid (∀ w', Ext w w' → Calls Yaan.prog 39 #[.slice az zs.length cz, .int .i64 m, .int .i64 4] w' (RetInts 3 ks w')))
    (ln : n < 2 ^ 39) (lks : ks.length < 10) (hlf : Hid (∀ i, i < n → (f i).length < 2 ^ 39)) (cs : List Col) (hV : Hid (ValidT cs n)) (hrt : Hid (∀ i, i < n → rowT cs i = f i)) (lc2 : cs.length < 2 ^ 39) (hl : Hid (∀ i, i < cs.length → LenC (cs.getD i col0)))
    (hI : Hid (∀ a ak c ck w, IRows w a n f → IntsAt w ak ks → Calls Yaan.prog 40 #[.slice a n c, .slice ak ks.length ck] w (RetTO n cs true w)))
    (hS : Hid (∀ a ak c ck w, IRows w a n f → IntsAt w ak ks → Calls Yaan.prog 41 #[.slice a n c, .slice ak ks.length ck] w (RetTD n cs true w))) :
    Calls Yaan.prog 8 #[.slice a cells.length c, .int .u8 wd, .slice az zs.length cz] w (TrueE w) := by
  go_enter Yaan.func8, Yaan.ntmps8
  go_wp2_with fail
  rw [hM.out]
  refine (hRF.out).mono ?_
  rintro e w1 ⟨pr, qr, rfl, hR1, x1⟩
  replace hR1 := hide hR1
  have X1 : Hid (Ext w w1) := x1
  clear x1
  go_wp2_with fail
  refine (hKF.out w1 X1.out).mono ?_
  rintro e w2 ⟨pk, qk, rfl, OK, x2⟩
  have hR2 := hide (hR1.out.ext x2)
  have hK2 := hide OK.ints
  have X2 : Hid (Ext w w2) := X1.out.trans x2
  clear x2 X1 OK hR1
  go_wp2_with fail
  refine (hI.out pr pk qr qk w2 hR2.out hK2.out).mono ?_
  rintro e w3 ⟨pg, qg, rfl, OG, x3⟩
  have hz := x3.size
  have hbT : Box (w3.alloc (.cells #[.int .i64 n, .slice pg cs.length qg] 66)) w3.heap.size _ := Box.new w3 _ _
  have X3 : Hid (Ext w (w3.alloc (.cells #[.int .i64 n, .slice pg cs.length qg] 66))) := (X2.out.trans x3).alloc _
  have hR3 := hide (hR2.out.ext (x3.alloc (.cells #[.int .i64 n, .slice pg cs.length qg] 66)))
  have hK3 := hide (hK2.out.ext (x3.alloc (.cells #[.int .i64 n, .slice pg cs.length qg] 66)))
  obtain ⟨rows, lo, hi, gg, TG0, hsp, hq0⟩ := OG.tg
  have T3 := hide (TG0.ext ((Ext.refl w3).alloc (.cells #[.int .i64 n, .slice pg cs.length qg] 66)))
  have hsW : (w3.alloc (.cells #[.int .i64 n, .slice pg cs.length qg] 66)).heap.size = w3.heap.size + 1 := by simp
  have X2' := X2.out.size
  replace hbT := hide hbT
  clear x3 X2 OG hR2 hK2 TG0 hsp hq0
  go_wp2_with fail
  generalize (w3.alloc (.cells #[.int .i64 n, .slice pg cs.length qg] 66)) = W3 at *
  generalize w3.heap.size = T at *
  generalize w2.heap.size = B0 at *
  refine (hS.out pr pk qr qk W3 hR3.out hK3.out).mono ?_
  rintro e w4 ⟨pw, qw, rfl, OW, x4⟩
  have hbT4 := hide (hbT.out.ext (x4.alloc (.cells #[.int .i64 n, .slice pw cs.length qw] 66)))
  have hbU4 : Box (w4.alloc (.cells #[.int .i64 n, .slice pw cs.length qw] 66)) w4.heap.size _ := Box.new w4 _ _
  have X4 : Hid (Ext w (w4.alloc (.cells #[.int .i64 n, .slice pw cs.length qw] 66))) := (X3.out.trans x4).alloc _
  have T4 := hide (T3.out.ext (x4.alloc (.cells #[.int .i64 n, .slice pw cs.length qw] 66)))
  have hW4 := hide (OW.ext ((Ext.refl w4).alloc (.cells #[.int .i64 n, .slice pw cs.length qw] 66)))
  have hR4 := hide (hR3.out.ext (x4.alloc (.cells #[.int .i64 n, .slice pw cs.length qw] 66)))
  have hz4 : T + 1 ≤ (w4.alloc (.cells #[.int .i64 n, .slice pw cs.length qw] 66)).heap.size := by have := x4.size; simp; omega
  replace hbU4 := hide hbU4
  clear x4 X3 OW hbT hR3 hK3 T3 hS hI
  have k0 := hbT4.out 0 _ rfl
  have k1 := hbT4.out 1 _ rfl
  have j0 := hbU4.out 0 _ rfl
  have j1 := hbU4.out 1 _ rfl
  have hnn : ((n : Int) != n) = false := by simp
  have hcc : ((cs.length : Int) != cs.length) = false := by simp
  go_wp2
  generalize (w4.alloc (.cells #[.int .i64 n, .slice pw cs.length qw] 66)) = Y at *
  generalize w4.heap.size = U at *
  clear k0 k1 j0 j1
  have hG4 := hide (T4.out.at hl.out)
  go_loopw [14] (fun i wr => ∃ k : Nat, i = .int .i64 k ∧ k ≤ cs.length ∧ Hid (Ext Y wr)) (fun i _ => cs.length - (intOf i).toNat)
  case atStart => exact ⟨0, rfl, by omega, Ext.refl Y⟩
  obtain ⟨k, rfl, hk, hext⟩ := hrel
  have k0 := (hbT4.out.ext hext.out) 0 _ rfl
  have k1 := (hbT4.out.ext hext.out) 1 _ rfl
  have j1 := (hbU4.out.ext hext.out) 1 _ rfl
  by_cases hlt : k < cs.length
  · have hlt' : (k : Int) < cs.length := by omega
    obtain ⟨b, off, a1, a2, a3, a4, c1, c2, c3, c4, rfl, ⟨g0, g1, g2, g3, g4⟩, hca, _⟩ := (hG4.out.ext hext.out) k hlt
    obtain ⟨b', off', p1, p2, p3, p4, q1, q2, q3, q4, rfl, ⟨f0, f1, f2, f3, f4⟩, hcb, _⟩ := (hW4.out.ext hext.out) k hlt
    have hlk := hide (hl.out k hlt)
    replace hca := hide hca
    replace hcb := hide hcb
    generalize cs.getD k col0 = C at *
    obtain ⟨ck, cp, cd, cc, cr⟩ := C
    simp only at g0 g1 g2 g3 g4 f0 f1 f2 f3 f4
    go_wp2
    refine Dr.region_text (by kernel_rfl) ?_
    go_wp2_with fail
    refine (ColumnEqual ⟨ck, cp, cd, cc, cr⟩ a1 a2 a3 a4 p1 p2 p3 p4 c1 c2 c3 c4 q1 q2 q3 q4 _ (hca.out.extC (Ext.refl _).drew) (hcb.out.extC (Ext.refl _).drew) hlk).mono ?_
    rintro e w5 ⟨rfl, x5⟩
    have X5 : Hid (Ext Y w5) := hext.out.drew.trans x5
    clear x5
    go_wp2
    refine ⟨by rfl, ?_⟩
    go_wp2
    go_roundw
    case rel => exact ⟨k + 1, by go_num, by omega, X5.out⟩
    case measure => simp [intOf]; omega
  obtain rfl : k = cs.length := by omega
  clear hlt hk j1
  obtain ⟨Z, rfl⟩ : ∃ Z, Z = wr := ⟨_, rfl⟩
  go_wp2_with fail
  clear k0 k1
  refine (ValidTable cs n pg qg Z (hG4.out.ext hext.out) (by omega)).mono ?_
  rintro e w5 ⟨b, rfl, hb, x5⟩
  obtain rfl : b = true := hb.2 hV.out
  have X5 : Hid (Ext Y w5) := hext.out.trans x5
  clear hb x5 hext
  have k0 := (hbT4.out.ext X5.out) 0 _ rfl
  have k1 := (hbT4.out.ext X5.out) 1 _ rfl
  go_wp2_with fail
  clear k0 k1
  refine (DecodeTable_yes cs n pg qg w5 (hG4.out.ext X5.out) hV.out.2.2.1 (by have := hV.out.2.1; omega) hV).mono ?_
  rintro e w6 ⟨pd, qd, rfl, OD, x6⟩
  have z6 := x6.size
  have z5 := X5.out.size
  have OD6 : Hid (OwnRows w6 w5.heap.size w6.heap.size pd qd n f) := OD.congr hrt.out
  have X6 : Hid (Ext Y w6) := X5.out.trans x6
  clear x6 OD X5
  go_wp2_with fail
  refine (RowsEqual n f pd pr qd qr w6 OD6.out.at (hR4.out.ext X6.out) hlf ln).mono ?_
  rintro e w7 ⟨rfl, x7⟩
  have z7 := x7.size
  have OD7 := hide (OD6.out.ext x7)
  have X7 : Hid (Ext Y w7) := X6.out.trans x7
  clear x7 X6 OD6
  go_wp2_with fail
  refine (sepRows n f pd qd w5.heap.size w6.heap.size w7 OD7 (by omega) hlf ln).mono ?_
  rintro e w8 ⟨rfl, _, b8⟩
  have X8 : Hid (Ext Y w8) := But.ext ((But.of_ext X7.out).trans b8) (fun q hr => by have := hr.1; omega)
  clear b8 X7 OD7
  have k0 := (hbT4.out.ext X8.out) 0 _ rfl
  have k1 := (hbT4.out.ext X8.out) 1 _ rfl
  have z8 := X8.out.size
  go_wp2_with fail
  clear k0 k1
  refine (sepTable cs n rows lo hi pg qg B0 T w8 (T4.out.ext X8.out) (by omega) hl lc2).mono ?_
  rintro e w9 ⟨rfl, _, b9⟩
  have X9 : Hid (Ext w w9) := But.ext ((But.of_ext (X4.out.trans X8.out)).trans b9) (fun q hr => by have := hr.1; omega)
  clear b9
  go_wp2
  go_ret
  exact ⟨rfl, X9.out⟩

set_option maxHeartbeats 1000000 in
theorem fnTable_big (l lz : Nat) (a az : Option Addr) (c cz : Nat) (wd : Int) (w : World) (hb : 1048576 < (l : Int) ∨ 1048576 < (lz : Int)) :
    Calls Yaan.prog 8 #[.slice a l c, .int .u8 wd, .slice az lz cz] w (TrueE w) := by
  by_cases h1 : 1048576 < (l : Int)
  · go_enter Yaan.func8, Yaan.ntmps8
    go_wp2
    go_ret
    exact ⟨rfl, Ext.refl w⟩
  · have h2 : 1048576 < (lz : Int) := by omega
    clear hb
    go_enter Yaan.func8, Yaan.ntmps8
    go_wp2
    go_ret
    exact ⟨rfl, Ext.refl w⟩

theorem fnTable_walk (cells zs : List Int) (a az : Option Addr) (c cz : Nat) (wd : Int) (w : World) (h : IntsAt w a cells) (hz : BytesAt w az zs) (w0 : 0 ≤ wd) (w1 : wd < 256) :
    Calls Yaan.prog 8 #[.slice a cells.length c, .int .u8 wd, .slice az zs.length cz] w (TrueE w) := by
  by_cases hb : 1048576 < (cells.length : Int) ∨ 1048576 < (zs.length : Int)
  · exact fnTable_big cells.length zs.length a az c cz wd w hb
  obtain ⟨m, hm⟩ := Int.eq_ofNat_of_zero_le (show 0 ≤ wd % 9 by omega)
  have m1 : m < 9 := by omega
  have hKF : ∀ w', Ext w w' → Calls Yaan.prog 39 #[.slice az zs.length cz, .int .i64 m, .int .i64 4] w' (RetInts 3 (kindsF zs m) w') := fun w' hx => KindsFrom zs az cz m w' (hz.ext hx) (by omega) (by omega)
  have hkl := kindsF_len zs m
  obtain ⟨n, f, ln, hlf, hRF⟩ : ∃ (n : Nat) (f : Nat → List Int), n < 2 ^ 39 ∧ (∀ i, i < n → (f i).length < 2 ^ 39) ∧ Calls Yaan.prog 38 #[.slice a cells.length c, .int .i64 m] w (RetR1 n f w) := by
    by_cases m0 : m = 0
    · subst m0
      exact ⟨cells.length, fun _ => [], by omega, fun i hi => by simp, RowsFrom_0 cells a c w (by omega)⟩
    · refine ⟨cells.length / m, rowsF cells m, ?_, fun i hi => ?_, RowsFrom_1 cells a c m w h (by omega) (by omega) (by omega)⟩
      · have := Nat.div_le_self cells.length m; omega
      · have : (rowsF cells m i).length ≤ m := by simp [rowsF]; omega
        omega
  by_cases hB : BOK n f (kindsF zs m)
  · have hcl := colsT_len n f (kindsF zs m)
    refine fnTable_yes cells zs a az c cz wd m n f (kindsF zs m) w (by omega) (by omega) w0 w1 hm m1 hRF hKF ln (by omega) hlf (colsT n f (kindsF zs m)) (colsT_valid hB) (fun i hi => rowT_colsT hB i hi) (by omega) (fun i hi => ?_) ?_ ?_
    · rw [colsT_at n f _ i (by omega)]
      exact encOf_len _ _
    · intro a ak c ck w h1 h2
      exact (BuildTable n f _ a ak c ck w h1 h2 ln (by omega) hlf).mono (fun e w' hh => by
        rcases hh with hh | hh
        · exact hh.2
        · exact absurd hB hh.1)
    · intro a ak c ck w h1 h2
      exact (RefBuildTable n f _ a ak c ck w h1 h2 ln (by omega) hlf).mono (fun e w' hh => by
        rcases hh with hh | hh
        · exact hh.2
        · exact absurd hB hh.1)
  · exact fnTable_no cells zs a az c cz wd m n f (kindsF zs m) w (by omega) (by omega) w0 w1 hm m1 hRF hKF ln (by omega) hlf hB
end Go.Proofs.Ybyaaw
