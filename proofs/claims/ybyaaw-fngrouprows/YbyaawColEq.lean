/- Walk: spec.ColumnEqual, at two columns that read the same -/
import Derived.Test.YbyaawColL
import Derived.Test.YbyaawCol3
namespace Go.Proofs.Ybyaaw
open Go.RowKit
set_option maxRecDepth 100000
set_option linter.unusedVariables false

theorem Int64sEqual_same (xs : List Int) (a1 a2 : Option Addr) (c1 c2 : Nat) (w : World) (h1 : IntsAt w a1 xs) (h2 : IntsAt w a2 xs) (l : xs.length < 2 ^ 39) :
    Calls Yaan.prog 29 #[.slice a1 xs.length c1, .slice a2 xs.length c2] w (RetTrue w) := by
  refine (Int64sEqual xs xs a1 a2 c1 c2 w h1 h2 (by omega) (by omega)).mono ?_
  rintro e w' ⟨b, rfl, hb, hx⟩
  obtain rfl : b = true := hb.2 rfl
  exact ⟨rfl, hx⟩
theorem IntsEqual_same (xs : List Int) (a1 a2 : Option Addr) (c1 c2 : Nat) (w : World) (h1 : IntsAt w a1 xs) (h2 : IntsAt w a2 xs) (l : xs.length < 2 ^ 39) :
    Calls Yaan.prog 55 #[.slice a1 xs.length c1, .slice a2 xs.length c2] w (RetTrue w) := by
  refine (IntsEqual xs xs a1 a2 c1 c2 w h1 h2 (by omega) (by omega)).mono ?_
  rintro e w' ⟨b, rfl, hb, hx⟩
  obtain rfl : b = true := hb.2 rfl
  exact ⟨rfl, hx⟩

set_option maxHeartbeats 4000000 in
theorem ColumnEqual (c : Col) (a1 a2 a3 a4 b1 b2 b3 b4 : Option Addr) (c1 c2 c3 c4 d1 d2 d3 d4 : Nat) (w : World) (h1 : Hid (ColAt w c a1 a2 a3 a4)) (h2 : Hid (ColAt w c b1 b2 b3 b4)) (hl : Hid (LenC c)) :
    Calls Yaan.prog 30 #[.agg (cellsC c a1 a2 a3 a4 c1 c2 c3 c4).toArray, .agg (cellsC c b1 b2 b3 b4 d1 d2 d3 d4).toArray] w (RetTrue w) := by
  obtain ⟨kind, pl, di, co, ru⟩ := c
  have hbA : Box ((w.alloc (.cells #[.int .i64 kind, .slice a1 pl.length c1, .slice a2 di.length c2, .slice a3 co.length c3, .slice a4 ru.length c4] 51)).alloc (.cells #[.int .i64 kind, .slice b1 pl.length d1, .slice b2 di.length d2, .slice b3 co.length d3, .slice b4 ru.length d4] 51)) w.heap.size _ := (Box.new w _ _).alloc _
  have hbB : Box ((w.alloc (.cells #[.int .i64 kind, .slice a1 pl.length c1, .slice a2 di.length c2, .slice a3 co.length c3, .slice a4 ru.length c4] 51)).alloc (.cells #[.int .i64 kind, .slice b1 pl.length d1, .slice b2 di.length d2, .slice b3 co.length d3, .slice b4 ru.length d4] 51)) (w.heap.size + 1) [.int .i64 kind, .slice b1 pl.length d1, .slice b2 di.length d2, .slice b3 co.length d3, .slice b4 ru.length d4] := by
    have := Box.new (w.alloc (.cells #[.int .i64 kind, .slice a1 pl.length c1, .slice a2 di.length c2, .slice a3 co.length c3, .slice a4 ru.length c4] 51)) #[.int .i64 kind, .slice b1 pl.length d1, .slice b2 di.length d2, .slice b3 co.length d3, .slice b4 ru.length d4] 51
    simpa using this
  have hx0 : Ext w ((w.alloc (.cells #[.int .i64 kind, .slice a1 pl.length c1, .slice a2 di.length c2, .slice a3 co.length c3, .slice a4 ru.length c4] 51)).alloc (.cells #[.int .i64 kind, .slice b1 pl.length d1, .slice b2 di.length d2, .slice b3 co.length d3, .slice b4 ru.length d4] 51)) := ((Ext.refl w).alloc _).alloc _
  have hl1 := hl.out.plain
  have hl2 := hl.out.dict
  have hl3 := hl.out.codes
  have hl4 := hl.out.runs
  simp only at hl1 hl2 hl3 hl4
  have hkk : (kind != kind) = false := by simp
  have hrr : ((ru.length : Int) != ru.length) = false := by simp
  replace hbA := hide hbA
  replace hbB := hide hbB
  replace hx0 := hide hx0
  simp only [cellsC]
  go_enter Yaan.func30, Yaan.ntmps30
  go_wp2_with fail
  generalize ((w.alloc (.cells #[.int .i64 kind, .slice a1 pl.length c1, .slice a2 di.length c2, .slice a3 co.length c3, .slice a4 ru.length c4] 51)).alloc (.cells #[.int .i64 kind, .slice b1 pl.length d1, .slice b2 di.length d2, .slice b3 co.length d3, .slice b4 ru.length d4] 51)) = W at *
  refine (Int64sEqual_same pl a1 b1 c1 d1 W (h1.out.plain.ext hx0.out) (h2.out.plain.ext hx0.out) hl1).mono ?_
  rintro e w1 ⟨rfl, x1⟩
  have mA := (hbA.out.ext x1) 2 _ rfl
  have mB := (hbB.out.ext x1) 2 _ rfl
  have X1 : Hid (Ext W w1) := x1
  clear x1
  go_wp2_with fail
  refine (Int64sEqual_same di a2 b2 c2 d2 w1 (h1.out.dict.ext (hx0.out.trans X1.out)) (h2.out.dict.ext (hx0.out.trans X1.out)) hl2).mono ?_
  rintro e w2 ⟨rfl, x2⟩
  clear mA mB
  have X2 : Hid (Ext W w2) := X1.out.trans x2
  have mA := (hbA.out.ext X2.out) 3 _ rfl
  have mB := (hbB.out.ext X2.out) 3 _ rfl
  clear x2
  go_wp2_with fail
  refine (IntsEqual_same co a3 b3 c3 d3 w2 (h1.out.codes.ext (hx0.out.trans X2.out)) (h2.out.codes.ext (hx0.out.trans X2.out)) hl3).mono ?_
  rintro e w3 ⟨rfl, x3⟩
  clear mA mB
  have X3 : Hid (Ext W w3) := X2.out.trans x3
  have mA := (hbA.out.ext X3.out) 4 _ rfl
  have mB := (hbB.out.ext X3.out) 4 _ rfl
  clear x3
  go_wp2_with fail
  clear mA mB
  go_loopw [5] (fun i wr => ∃ k : Nat, i = .int .i64 k ∧ k ≤ ru.length ∧ Hid (Ext W wr)) (fun i _ => ru.length - (intOf i).toNat)
  case atStart => exact ⟨0, rfl, by omega, X3⟩
  clear X3 X2 X1
  obtain ⟨k, rfl, hk, hext⟩ := hrel
  have mA := (hbA.out.ext hext.out) 4 _ rfl
  have mB := (hbB.out.ext hext.out) 4 _ rfl
  by_cases hlt : k < ru.length
  · have hlt' : (k : Int) < ru.length := by omega
    obtain ⟨b1, o1, rfl, g1, g2⟩ := (h1.out.runs.ext (hx0.out.trans hext.out)) k hlt
    obtain ⟨b2, o2, rfl, g3, g4⟩ := (h2.out.runs.ext (hx0.out.trans hext.out)) k hlt
    generalize ru.getD k (0, 0) = y at *
    obtain ⟨y1, y2⟩ := y
    simp only at g1 g2 g3 g4
    go_wp2
    refine Dr.region_text (by kernel_rfl) ?_
    go_wp2
    refine ⟨by rfl, ?_⟩
    go_wp2
    go_roundw
    case rel => exact ⟨k + 1, by go_num, by omega, hext.out.drew⟩
    case measure => simp [intOf]; omega
  · obtain rfl : k = ru.length := by omega
    clear hlt hk
    go_wp2
    go_ret
    exact ⟨rfl, hx0.out.trans hext.out⟩
end Go.Proofs.Ybyaaw
