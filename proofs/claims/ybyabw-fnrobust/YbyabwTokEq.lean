/- Walk: spec.TokensEqual, at two lists that are the same -/
import Derived.Test.YbyabwDraw
import Derived.Test.YbyabwProg
import Derived.Test.YbyabwPairs0
namespace Go.Proofs.Ybyabw
open Go.RowKit
set_option maxRecDepth 100000
set_option linter.unusedVariables false

set_option maxHeartbeats 2000000 in
theorem TokensEqual_same (ts : List (Int × Int)) (a1 a2 : Option Addr) (c1 c2 : Nat) (w : World) (h1 : Hid (PairsAt w a1 ts)) (h2 : Hid (PairsAt w a2 ts)) (hl : ts.length < 2 ^ 39) :
    Calls Yabn.prog 17 #[.slice a1 ts.length c1, .slice a2 ts.length c2] w (RetTrue w) := by
  have hrr : ((ts.length : Int) != ts.length) = false := by simp
  go_enter Yabn.func17, Yabn.ntmps17
  go_wp2
  go_loopw [5] (fun i wr => ∃ k : Nat, i = .int .i64 k ∧ k ≤ ts.length ∧ Hid (Ext w wr)) (fun i _ => ts.length - (intOf i).toNat)
  case atStart => exact ⟨0, rfl, by omega, Ext.refl w⟩
  obtain ⟨k, rfl, hk, hext⟩ := hrel
  by_cases hlt : k < ts.length
  · have hlt' : (k : Int) < ts.length := by omega
    obtain ⟨b1, o1, rfl, g1, g2⟩ := (h1.out.ext hext.out) k hlt
    obtain ⟨b2, o2, rfl, g3, g4⟩ := (h2.out.ext hext.out) k hlt
    generalize ts.getD k (0, 0) = y at *
    obtain ⟨y1, y2⟩ := y
    simp only at g1 g2 g3 g4
    have e1 : (y1 != y1) = false := by simp
    have e2 : (y2 != y2) = false := by simp
    go_wp2
    refine Dr.region_text (by kernel_rfl) ?_
    go_wp2
    refine ⟨by rfl, ?_⟩
    go_wp2
    go_roundw
    case rel => exact ⟨k + 1, by go_num, by omega, hext.out.drew⟩
    case measure => simp [intOf]; omega
  · obtain rfl : k = ts.length := by omega
    clear hlt hk
    go_wp2
    go_ret
    exact ⟨rfl, hext.out⟩
end Go.Proofs.Ybyabw
