/- Walk: laws.FnExactTokenize -/
import Derived.Test.YbyabwLex2
import Derived.Test.YbyabwLex3
import Derived.Test.YbyabwToks
namespace Go.Proofs.Ybyabw
open Go.RowKit
set_option maxRecDepth 100000
set_option linter.unusedVariables false

theorem Tokenize (s : ByteArray) (w : World) : Calls Yabn.prog 15 #[.string s] w (RetToks (tokens s) w) := by
  by_cases h : 65536 < (s.size : Int)
  · exact Tokenize_big s w h
  · exact Tokenize_main s w h
theorem RefTokenize (s : ByteArray) (w : World) : Calls Yabn.prog 16 #[.string s] w (RetToks (tokens s) w) := by
  by_cases h : 65536 < (s.size : Int)
  · exact RefTokenize_big s w h
  · exact RefTokenize_main s w h

/-- The tokenizers' answer as one list and one bool. -/
def RetTk (ts : List (Int × Int)) (b : Bool) (w : World) : Ending → World → Prop := fun en w' => ∃ a cap, en = .returned (.tuple #[.slice a ts.length cap, .bool b]) ∧ OwnP w' w.heap.size 110 (.slice a ts.length cap) ts ∧ Ext w w'
theorem RetToks.tk {R : Option (List (Int × Int))} {w w' : World} {en : Ending} (h : RetToks R w en w') : (R.getD []).length ≤ 65536 ∧ RetTk (R.getD []) R.isSome w en w' := by
  obtain ⟨hx, ⟨rfl, rfl⟩ | ⟨ts, a, cap, rfl, rfl, hl, ho⟩⟩ := h
  · exact ⟨by simp, none, 0, rfl, OwnP.nil _ _ _, hx⟩
  · exact ⟨hl, a, cap, rfl, ho, hx⟩

def TrueE (w : World) : Ending → World → Prop := fun e w' => e = .returned (.bool true) ∧ Ext w w'

set_option maxHeartbeats 1000000 in
theorem fnExactTokenize_big (s : ByteArray) (w : World) (h : 1048576 < (s.size : Int)) : Calls Yabn.prog 12 #[.string s] w (TrueE w) := by
  go_enter Yabn.func12, Yabn.ntmps12
  go_wp2
  go_ret
  exact ⟨rfl, Ext.refl w⟩

set_option maxHeartbeats 2000000 in
theorem fnExactTokenize_main (s : ByteArray) (w : World) (h : ¬ 1048576 < (s.size : Int)) : Calls Yabn.prog 12 #[.string s] w (TrueE w) := by
  have hT := fun w => (Tokenize s w).mono (fun _ _ h => h.tk)
  have hR := fun w => (RefTokenize s w).mono (fun _ _ h => h.tk)
  generalize (tokens s).getD [] = ts at *
  generalize (tokens s).isSome = ok at *
  replace hT := hide hT
  replace hR := hide hR
  go_enter Yabn.func12, Yabn.ntmps12
  go_wp2_with fail
  refine (hR.out w).mono ?_
  rintro e w1 ⟨hl, p1, q1, rfl, o1, x1⟩
  have l1 : ts.length < 2 ^ 39 := by omega
  have hp1 := hide o1.pairs
  clear o1 hR hl
  replace x1 := hide x1
  go_wp2_with fail
  refine (cvTokens ts p1 q1 w1 hp1 l1).mono ?_
  rintro e w2 ⟨p2, q2, rfl, o2, x2⟩
  have hx2 := hide (x1.out.trans x2)
  have hp2 := hide o2.pairs
  clear o2 x2 hp1 x1
  go_wp2_with fail
  refine (hT.out w2).mono ?_
  rintro e w3 ⟨_, p3, q3, rfl, o3, x3⟩
  replace o3 := hide o3
  replace x3 := hide x3
  go_wp2_with fail
  refine (cvTokens ts p3 q3 w3 (o3.out.pairs) l1).mono ?_
  rintro e w4 ⟨p4, q4, rfl, o4, x4⟩
  replace o4 := hide o4
  replace x4 := hide x4
  go_wp2_with fail
  refine (eqLTokens ts p4 p2 q4 q2 w4 (o4.out.pairs) (hp2.out.ext (x3.out.trans x4.out)) l1).mono ?_
  rintro e w5 ⟨rfl, x5⟩
  have o5 := hide (o3.out.ext (x4.out.trans x5))
  have x5' := hide ((x3.out.trans x4.out).trans x5)
  have hz2 := x5'.out.size
  clear o3 x3 o4 x4 x5
  go_wp2_with fail
  go_loopw [8] (fun i wr => ∃ k : Nat, i = .int .i64 k ∧ k ≤ 2 ∧ Hid (OwnP wr w2.heap.size 110 (.slice p3 ts.length q3) ts) ∧ Hid (Ext w2 wr)) (fun i _ => 2 - (intOf i).toNat)
  case atStart => exact ⟨0, rfl, by omega, o5, x5'⟩
  clear o5 x5' hz2
  obtain ⟨k, rfl, hk, o5, x5⟩ := hrel
  have hz5 := x5.out.size
  by_cases hk2 : k < 2
  · have hk2' : (k : Int) < 2 := by omega
    go_wp2_with fail
    refine (prTokens ts p3 q3 w2.heap.size (k : Int) wr o5 hz5 l1 (by omega) (by omega)).mono ?_
    rintro e w6 ⟨rfl, o6, b6⟩
    have x6 : Ext w2 w6 := Below.trans x5.out b6
    replace o6 := hide o6
    replace x6 := hide x6
    clear b6
    go_wp2_with fail
    refine (cvTokens ts p3 q3 w6 (o6.out.pairs) l1).mono ?_
    rintro e w7 ⟨p7, q7, rfl, o7, x7⟩
    replace o7 := hide o7
    replace x7 := hide x7
    go_wp2_with fail
    refine (eqLTokens ts p7 p2 q7 q2 w7 (o7.out.pairs) (hp2.out.ext (x6.out.trans x7.out)) l1).mono ?_
    rintro e w8 ⟨rfl, x8⟩
    replace x8 := hide x8
    go_wp2_with fail
    go_roundw
    case rel => exact ⟨k + 1, by go_num, by omega, o6.out.ext (x7.out.trans x8.out), (x6.out.trans x7.out).trans x8.out⟩
    case measure => simp [intOf]; omega
  · obtain rfl : k = 2 := by omega
    clear hk hk2
    go_wp2_with fail
    refine (scTokens ts p3 q3 w2.heap.size wr o5 l1).mono ?_
    rintro e w6 ⟨rfl, b6⟩
    have x6 : Ext w2 w6 := Below.trans x5.out b6
    replace x6 := hide x6
    clear b6 o5 x5
    go_wp2_with fail
    refine (hT.out w6).mono ?_
    rintro e w7 ⟨_, p7, q7, rfl, o7, x7⟩
    replace o7 := hide o7
    replace x7 := hide x7
    go_wp2_with fail
    refine (cvTokens ts p7 q7 w7 (o7.out.pairs) l1).mono ?_
    rintro e w8 ⟨p8, q8, rfl, o8, x8⟩
    replace o8 := hide o8
    replace x8 := hide x8
    go_wp2_with fail
    refine (eqLTokens ts p8 p2 q8 q2 w8 (o8.out.pairs) (hp2.out.ext ((x6.out.trans x7.out).trans x8.out)) l1).mono ?_
    rintro e w9 ⟨rfl, x9⟩
    replace x9 := hide x9
    go_wp2
    go_ret
    exact ⟨by simp, (((hx2.out.trans x6.out).trans x7.out).trans x8.out).trans x9.out⟩
end Go.Proofs.Ybyabw
