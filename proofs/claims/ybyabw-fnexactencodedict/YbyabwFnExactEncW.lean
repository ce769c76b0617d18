/- Walks: laws.FnExactEncodePlain, FnExactEncodeDict, FnExactEncodeRLE -/
import Derived.Test.YbyabwExactEnc
namespace Go.Proofs.Ybyabw
open Go.RowKit
set_option maxRecDepth 100000
set_option linter.unusedVariables false

set_option maxHeartbeats 1000000 in
theorem fnExactEncodePlain_walk (xs : List Int) (a : Option Addr) (c : Nat) (w : World) (h : IntsAt w a xs) : Calls Yabn.prog 5 #[.slice a xs.length c] w (TrueE w) := by
  replace h := hide h
  by_cases hb : 1048576 < (xs.length : Int)
  · go_enter Yabn.func5, Yabn.ntmps5
    go_wp2
    go_ret
    exact ⟨rfl, Ext.refl w⟩
  · go_enter Yabn.func5, Yabn.ntmps5
    go_wp2_with (go_at_call 24; refine (exactEncode xs a c 0 w h (by omega) (by omega)).mono ?_; rintro e w1 ⟨rfl, x1⟩; replace x1 := hide x1)
    go_ret
    exact ⟨rfl, x1.out⟩

set_option maxHeartbeats 1000000 in
theorem fnExactEncodeDict_walk (xs : List Int) (a : Option Addr) (c : Nat) (w : World) (h : IntsAt w a xs) : Calls Yabn.prog 6 #[.slice a xs.length c] w (TrueE w) := by
  replace h := hide h
  by_cases hb : 1048576 < (xs.length : Int)
  · go_enter Yabn.func6, Yabn.ntmps6
    go_wp2
    go_ret
    exact ⟨rfl, Ext.refl w⟩
  · go_enter Yabn.func6, Yabn.ntmps6
    go_wp2_with (go_at_call 24; refine (exactEncode xs a c 1 w h (by omega) (by omega)).mono ?_; rintro e w1 ⟨rfl, x1⟩; replace x1 := hide x1)
    go_ret
    exact ⟨rfl, x1.out⟩

set_option maxHeartbeats 1000000 in
theorem fnExactEncodeRLE_walk (xs : List Int) (a : Option Addr) (c : Nat) (w : World) (h : IntsAt w a xs) : Calls Yabn.prog 7 #[.slice a xs.length c] w (TrueE w) := by
  replace h := hide h
  by_cases hb : 1048576 < (xs.length : Int)
  · go_enter Yabn.func7, Yabn.ntmps7
    go_wp2
    go_ret
    exact ⟨rfl, Ext.refl w⟩
  · go_enter Yabn.func7, Yabn.ntmps7
    go_wp2_with (go_at_call 24; refine (exactEncode xs a c 2 w h (by omega) (by omega)).mono ?_; rintro e w1 ⟨rfl, x1⟩; replace x1 := hide x1)
    go_ret
    exact ⟨rfl, x1.out⟩

end Go.Proofs.Ybyabw
