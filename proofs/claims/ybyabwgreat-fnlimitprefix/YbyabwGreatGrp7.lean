/- Walk: spec.groupKeys where there is no column to group by -/
import Derived.Test.YbyabwGreatGrp6
namespace Go.Proofs.YbyabwGreat
open Go.RowKit
set_option maxRecDepth 100000
set_option linter.unusedVariables false
set_option linter.unusedSimpArgs false

set_option maxHeartbeats 4000000 in
theorem groupKeys_nil (ra sa ga : Option Addr) (rc sc gc N m : Nat) (w : World) (hm : m ≤ 65536) :
    Calls Yabn.prog 64 #[.slice ra N rc, .slice sa m sc, .slice ga 0 gc] w (RetGK [] (List.replicate m 0) w) := by
  go_enter Yabn.func64, Yabn.ntmps64
  go_wp2_with fail
  go_loopw [8, 9] (fun v i wr => ∃ t : Nat, i = .int .i64 t ∧ t ≤ m ∧ Hid (OwnI wr w.heap.size 3 v (List.replicate t 0)) ∧ Hid (Ext w wr)) (fun _ i _ => m - (intOf i).toNat)
  case atStart => exact ⟨0, rfl, Nat.zero_le _, OwnI.nil _ _ _, Ext.refl w⟩
  obtain ⟨t, rfl, ht, hO, hX⟩ := hrel
  by_cases htm : t < m
  · have htm' : (t : Int) < m := by omega
    have hT : Hid (List.replicate (t + 1) (0 : Int) = List.replicate t 0 ++ [0]) := List.replicate_succ'
    have hln : Hid ((List.replicate t (0 : Int)).length < 2 ^ 39) := by show _ < _; rw [List.length_replicate]; omega
    generalize List.replicate t (0 : Int) = J at *
    have hX3 : Hid (Ext w (wr.alloc (.cells #[.int .i64 0] 3))) := hX.out.alloc _
    have hG3 := hide (OwnI.alloc hO.out (.cells #[.int .i64 0] 3))
    have hblk := hide (heap_alloc_new wr (.cells #[.int .i64 0] 3))
    go_wp2_with (at_builtin; refine app_int rfl rfl w.heap.size hX3.out.size _ J 0 rfl hG3.out wr.heap.size 1 (by rfl) hblk.out hln.out ?_; intro g7 cap7 w7 O7 hgr7 hor7 hlt7; have hX7 : Hid (Ext w w7) := hX3.out.grown hgr7 (fun q hq => (World.ownsRow.lt hG3.out q hq).1); have hO7 := hide O7; clear O7 hgr7 hor7 hlt7)
    go_roundw
    case rel => exact ⟨t + 1, by go_num, by omega, by rw [hT.out]; exact hO7.out, hX7.out⟩
    case measure => simp [intOf]; omega
  · obtain rfl : t = m := by omega
    have htm' : ¬ (t : Int) < t := by omega
    obtain ⟨J, hJ⟩ : ∃ J, Hid (List.replicate t (0 : Int) = J) := ⟨_, rfl⟩
    rw [hJ.out] at hO
    obtain ⟨pa, pc, rfl, _⟩ := hO.out.form
    go_wp2_with fail
    go_ret2
    refine ⟨none, 0, pa, pc, ?_, fun i hi => by simp at hi, ?_, hX.out⟩
    · rw [hJ.out]; rfl
    · rw [hJ.out]; exact hO.out
end Go.Proofs.YbyabwGreat
