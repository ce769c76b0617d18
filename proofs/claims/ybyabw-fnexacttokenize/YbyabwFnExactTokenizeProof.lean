import Derived.Test.YbyabwRows
import Derived.WalkKit
import Derived.ProofKit
import Derived.OpenShut
import Derived.ShutString
import Derived.ChangeOld
import Derived.Below
import Derived.Test.YbyabwFnExactTokenizeW
namespace Go.Proofs.Ybyabw.fnExactTokenize
open Go.ChangeShapes Go.WideShapes Go.ChangeAt Go.RowKit
open Go.ChangeMaps (open_string shut_string)
set_option linter.unusedVariables false

theorem own : ownKnob Yabn.prog.godebug = none := by kernel_rfl


theorem walk (a0 : ByteArray) (w0 : a0.size ≤ maxLen) (w : World) :
    Calls Yabn.prog 12 #[.string a0] w fun e w' => e = .returned (.bool true) ∧ Below w.heap.size w w' := by
  by_cases h : 1048576 < (a0.size : Int)
  · exact fnExactTokenize_big a0 w h
  · exact fnExactTokenize_main a0 w h

/-! ### THE ROW's STEP: WRITTEN OUT: LEAVE IT -/
set_option maxRecDepth 100000 in
theorem lifted (os : Os) (started : os.Started) (H : Type) (enc : TypeId × Value → H) :
    ReturnsInHanded {} Yabn.checked os 12 .any (Rows.fnExactTokenizeSpec.pre6 enc Yabn.prog Yabn.f12 Rows.fnExactTokenizeRow.domain false) (Rows.fnExactTokenizeSpec.post enc Yabn.prog Yabn.f12 false true false false) := by
  refine returnsInHanded_of_change (C := Yabn.checked) own started (by kernel_rfl) Yabn.func12
    (ChangeSpec.witness6 (enc := enc) (C := Yabn.checked) false ⟨#[], #[.string ByteArray.empty], []⟩ 8 (by kernel_rfl) (by kernel_rfl) (by kernel_rfl) (by kernel_rfl)) ?_
  intro W base args ds gs before hval0 hW hcnd _
  have hval : ∀ (j : Nat) t v, Yabn.f12.params[j]? = some t → args[j]? = some v → Value.okWide Yabn.prog W .any base t v := hval0
  have hW' := hW
  obtain ⟨p, q, hA0, hV, rfl, hfz, hnd⟩ := hW
  have hA : DataW.TrodAll enc Yabn.prog W 0 (fun _ => true) true Yabn.f12.params.toList args.toList ds p := hA0
  rw [Yabn.params12] at hA hval
  obtain ⟨v0, vs0, d0, ds0, p0, q0, hargs, rfl, rfl, h0, r0⟩ := trodAll_cons hA
  obtain ⟨rfl, rfl, rfl⟩ := trodAll_nil r0
  obtain rfl : args = #[v0] := by cases args; simp_all
  obtain ⟨rfl, rfl⟩ := trodVars_none hV
  obtain ⟨a0, rfl, rfl, rfl, w0⟩ := open_string Yabn.underlying9 (hval 0 9 v0 rfl rfl) h0
  clear hA0 hval0
  simp only [List.append_nil] at hW'
  refine (walk a0 w0 W).mono fun e W' ⟨he, hg⟩ => ?_
  subst he
  exact ⟨_, rfl, _, _, _, [], _, [], hW', trodAll_mk1 (shut_bool Yabn.underlying4 _), (trodAll_cons_mk (shut_string Yabn.underlying9 w0) trodAll_mk0), rfl, hg.frame _, fun h => by cases h⟩

theorem over : Rows.fnExactTokenizeRow.holds Yabn.pinned (OpenSpec.ofChange Rows.fnExactTokenizeSpec) :=
  OpenClaim.holds_of_wide 12 Yabn.f12 rfl rfl rfl rfl rfl rfl rfl ⟨rfl, rfl, rfl, rfl, rfl⟩ rfl rfl rfl rfl rfl (by kernel_rfl) Yabn.func12 (by kernel_rfl)
    (of_decide_eq_true (by kernel_rfl)) (by unfold Func.isWrapper; first | (rw [if_pos (by decide +kernel)]; kernel_rfl) | (rw [if_neg (by decide +kernel)]; exact ⟨rfl, rfl⟩))
    (fun os started H enc _ => lifted os started H enc)

/-- ████ THE STATEMENT ████ -/
theorem proved : Rows.FnExactTokenizeSaid :=
  over
end Go.Proofs.Ybyabw.fnExactTokenize
