import Derived.Test.YbyabwOpenTab
import Derived.Test.YbyabwFnExactDecodeTableW
namespace Go.Proofs.Ybyabw.fnExactDecodeTable
open Go.ChangeShapes Go.WideShapes Go.ChangeAt Go.RowKit
open Go.ChangeMaps (open_string shut_string)
set_option linter.unusedVariables false

theorem own : ownKnob Yabn.prog.godebug = none := by kernel_rfl
theorem laidOut : laidOutB Yabn.prog = true := by kernel_rfl

set_option maxRecDepth 100000 in
theorem lifted (os : Os) (started : os.Started) (H : Type) (enc : TypeId × Value → H) :
    ReturnsInHanded {} Yabn.checked os 11 .any (Rows.fnExactDecodeTableSpec.pre6 enc Yabn.prog Yabn.f11 Rows.fnExactDecodeTableRow.domain false) (Rows.fnExactDecodeTableSpec.post enc Yabn.prog Yabn.f11 false true false false) := by
  refine returnsInHanded_of_change_sized (C := Yabn.checked) own started (by kernel_rfl) Yabn.func11
    (ChangeSpec.witness6 (enc := enc) (C := Yabn.checked) false ⟨#[], #[.agg #[.int .i64 0, .slice none 0 0]], []⟩ 8 (by kernel_rfl) (by kernel_rfl) (by kernel_rfl) (by kernel_rfl)) ?_
  intro W base args ds gs before hval0 hW hcnd hsz0 _
  have hval : ∀ (j : Nat) t v, Yabn.f11.params[j]? = some t → args[j]? = some v → Value.okWide Yabn.prog W .any base t v := hval0
  have hsz : (DataW.weightsEach Yabn.prog (Yabn.f11.params.toList ++ Rows.fnExactDecodeTableSpec.plain.varTypes Yabn.prog) (ds ++ gs)).all (· ≤ reachBytes) = true := hsz0
  have hW' := hW
  obtain ⟨p, q, hA0, hV, rfl, hfz, hnd⟩ := hW
  have hA : DataW.TrodAll enc Yabn.prog W 0 (fun _ => true) true Yabn.f11.params.toList args.toList ds p := hA0
  rw [Yabn.params11] at hA hval hsz
  obtain ⟨v0, vs0, d0, ds0, p0, q0, hargs, rfl, rfl, h0, r0⟩ := trodAll_cons hA
  obtain ⟨rfl, rfl, rfl⟩ := trodAll_nil r0
  obtain rfl : args = #[v0] := by cases args; simp_all
  obtain ⟨rfl, rfl⟩ := trodVars_none hV
  have k0 := h0
  have lt0 : ∀ x ∈ p0, x.block < W.heap.size := by obtain ⟨m, hm⟩ := k0; exact DataW.trod_lt m _ _ _ hm
  have hw0 : ∀ n ∈ d0.weights Yabn.prog 34, n ≤ reachBytes := fun n hn => by
    have := List.all_eq_true.1 hsz n (DataW.weights_mem_each (j := 0) rfl rfl n hn)
    simpa using this
  have hag : ∃ cs, v0 = .agg cs := by
    have hv0 := hval 0 34 v0 rfl rfl
    unfold Value.okWide at hv0
    rw [Yabn.underlying34] at hv0
    obtain ⟨cs, e, _⟩ := hv0
    exact ⟨cs, e⟩
  obtain ⟨cs, rfl⟩ := hag
  obtain ⟨n0, cl, a0, cap0, hcs, hcol, b1⟩ : ∃ (n : Int) (cl : List Col) (a : Option Addr) (cap : Nat), cs.toList = [.int .i64 n, .slice a cl.length cap] ∧ ColsAtW W a cl ∧ cl.length * 104 ≤ reachBytes := by
    obtain ⟨fuel, hf⟩ := h0
    exact OpenTab.open_tab hf hw0
  obtain rfl : cs = #[.int .i64 n0, .slice a0 cl.length cap0] := by rw [← Array.toArray_toList (xs := cs), hcs]
  clear hA0 hval0 hsz0 hsz
  unfold reachBytes at b1
  refine (fnExactDecodeTable_walk cl n0 a0 cap0 W hcol (by omega)).mono fun e W' ⟨he, bel⟩ => ?_
  subst he
  exact ⟨_, rfl, _, _, _, [], _, [], hW', trodAll_mk1 (shut_bool Yabn.underlying4 _), (trodAll_cons_mk (Below.trod laidOut (by kernel_rfl) (of_decide_eq_true (by kernel_rfl)) k0 bel lt0) trodAll_mk0), rfl, bel.frame _, fun h => by cases h⟩

theorem over : Rows.fnExactDecodeTableRow.holds Yabn.pinned (OpenSpec.ofChange Rows.fnExactDecodeTableSpec) :=
  OpenClaim.holds_of_wide 11 Yabn.f11 rfl rfl rfl rfl rfl rfl rfl ⟨rfl, rfl, rfl, rfl, rfl⟩ rfl rfl rfl rfl rfl (by kernel_rfl) Yabn.func11 (by kernel_rfl)
    (of_decide_eq_true (by kernel_rfl)) (by unfold Func.isWrapper; first | (rw [if_pos (by decide +kernel)]; kernel_rfl) | (rw [if_neg (by decide +kernel)]; exact ⟨rfl, rfl⟩))
    (fun os started H enc _ => lifted os started H enc)

/-- ████ THE STATEMENT ████ -/
theorem proved : Rows.FnExactDecodeTableSaid := over
end Go.Proofs.Ybyabw.fnExactDecodeTable
