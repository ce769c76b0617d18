import Derived.Test.YbyabwOpenRows
import Derived.Test.YbyabwFnExactBuildTableW
namespace Go.Proofs.Ybyabw.fnExactBuildTable
open Go.ChangeShapes Go.WideShapes Go.ChangeAt Go.RowKit
open Go.ChangeMaps (open_string shut_string)
set_option linter.unusedVariables false

theorem own : ownKnob Yabn.prog.godebug = none := by kernel_rfl
theorem laidOut : laidOutB Yabn.prog = true := by kernel_rfl

set_option maxRecDepth 100000 in
theorem lifted (os : Os) (started : os.Started) (H : Type) (enc : TypeId × Value → H) :
    ReturnsInHanded {} Yabn.checked os 10 .any (Rows.fnExactBuildTableSpec.pre6 enc Yabn.prog Yabn.f10 Rows.fnExactBuildTableRow.domain false) (Rows.fnExactBuildTableSpec.post enc Yabn.prog Yabn.f10 false true false false) := by
  refine returnsInHanded_of_change_sized (C := Yabn.checked) own started (by kernel_rfl) Yabn.func10
    (ChangeSpec.witness6 (enc := enc) (C := Yabn.checked) false ⟨#[], #[.slice none 0 0, .slice none 0 0], []⟩ 8 (by kernel_rfl) (by kernel_rfl) (by kernel_rfl) (by kernel_rfl)) ?_
  intro W base args ds gs before hval0 hW hcnd hsz0 _
  have hval : ∀ (j : Nat) t v, Yabn.f10.params[j]? = some t → args[j]? = some v → Value.okWide Yabn.prog W .any base t v := hval0
  have hsz : (DataW.weightsEach Yabn.prog (Yabn.f10.params.toList ++ Rows.fnExactBuildTableSpec.plain.varTypes Yabn.prog) (ds ++ gs)).all (· ≤ reachBytes) = true := hsz0
  have hW' := hW
  obtain ⟨p, q, hA0, hV, rfl, hfz, hnd⟩ := hW
  have hA : DataW.TrodAll enc Yabn.prog W 0 (fun _ => true) true Yabn.f10.params.toList args.toList ds p := hA0
  rw [Yabn.params10] at hA hval hsz
  obtain ⟨v0, vs0, d0, ds0, p0, q0, hargs, rfl, rfl, h0, r0⟩ := trodAll_cons hA
  obtain ⟨v1, vs1, d1, ds1, p1, q1, rfl, rfl, rfl, h1, r1⟩ := trodAll_cons r0
  obtain ⟨rfl, rfl, rfl⟩ := trodAll_nil r1
  obtain rfl : args = #[v0, v1] := by cases args; simp_all
  obtain ⟨rfl, rfl⟩ := trodVars_none hV
  have k0 := h0
  have lt0 : ∀ x ∈ p0, x.block < W.heap.size := by obtain ⟨m, hm⟩ := k0; exact DataW.trod_lt m _ _ _ hm
  have k1 := h1
  have lt1 : ∀ x ∈ p1, x.block < W.heap.size := by obtain ⟨m, hm⟩ := k1; exact DataW.trod_lt m _ _ _ hm
  have hw0 : ∀ n ∈ d0.weights Yabn.prog 72, n ≤ reachBytes := fun n hn => by
    have := List.all_eq_true.1 hsz n (DataW.weights_mem_each (j := 0) rfl rfl n hn)
    simpa using this
  have hw1 : ∀ n ∈ d1.weights Yabn.prog 24, n ≤ reachBytes := fun n hn => by
    have := List.all_eq_true.1 hsz n (DataW.weights_mem_each (j := 1) rfl rfl n hn)
    simpa using this
  obtain ⟨a0, len0, cap0, rfl⟩ := okWide_slice Yabn.underlying72 (hval 0 72 v0 rfl rfl)
  obtain ⟨a1, len1, cap1, rfl⟩ := okWide_slice Yabn.underlying24 (hval 1 24 v1 rfl rfl)
  obtain ⟨f, hR, b0, b1⟩ : ∃ (f : Nat → List Int), IRows W a0 len0 f ∧ len0 * 24 ≤ reachBytes ∧ ∀ i, i < len0 → (f i).length * 8 ≤ reachBytes := by
    obtain ⟨fuel, hf⟩ := h0
    obtain ⟨n, f, a, cap, e, hr, hb, hc⟩ := OpenRows.open_rows hf hw0
    simp [Value.cells] at e
    obtain ⟨rfl, rfl, rfl⟩ := e
    exact ⟨f, hr, hb, hc⟩
  obtain ⟨ks, e1, hK, b2⟩ : ∃ (ks : List Int), len1 = ks.length ∧ IntsAt W a1 ks ∧ ks.length * 8 ≤ reachBytes := by
    obtain ⟨fuel, hf⟩ := h1
    obtain ⟨zs, a, cap, e, hr, hb⟩ := OpenCol.open_islice Yabn.underlying24 Yabn.underlying3 (by kernel_rfl) hf hw1
    simp [Value.cells] at e
    obtain ⟨rfl, rfl, rfl⟩ := e
    exact ⟨zs, rfl, hr, hb⟩
  subst e1
  clear hA0 hval0 hsz0 hsz
  unfold reachBytes at b0 b1 b2
  refine (fnExactBuildTable_walk len0 f ks a0 a1 cap0 cap1 W hR hK (fun i hi => by have := b1 i hi; omega) (by omega) (by omega)).mono fun e W' ⟨he, bel⟩ => ?_
  subst he
  exact ⟨_, rfl, _, _, _, [], _, [], hW', trodAll_mk1 (shut_bool Yabn.underlying4 _), (trodAll_cons_mk (Below.trod laidOut (by kernel_rfl) (of_decide_eq_true (by kernel_rfl)) k0 bel lt0) (trodAll_cons_mk (Below.trod laidOut (by kernel_rfl) (of_decide_eq_true (by kernel_rfl)) k1 bel lt1) trodAll_mk0)), rfl, bel.frame _, fun h => by cases h⟩

theorem over : Rows.fnExactBuildTableRow.holds Yabn.pinned (OpenSpec.ofChange Rows.fnExactBuildTableSpec) :=
  OpenClaim.holds_of_wide 10 Yabn.f10 rfl rfl rfl rfl rfl rfl rfl ⟨rfl, rfl, rfl, rfl, rfl⟩ rfl rfl rfl rfl rfl (by kernel_rfl) Yabn.func10 (by kernel_rfl)
    (of_decide_eq_true (by kernel_rfl)) (by unfold Func.isWrapper; first | (rw [if_pos (by decide +kernel)]; kernel_rfl) | (rw [if_neg (by decide +kernel)]; exact ⟨rfl, rfl⟩))
    (fun os started H enc _ => lifted os started H enc)

/-- ████ THE STATEMENT ████ -/
theorem proved : Rows.FnExactBuildTableSaid := over
end Go.Proofs.Ybyabw.fnExactBuildTable
