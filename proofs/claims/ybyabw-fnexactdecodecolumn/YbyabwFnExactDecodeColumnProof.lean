import Derived.Test.YbyabwOpenCol
import Derived.Test.YbyabwFnExactDecodeColumnW
namespace Go.Proofs.Ybyabw.fnExactDecodeColumn
open Go.ChangeShapes Go.WideShapes Go.ChangeAt Go.RowKit
open Go.ChangeMaps (open_string shut_string)
set_option linter.unusedVariables false

theorem own : ownKnob Yabn.prog.godebug = none := by kernel_rfl
theorem laidOut : laidOutB Yabn.prog = true := by kernel_rfl

set_option maxRecDepth 100000 in
theorem lifted (os : Os) (started : os.Started) (H : Type) (enc : TypeId × Value → H) :
    ReturnsInHanded {} Yabn.checked os 8 .any (Rows.fnExactDecodeColumnSpec.pre6 enc Yabn.prog Yabn.f8 Rows.fnExactDecodeColumnRow.domain false) (Rows.fnExactDecodeColumnSpec.post enc Yabn.prog Yabn.f8 false true false false) := by
  refine returnsInHanded_of_change_sized (C := Yabn.checked) own started (by kernel_rfl) Yabn.func8
    (ChangeSpec.witness6 (enc := enc) (C := Yabn.checked) false ⟨#[], #[.agg #[.int .i64 0, .slice none 0 0, .slice none 0 0, .slice none 0 0, .slice none 0 0], .int .i64 0], []⟩ 8 (by kernel_rfl) (by kernel_rfl) (by kernel_rfl) (by kernel_rfl)) ?_
  intro W base args ds gs before hval0 hW hcnd hsz0 _
  have hval : ∀ (j : Nat) t v, Yabn.f8.params[j]? = some t → args[j]? = some v → Value.okWide Yabn.prog W .any base t v := hval0
  have hsz : (DataW.weightsEach Yabn.prog (Yabn.f8.params.toList ++ Rows.fnExactDecodeColumnSpec.plain.varTypes Yabn.prog) (ds ++ gs)).all (· ≤ reachBytes) = true := hsz0
  have hW' := hW
  obtain ⟨p, q, hA0, hV, rfl, hfz, hnd⟩ := hW
  have hA : DataW.TrodAll enc Yabn.prog W 0 (fun _ => true) true Yabn.f8.params.toList args.toList ds p := hA0
  rw [Yabn.params8] at hA hval hsz
  obtain ⟨v0, vs0, d0, ds0, p0, q0, hargs, rfl, rfl, h0, r0⟩ := trodAll_cons hA
  obtain ⟨v1, vs1, d1, ds1, p1, q1, rfl, rfl, rfl, h1, r1⟩ := trodAll_cons r0
  obtain ⟨rfl, rfl, rfl⟩ := trodAll_nil r1
  obtain rfl : args = #[v0, v1] := by cases args; simp_all
  obtain ⟨rfl, rfl⟩ := trodVars_none hV
  have k0 := h0
  have lt0 : ∀ x ∈ p0, x.block < W.heap.size := by obtain ⟨m, hm⟩ := k0; exact DataW.trod_lt m _ _ _ hm
  have hw0 : ∀ n ∈ d0.weights Yabn.prog 29, n ≤ reachBytes := fun n hn => by
    have := List.all_eq_true.1 hsz n (DataW.weights_mem_each (j := 0) rfl rfl n hn)
    simpa using this
  have hag : ∃ cs, v0 = .agg cs := by
    have hv0 := hval 0 29 v0 rfl rfl
    unfold Value.okWide at hv0
    rw [Yabn.underlying29] at hv0
    obtain ⟨cs, e, _⟩ := hv0
    exact ⟨cs, e⟩
  obtain ⟨cs, rfl⟩ := hag
  obtain ⟨ck, cp, cd, cc, cr, a1, a2, a3, a4, c1, c2, c3, c4, hcs, hcol, b1, b2, b3, b4⟩ : ∃ (ck : Int) (cp cd cc : List Int) (cr : List (Int × Int)) (a1 a2 a3 a4 : Option Addr) (c1 c2 c3 c4 : Nat), cs.toList = cellsC ⟨ck, cp, cd, cc, cr⟩ a1 a2 a3 a4 c1 c2 c3 c4 ∧ ColAt W ⟨ck, cp, cd, cc, cr⟩ a1 a2 a3 a4 ∧
      cp.length * 8 ≤ reachBytes ∧ cd.length * 8 ≤ reachBytes ∧ cc.length * 8 ≤ reachBytes ∧ cr.length * 16 ≤ reachBytes := by
    obtain ⟨fuel, hf⟩ := h0
    exact OpenCol.open_col hf hw0
  obtain rfl : cs = (cellsC ⟨ck, cp, cd, cc, cr⟩ a1 a2 a3 a4 c1 c2 c3 c4).toArray := by rw [← hcs]
  obtain ⟨n1, rfl, rfl, rfl, w1⟩ := open_int Yabn.underlying3 (hval 1 3 v1 rfl rfl) h1
  clear hA0 hval0 hsz0 hsz
  unfold reachBytes at b1 b2 b3 b4
  refine (fnExactDecodeColumn_walk ck cp cd cc cr a1 a2 a3 a4 c1 c2 c3 c4 n1 W hcol (by omega) (by omega) (by omega) (by omega)).mono fun e W' ⟨he, bel⟩ => ?_
  subst he
  exact ⟨_, rfl, _, _, _, [], _, [], hW', trodAll_mk1 (shut_bool Yabn.underlying4 _), (trodAll_cons_mk (Below.trod laidOut (by kernel_rfl) (of_decide_eq_true (by kernel_rfl)) k0 bel lt0) (trodAll_cons_mk (shut_int Yabn.underlying3 w1) trodAll_mk0)), rfl, bel.frame _, fun h => by cases h⟩

theorem over : Rows.fnExactDecodeColumnRow.holds Yabn.pinned (OpenSpec.ofChange Rows.fnExactDecodeColumnSpec) :=
  OpenClaim.holds_of_wide 8 Yabn.f8 rfl rfl rfl rfl rfl rfl rfl ⟨rfl, rfl, rfl, rfl, rfl⟩ rfl rfl rfl rfl rfl (by kernel_rfl) Yabn.func8 (by kernel_rfl)
    (of_decide_eq_true (by kernel_rfl)) (by unfold Func.isWrapper; first | (rw [if_pos (by decide +kernel)]; kernel_rfl) | (rw [if_neg (by decide +kernel)]; exact ⟨rfl, rfl⟩))
    (fun os started H enc _ => lifted os started H enc)

/-- ████ THE STATEMENT ████ -/
theorem proved : Rows.FnExactDecodeColumnSaid := over
end Go.Proofs.Ybyabw.fnExactDecodeColumn
