import Derived.Test.YbyacwOpenCol
import Derived.Test.YbyacwFnExactColumnSelectW
namespace Go.Proofs.Ybyacw.fnExactColumnSelect
open Go.ChangeShapes Go.WideShapes Go.ChangeAt Go.RowKit
open Go.ChangeMaps (open_string shut_string)
set_option linter.unusedVariables false

theorem own : ownKnob Yacn.prog.godebug = none := by kernel_rfl
theorem laidOut : laidOutB Yacn.prog = true := by kernel_rfl

set_option maxRecDepth 100000 in
theorem lifted (os : Os) (started : os.Started) (H : Type) (enc : TypeId × Value → H) :
    ReturnsInHanded {} Yacn.checked os 6 .any (Rows.fnExactColumnSelectSpec.pre6 enc Yacn.prog Yacn.f6 Rows.fnExactColumnSelectRow.domain false) (Rows.fnExactColumnSelectSpec.post enc Yacn.prog Yacn.f6 false true false false) := by
  refine returnsInHanded_of_change_sized (C := Yacn.checked) own started (by kernel_rfl) Yacn.func6
    (ChangeSpec.witness6 (enc := enc) (C := Yacn.checked) false ⟨#[], #[.agg #[.int .i64 0, .slice none 0 0, .slice none 0 0, .slice none 0 0, .slice none 0 0], .int .i64 0, .int .i64 0, .int .i64 0], []⟩ 8 (by kernel_rfl) (by kernel_rfl) (by kernel_rfl) (by kernel_rfl)) ?_
  intro W base args ds gs before hval0 hW hcnd hsz0 _
  have hval : ∀ (j : Nat) t v, Yacn.f6.params[j]? = some t → args[j]? = some v → Value.okWide Yacn.prog W .any base t v := hval0
  have hsz : (DataW.weightsEach Yacn.prog (Yacn.f6.params.toList ++ Rows.fnExactColumnSelectSpec.plain.varTypes Yacn.prog) (ds ++ gs)).all (· ≤ reachBytes) = true := hsz0
  have hW' := hW
  obtain ⟨p, q, hA0, hV, rfl, hfz, hnd⟩ := hW
  have hA : DataW.TrodAll enc Yacn.prog W 0 (fun _ => true) true Yacn.f6.params.toList args.toList ds p := hA0
  rw [Yacn.params6] at hA hval hsz
  obtain ⟨v0, vs0, d0, ds0, p0, q0, hargs, rfl, rfl, h0, r0⟩ := trodAll_cons hA
  obtain ⟨v1, vs1, d1, ds1, p1, q1, rfl, rfl, rfl, h1, r1⟩ := trodAll_cons r0
  obtain ⟨v2, vs2, d2, ds2, p2, q2, rfl, rfl, rfl, h2, r2⟩ := trodAll_cons r1
  obtain ⟨v3, vs3, d3, ds3, p3, q3, rfl, rfl, rfl, h3, r3⟩ := trodAll_cons r2
  obtain ⟨rfl, rfl, rfl⟩ := trodAll_nil r3
  obtain rfl : args = #[v0, v1, v2, v3] := by cases args; simp_all
  obtain ⟨rfl, rfl⟩ := trodVars_none hV
  have k0 := h0
  have lt0 : ∀ x ∈ p0, x.block < W.heap.size := by obtain ⟨m, hm⟩ := k0; exact DataW.trod_lt m _ _ _ hm
  have hw0 : ∀ n ∈ d0.weights Yacn.prog 63, n ≤ reachBytes := fun n hn => by
    have := List.all_eq_true.1 hsz n (DataW.weights_mem_each (j := 0) rfl rfl n hn)
    simpa using this
  have hag : ∃ cs, v0 = .agg cs := by
    have hv0 := hval 0 63 v0 rfl rfl
    unfold Value.okWide at hv0
    rw [Yacn.underlying63] at hv0
    obtain ⟨cs, e, _⟩ := hv0
    exact ⟨cs, e⟩
  obtain ⟨cs, rfl⟩ := hag
  obtain ⟨ck, cp, cd, cc, cr, a1, a2, a3, a4, c1, c2, c3, c4, hcs, hcol, b1, b2, b3, b4⟩ : ∃ (ck : Int) (cp cd cc : List Int) (cr : List (Int × Int)) (a1 a2 a3 a4 : Option Addr) (c1 c2 c3 c4 : Nat), cs.toList = cellsC ⟨ck, cp, cd, cc, cr⟩ a1 a2 a3 a4 c1 c2 c3 c4 ∧ ColAt W ⟨ck, cp, cd, cc, cr⟩ a1 a2 a3 a4 ∧
      cp.length * 8 ≤ reachBytes ∧ cd.length * 8 ≤ reachBytes ∧ cc.length * 8 ≤ reachBytes ∧ cr.length * 16 ≤ reachBytes := by
    obtain ⟨fuel, hf⟩ := h0
    exact OpenCol.open_col hf hw0
  obtain rfl : cs = (cellsC ⟨ck, cp, cd, cc, cr⟩ a1 a2 a3 a4 c1 c2 c3 c4).toArray := by rw [← hcs]
  obtain ⟨n1, rfl, rfl, rfl, w1⟩ := open_int Yacn.underlying3 (hval 1 3 v1 rfl rfl) h1
  obtain ⟨n2, rfl, rfl, rfl, w2⟩ := open_int Yacn.underlying3 (hval 2 3 v2 rfl rfl) h2
  obtain ⟨n3, rfl, rfl, rfl, w3⟩ := open_int Yacn.underlying2 (hval 3 2 v3 rfl rfl) h3
  clear hA0 hval0 hsz0 hsz
  unfold reachBytes at b1 b2 b3 b4
  refine (fnExactColumnSelect_walk ck cp cd cc cr a1 a2 a3 a4 c1 c2 c3 c4 n1 n2 n3 W hcol (by omega) (by omega) (by omega) (by omega)).mono fun e W' ⟨he, bel⟩ => ?_
  subst he
  exact ⟨_, rfl, _, _, _, [], _, [], hW', trodAll_mk1 (shut_bool Yacn.underlying4 _), (trodAll_cons_mk (Below.trod laidOut (by kernel_rfl) (of_decide_eq_true (by kernel_rfl)) k0 bel lt0) (trodAll_cons_mk (shut_int Yacn.underlying3 w1) (trodAll_cons_mk (shut_int Yacn.underlying3 w2) (trodAll_cons_mk (shut_int Yacn.underlying2 w3) trodAll_mk0)))), rfl, bel.frame _, fun h => by cases h⟩

theorem over : Rows.fnExactColumnSelectRow.holds Yacn.pinned (OpenSpec.ofChange Rows.fnExactColumnSelectSpec) :=
  OpenClaim.holds_of_wide 6 Yacn.f6 rfl rfl rfl rfl rfl rfl rfl ⟨rfl, rfl, rfl, rfl, rfl⟩ rfl rfl rfl rfl rfl (by kernel_rfl) Yacn.func6 (by kernel_rfl)
    (of_decide_eq_true (by kernel_rfl)) (by unfold Func.isWrapper; first | (rw [if_pos (by decide +kernel)]; kernel_rfl) | (rw [if_neg (by decide +kernel)]; exact ⟨rfl, rfl⟩))
    (fun os started H enc _ => lifted os started H enc)

/-- ████ THE STATEMENT ████ -/
theorem proved : Rows.FnExactColumnSelectSaid := over
end Go.Proofs.Ybyacw.fnExactColumnSelect
