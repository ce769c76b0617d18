/- A number stored into a row of the call's own -/
import Derived.Test.YbyabwGreatFrame
import Derived.Test.YbyabwGreatStruct
namespace Go.Proofs.YbyabwGreat
open Go.RowKit
set_option linter.unusedVariables false
set_option linter.unusedSimpArgs false
section
variable {P : Program} {ops : Array Oper} {rest : List Oper} {o : Oper} {a : Act} {Q : Exit → Act → World → Prop} {w : World}
theorem wpList_st1 (hg : o.guard = none) {x y : Operand} {t : TypeId} (ho : o.op = .store t x y) {g i : Nat} {v0 v : Value} (hx : a.eval x = .pointer (some ⟨g, i, none⟩)) (hy : a.eval y = v) (h1 : v.oneCell' = true)
    (hc : w.cell? ⟨g, i, none⟩ = some v0) (hf : w.frozen? ⟨g, i, none⟩ = false) (hsz : (P.info? t).map (·.size) = some 1)
    (hK : wpList P ops Q rest (a.put o.dst undef) (w.setCell ⟨g, i, none⟩ v)) : wpList P ops Q (o :: rest) a w := by
  refine wpList_plain hg fun K hK' => ?_
  cases hi : P.info? t with
  | none => rw [hi] at hsz; simp at hsz
  | some inf =>
    rw [hi] at hsz
    simp at hsz
    have hcs : v.cells = #[v] := by cases v <;> first | rfl | cases h1
    have hadd : (⟨g, i, none⟩ : Addr).add 0 = ⟨g, i, none⟩ := by unfold Addr.add; split <;> simp_all
    unfold Oper.wp
    simp [hadd, execOp, ho, hx, hy, Instr.storeAt, Instr.sureAddr, storeVar, sizeOf, typeInfo, hi, hcs, hsz, Result.andThen, storeCells, run_store P w _ v _ h1, stored, hc, hf]
    exact hK' _ _ hK
theorem wpList_stI (hg : o.guard = none) {x y : Operand} {t : TypeId} (ho : o.op = .store t x y) {base g i n cap : Nat} {e : TypeId} {xs : List Int} {u : Int} (hx : a.eval x = .pointer (some ⟨g, i, none⟩)) (hy : a.eval y = .int .i64 u)
    (hown : OwnI w base e (.slice (some ⟨g, 0, none⟩) n cap) xs) (hn : n = xs.length) (hi : i < xs.length) (hsz : (P.info? t).map (·.size) = some 1)
    (hK : ∀ w', OwnI w' base e (.slice (some ⟨g, 0, none⟩) n cap) (xs.set i u) → w.grownBy w' (some g) → wpList P ops Q rest (a.put o.dst undef) w') : wpList P ops Q (o :: rest) a w :=
  wpList_st1 hg ho hx hy rfl (hown.cellAt i hi) (hown.frozenAt hn i) hsz (hK _ (hown.stored hn i u) (grown_setCell _ _ _))
end
end Go.Proofs.YbyabwGreat
