/- A struct stored over a whole block, as an act of a region whose loads are held -/
import Derived.Test.YbyabwGreatHeld
import Derived.Test.YbyabwGreatStruct
namespace Go.Proofs.YbyabwGreat
open Go.RowKit
set_option linter.unusedVariables false
set_option linter.unusedSimpArgs false
theorem wp_storeB {P : Program} {o : Oper} {a : Act} {K : Act → World → Prop} {Q : Exit → Act → World → Prop} {w : World} {x y : Operand} {t : TypeId} (ho : o.op = .store t x y) {b : Nat} {e : TypeId} {cur vs : List Value} (hx : a.eval x = .pointer (some ⟨b, 0, none⟩)) (hy : a.eval y = .agg vs.toArray)
    (hb : Blk w b e cur) (hsz : (P.info? t).map (·.size) = some vs.length) (hl : vs.length = cur.length) (h1 : ∀ u ∈ vs, u.oneCell' = true)
    (hK : ∀ w', Blk w' b e vs → w.grownBy w' (some b) → K (a.put o.dst undef) w') : Oper.wp P o a w K Q := by
  cases hi : P.info? t with
  | none => rw [hi] at hsz; simp at hsz
  | some i =>
    rw [hi] at hsz
    simp at hsz
    have hst := run_storeCells_at (P := P) b 0 e vs 0 cur.toArray w hb (by simp; omega) h1
    unfold Oper.wp
    simp [execOp, ho, hx, hy, Instr.storeAt, Instr.sureAddr, storeVar, sizeOf, typeInfo, hi, Value.cells, hsz, Result.andThen, hst]
    simp only [Nat.add_zero, List.append_assoc] at hst ⊢
    refine hK _ ?_ ⟨rfl, rfl, rfl, by simp [World.setRow], fun k _ hk => setRow_other w b k _ (fun e => hk (by simp [e]))⟩
    unfold Blk
    rw [setRow_heap w b _ _ e _ hb]
    simp [hl]
end Go.Proofs.YbyabwGreat
