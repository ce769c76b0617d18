/- make([]int64, n) as an act of a region whose loads are held -/
import Derived.Test.YbyabwGreatHeld
import Derived.Test.YbyabwGreatCol2
namespace Go.Proofs.YbyabwGreat
open Go.RowKit
set_option linter.unusedVariables false
theorem wp_mk64 {o : Oper} {a : Act} {K : Act → World → Prop} {Q : Exit → Act → World → Prop} {w : World} {l c : Operand} (hop : o.op = Op.makeSlice 23 l c)
    (n : Nat) (hl : a.eval l = .int .i64 n) (hc : a.eval c = .int .i64 n) (hb : n < 2 ^ 40)
    (hK : ∀ w', OwnI w' w.heap.size 2 (.slice (some ⟨w.heap.size, 0, none⟩) n n) (List.replicate n 0) → Ext w w' → w'.heap.size = w.heap.size + 1 → K (a.put o.dst (.slice (some ⟨w.heap.size, 0, none⟩) n n)) w') :
    Oper.wp Yabn.prog o a w K Q := by
  obtain ⟨i, h2, h3, h4, h5⟩ := info_parts info_int64
  have hrun := run_make (P := Yabn.prog) w 23 2 i (.int .i64 0) Yabn.underlying23 h2 h3 .i64 .i64 n n (by omega) (by omega) (by rw [h5]; omega) (by omega)
  have hown : (w.alloc (.cells (madeCells (Value.int .i64 0).cells (n * i.size)) 2)).ownsRow w.heap.size 2 1 (.slice (some ⟨w.heap.size, 0, none⟩) n n) n (madeCells (Value.int .i64 0).cells (n * i.size)).toList :=
    World.ownsRow_lit w _ n (Nat.le_refl _) (by unfold maxLen; omega) (by rw [size_madeCells, h4])
  unfold Oper.wp
  simp [execOp, hop, hl, hc, hrun, Result.andThen]
  refine hK _ ?_ ((Ext.refl w).alloc _) (by simp)
  unfold OwnI
  rw [← made_ints]
  simpa [h4] using hown
end Go.Proofs.YbyabwGreat
