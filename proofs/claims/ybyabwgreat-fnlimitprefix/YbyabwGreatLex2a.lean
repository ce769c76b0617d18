/- append of a token; what the tokenizers answer -/
import Derived.Test.YbyabwGreatOwnP
import Derived.Test.YbyabwGreatLexP
import Derived.Test.YbyabwGreatCol2
namespace Go.Proofs.YbyabwGreat
open Go.RowKit
set_option maxRecDepth 100000
set_option linter.unusedVariables false

theorem info_tok : (Yabn.prog.info? 95).map (fun i => (i.zero, i.size, i.bytes)) = some (some (.agg #[.int .i64 0, .int .i64 0]), 2, 16) := by kernel_rfl

section
variable {ops : Array Oper} {rest : List Oper} {o : Oper} {a : Act} {Q : Exit → Act → World → Prop} {w : World}
theorem app_tok (hg : o.guard = none) {s x : Operand} (ho : o.op = .call { callee := .builtin .append, args := #[s, x], argTypes := #[82, 82] })
    (base : Nat) (hE : base ≤ w.heap.size) (v : Value) (xs : List (Int × Int)) (y1 y2 : Int) (hs : a.eval s = v) (hown : OwnP w base 95 v xs)
    (B c : Nat) (hx : a.eval x = .slice (some ⟨B, 0, none⟩) 1 c) (hblk : w.heap[B]? = some (.cells #[.int .i64 y1, .int .i64 y2] 95 (0, 0))) (hb : xs.length < 2 ^ 39)
    (h : ∀ g cap w', OwnP w' base 95 (.slice (some ⟨g, 0, none⟩) (xs.length + 1) cap) (xs ++ [(y1, y2)]) → w.grownBy w' v.ownBlock → (v.ownBlock = some g ∨ g = w.heap.size) → g < w'.heap.size →
      wpList Yabn.prog ops Q rest (a.put o.dst (.slice (some ⟨g, 0, none⟩) (xs.length + 1) cap)) w') : wpList Yabn.prog ops Q (o :: rest) a w := by
  obtain ⟨i, h2, h3, h4, h5⟩ := info_parts info_tok
  exact wpList_appP hg ho 95 Yabn.underlying82 h2 h3 h4 h5 base hE v xs y1 y2 hs hown B c hx hblk hb h
end

def RetToks (R : Option (List (Int × Int))) (w : World) : Ending → World → Prop := fun en w' => Ext w w' ∧
  ((R = none ∧ en = .returned (.tuple #[.slice none 0 0, .bool false])) ∨
   ∃ ts a cap, R = some ts ∧ en = .returned (.tuple #[.slice a ts.length cap, .bool true]) ∧ ts.length ≤ 65536 ∧ OwnP w' w.heap.size 95 (.slice a ts.length cap) ts)

end Go.Proofs.YbyabwGreat
