/- Walks: laws.cpRuns, cpColumn, szColumn -/
import Derived.Test.YbyabwGreatColM
namespace Go.Proofs.YbyabwGreat
open Go.RowKit
set_option maxRecDepth 100000
set_option linter.unusedVariables false

theorem size_col5 : (Yabn.prog.info? 69).map (·.size) = some 5 := by kernel_rfl
theorem size_run2 : (Yabn.prog.info? 132).map (·.size) = some 2 := by kernel_rfl
def runRows (xs : List (Int × Int)) : List (List Value) := xs.map fun p => [.int .i64 p.1, .int .i64 p.2]
theorem runRows_len (xs : List (Int × Int)) : (runRows xs).length = xs.length := by simp [runRows]
theorem runRows_flat (xs : List (Int × Int)) : (runRows xs).flatten = pairCells xs := by simp [runRows, pairCells, List.flatMap_def]
theorem runRows_at (xs : List (Int × Int)) (i : Nat) (h : i < xs.length) : (runRows xs).getD i [] = [.int .i64 (xs.getD i (0, 0)).1, .int .i64 (xs.getD i (0, 0)).2] := by
  simp [runRows, List.getElem?_eq_getElem h]
def fillQ (xs : List (List Value)) (z : List Value) (n k : Nat) : List (List Value) := xs.take k ++ List.replicate (n - k) z
theorem fillQ_zero (xs : List (List Value)) (z : List Value) (n : Nat) : fillQ xs z n 0 = List.replicate n z := by simp [fillQ]
theorem fillQ_full (xs : List (List Value)) (z : List Value) (n : Nat) (h : xs.length = n) : fillQ xs z n n = xs := by simp [fillQ, ← h]
theorem fillQ_len (xs : List (List Value)) (z : List Value) (n k : Nat) (h : xs.length = n) (hk : k ≤ n) : (fillQ xs z n k).length = n := by simp [fillQ]; omega
theorem fillQ_step (xs : List (List Value)) (z : List Value) (n k : Nat) (h : xs.length = n) (hk : k < n) : (fillQ xs z n k).set k (xs.getD k []) = fillQ xs z n (k + 1) := by
  unfold fillQ
  have hl : (xs.take k).length = k := by simp; omega
  rw [List.set_append_right _ _ (by omega), hl, Nat.sub_self]
  obtain ⟨m, hm⟩ : ∃ m, n - k = m + 1 := ⟨n - k - 1, by omega⟩
  have hm2 : n - (k + 1) = m := by omega
  have hk2 : k < xs.length := by omega
  have e : xs.take (k + 1) = xs.take k ++ [xs[k]] := List.take_succ_eq_append_getElem hk2
  have e2 : xs.getD k [] = xs[k] := by rw [List.getD_eq_getElem?_getD, List.getElem?_eq_getElem hk2]; rfl
  rw [hm, hm2, List.replicate_succ, List.set_cons_zero, e, e2, List.append_assoc]
  rfl
def runZ : List Value := [.int .i64 0, .int .i64 0]

section
variable {ops : Array Oper} {rest : List Oper} {o : Oper} {a : Act} {Q : Exit → Act → World → Prop} {w : World}
theorem mk_run (hg : o.guard = none) {l c : Operand} (hop : o.op = Op.makeSlice 67 l c)
    (n : Nat) (hl : a.eval l = .int .i64 n) (hc : a.eval c = .int .i64 n) (hb : n < 2 ^ 40) (N : Nat) (hN : w.heap.size = N)
    (hK : ∀ w', OwnV w' N 132 2 (.slice (some ⟨N, 0, none⟩) n n) (List.replicate n runZ) → Ext w w' → w'.heap.size = N + 1 → wpList Yabn.prog ops Q rest (a.put o.dst (.slice (some ⟨N, 0, none⟩) n n)) w') :
    wpList Yabn.prog ops Q (o :: rest) a w := by
  obtain ⟨i, h2, h3, h4, h5⟩ := info_parts info_run
  exact wpList_mkV hg hop 132 Yabn.underlying67 h2 h3 h4 (by omega) rfl (by omega) n hl hc hb N hN hK
end

def RetIE (n : Int) (w : World) : Ending → World → Prop := fun e w' => e = .returned (.int .i64 n) ∧ Ext w w'
end Go.Proofs.YbyabwGreat
