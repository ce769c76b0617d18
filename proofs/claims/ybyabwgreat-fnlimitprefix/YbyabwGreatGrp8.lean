/- Walks: impl.GroupRows, spec.RefGroupRows -/
import Derived.Test.YbyabwGreatGrp7
import Derived.Test.YbyabwGreatEx8
import Derived.Test.YbyabwGreatEx6
import Derived.Test.YbyabwGreatWpSt
namespace Go.Proofs.YbyabwGreat
open Go.RowKit
set_option maxRecDepth 100000
set_option linter.unusedVariables false
set_option linter.unusedSimpArgs false

section
variable {ops : Array Oper} {rest : List Oper} {o : Oper} {a : Act} {Q : Exit → Act → World → Prop} {w : World}
/-- append(s, xs...) -/
theorem app_i64L (hg : o.guard = none) {s x : Operand} (ho : o.op = .call { callee := .builtin .append, args := #[s, x], argTypes := #[23, 23] })
    (base : Nat) (hE : base ≤ w.heap.size) (v : Value) (n : Nat) (xs ys : List Int) (hs : a.eval s = v) (hown : OwnI w base 2 v xs) (hn : xs.length = n)
    (B off m c : Nat) (hx : a.eval x = .slice (some ⟨B, off, none⟩) m c) (hm : ys.length = m) (h0 : 0 < m) (hys : IntsAt w (some ⟨B, off, none⟩) ys) (hb : n + m < 2 ^ 39)
    (h : ∀ g cap w', OwnI w' base 2 (.slice (some ⟨g, 0, none⟩) (n + m) cap) (xs ++ ys) → w.grownBy w' v.ownBlock → g < w'.heap.size →
      wpList Yabn.prog ops Q rest (a.put o.dst (.slice (some ⟨g, 0, none⟩) (n + m) cap)) w') : wpList Yabn.prog ops Q (o :: rest) a w := by
  obtain ⟨i, h2, h3, h4, h5⟩ := info_parts info_int64
  subst hn
  refine wpList_append_lies w hg s x 23 ho base 2 i (.int .i64 0) 1 8 Yabn.underlying23 h2 h3 h4 h5 (by simp [Value.cells]) (by omega) v xs.length (xs.map (Value.int .i64)) hs hown ⟨B, off, none⟩ m c (ys.map (Value.int .i64)) hx (by simp [hm]) ?_ (by simp [Value.oneCell']) h0 (by unfold maxLen; omega) (by omega) hE w.heap.size rfl ?_
  · intro j u hu
    rw [List.getElem?_map] at hu
    cases hy : ys[j]? with
    | none => rw [hy] at hu; cases hu
    | some y =>
      rw [hy] at hu
      cases hu
      have hj : j < ys.length := by
        rcases Nat.lt_or_ge j ys.length with h | h
        · exact h
        · rw [List.getElem?_eq_none h] at hy; cases hy
      obtain ⟨b, off', e, hc⟩ := hys j hj
      cases e
      rw [List.getD_eq_getElem?_getD, hy] at hc
      have hadd : (⟨B, off, none⟩ : Addr).add j = ⟨B, off + j, none⟩ := by unfold Addr.add; split <;> simp_all
      rw [hadd]
      exact hc
  · intro g cap w' ho' hgr hor hlt
    refine h g cap w' ?_ hgr hlt
    unfold OwnI
    simpa [hm] using ho'
end

theorem SelOK.up {sel : List Int} {n : Int} (h : SelOK sel n) : ∀ j : Nat, j < sel.length → (j : Int) ≤ sel.getD j 0 := by
  intro j
  induction j with
  | zero => intro hj; exact (h 0 hj).1
  | succ j ih =>
    intro hj
    have h1 := ih (by omega)
    have h2 := (h (j + 1) hj).2.2 (by omega)
    rw [Nat.add_sub_cancel] at h2
    omega
theorem SelOK.length {sel : List Int} {n : Nat} (h : SelOK sel n) : sel.length ≤ n := by
  rcases Nat.eq_zero_or_pos sel.length with h0 | h0
  · omega
  · have h1 := h.up (sel.length - 1) (by omega)
    have h2 := (h (sel.length - 1) (by omega)).2.1
    omega
theorem cost_gr {p : Pl} {k n : Nat} {sel : List Int} (hc : costV p k n = true) (h : SelOK sel n) : sel.length * p.gr.length ≤ 16777216 := by
  have hl := h.length
  unfold costV at hc
  rcases Nat.eq_zero_or_pos n with h0 | h0
  · have : sel.length = 0 := by omega
    rw [this]; omega
  · have h1 : n * (k + p.code.length + p.its.length + p.gr.length) ≤ 16777216 := by
      simp only [Bool.or_eq_true, decide_eq_true_eq] at hc
      omega
    have h2 : sel.length * p.gr.length ≤ n * (k + p.code.length + p.its.length + p.gr.length) := Nat.mul_le_mul hl (by omega)
    omega
/-- What GroupRows answers. -/
def GrOK (p : Pl) (k n : Nat) (sel : List Int) : Prop := costV p k n = true ∧ SelOK sel n
def RetGR (c : Prop) (gr : List Int) (rows : Nat → List Int) (sel : List Int) (w : World) : Ending → World → Prop := fun en w' => Ext w w' ∧ ((c ∧ ∃ ka ga kc gc, en = .returned (.tuple #[.agg (gpCells gr rows sel ka ga kc gc).toArray, .bool true]) ∧ OwnG w' w.heap.size gr rows sel ka ga kc gc) ∨ (¬ c ∧ en = .returned (.tuple #[.agg gpz.toArray, .bool false])))
theorem gpz_one : ∀ u ∈ gpz, u.oneCell' = true := by simp [gpz, Value.oneCell']
end Go.Proofs.YbyabwGreat
