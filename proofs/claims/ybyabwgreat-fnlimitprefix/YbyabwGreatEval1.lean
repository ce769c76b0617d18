/- Walks: impl.isBinary, impl.wellFormed, spec.WellFormed -/
import Derived.Test.YbyabwGreatNodes0
import Derived.Test.YbyabwGreatApply
namespace Go.Proofs.YbyabwGreat
open Go.RowKit
set_option maxRecDepth 100000
set_option linter.unusedVariables false
set_option linter.unusedSimpArgs false

/-- A node is well formed at place i for rows of w numbers. -/
def wfP (n : Nd) (i w : Int) : Prop := 1 ≤ n.op ∧ n.op ≤ 15 ∧ (n.op = 2 → 0 ≤ n.val ∧ n.val < w) ∧ ((n.op = 3 ∨ n.op = 15) → 0 ≤ n.l ∧ n.l < i) ∧ (4 ≤ n.op ∧ n.op ≤ 14 → 0 ≤ n.l ∧ n.l < i ∧ 0 ≤ n.r ∧ n.r < i)

set_option maxHeartbeats 2000000 in
theorem spec.WellFormed (o v l r i k : Int) (w : World) : Calls Yabn.prog 58 #[.agg #[.int .i64 o, .int .i64 v, .int .i64 l, .int .i64 r], .int .i64 i, .int .i64 k] w (RetBool (wfP ⟨o, v, l, r⟩ i k) w) := by
  generalize hp : wfP ⟨o, v, l, r⟩ i k = p
  replace hp := hide hp
  go_enter Yabn.func58, Yabn.ntmps58
  go_wp2
  all_goals go_ret
  all_goals (refine ⟨_, rfl, ?_, (Ext.refl w).alloc _⟩; rw [← hp.out]; unfold wfP; simp only [beq_iff_eq, beq_eq_false_iff_ne, ne_eq] at *; simp; omega)

/-- A call that hands back a bool and leaves the world as it was. -/
def RetBq (b : Bool) (w : World) : Ending → World → Prop := fun e w' => e = .returned (.bool b) ∧ w = w'

set_option maxHeartbeats 1000000 in
theorem impl.isBinary (o : Int) (w : World) : Calls Yabn.prog 41 #[.int .i64 o] w (RetBq (decide (4 ≤ o) && decide (o ≤ 14)) w) := by
  by_cases h : 4 ≤ o
  · go_enter Yabn.func41, Yabn.ntmps41
    go_wp2
    go_ret
    exact ⟨by simp [h] <;> omega, rfl⟩
  · go_enter Yabn.func41, Yabn.ntmps41
    go_wp2
    go_ret
    exact ⟨by simp [h] <;> omega, rfl⟩

set_option maxHeartbeats 2000000 in
theorem impl.wellFormed (o v l r i k : Int) (w : World) : Calls Yabn.prog 38 #[.agg #[.int .i64 o, .int .i64 v, .int .i64 l, .int .i64 r], .int .i64 i, .int .i64 k] w (RetBool (wfP ⟨o, v, l, r⟩ i k) w) := by
  generalize hp : wfP ⟨o, v, l, r⟩ i k = p
  replace hp := hide hp
  go_enter Yabn.func38, Yabn.ntmps38
  go_wp2_with (go_at_call 41; refine (impl.isBinary _ _).mono ?_; rintro e w1 ⟨rfl, rfl⟩)
  all_goals go_ret
  all_goals (refine ⟨_, rfl, ?_, (Ext.refl w).alloc _⟩; rw [← hp.out]; unfold wfP; simp only [beq_iff_eq, beq_eq_false_iff_ne, ne_eq, Bool.and_eq_true, Bool.and_eq_false_iff, decide_eq_true_eq, decide_eq_false_iff_not] at *; simp; omega)

/-! ### values -/
/-- The value of one node over the values below it. -/
def evN (n : Nd) (row vals : List Int) : Int :=
  if n.op = 1 then n.val else if n.op = 2 then row.getD n.val.toNat 0 else if n.op = 3 then wrap64 (-(vals.getD n.l.toNat 0))
  else if n.op = 15 then b2n (vals.getD n.l.toNat 0 == 0) else applyI n.op (vals.getD n.l.toNat 0) (vals.getD n.r.toNat 0)
def evTo (ns : List Nd) (row : List Int) : Nat → List Int
  | 0 => []
  | k + 1 => evTo ns row k ++ [evN (ns.getD k nd0) row (evTo ns row k)]
theorem evTo_len (ns : List Nd) (row : List Int) : ∀ k, (evTo ns row k).length = k
  | 0 => rfl
  | k + 1 => by simp [evTo, evTo_len ns row k]
theorem evTo_below (ns : List Nd) (row : List Int) : ∀ m k i, i < k → k ≤ m → (evTo ns row m).getD i 0 = (evTo ns row k).getD i 0
  | 0, k, i, hi, hk => by omega
  | m + 1, k, i, hi, hk => by
    rcases Nat.lt_or_ge m k with h | h
    · obtain rfl : k = m + 1 := by omega
      rfl
    · rw [← evTo_below ns row m k i hi h]
      have hl := evTo_len ns row m
      simp only [evTo, List.getD_eq_getElem?_getD]
      rw [List.getElem?_append_left (by omega)]
theorem evTo_at (ns : List Nd) (row : List Int) (m k : Nat) (h : k < m) : (evTo ns row m).getD k 0 = evN (ns.getD k nd0) row (evTo ns row k) := by
  rw [evTo_below ns row m (k + 1) k (by omega) h]
  have hl := evTo_len ns row k
  simp only [evTo, List.getD_eq_getElem?_getD]
  rw [List.getElem?_append_right (by omega)]
  simp [hl]
end Go.Proofs.YbyabwGreat
