/- Plain: the planner's stack machine does what the recursion does. No Go here. -/
import Derived.Test.YbyabwGreatCmpP3
namespace Go.Proofs.YbyabwGreat
open Go.RowKit
set_option linter.unusedVariables false

/-- A frame of the stack: a node, how far it is, the index of its left side. -/
structure Fm where
  x : Nat
  st : Nat
  a : Int
/-- What is left to do, and what comes out; the top frame first. -/
def fin (nd : List Nd) (zr : List Int) : List Fm → List Nd → Int → List Nd × Int
  | [], code, last => (code, last)
  | f :: R, code, last =>
    if f.st = 0 then fin nd zr R (em nd zr f.x code).1 (em nd zr f.x code).2
    else if f.st = 1 then
      (if (nd.getD f.x nd0).op = 3 ∨ (nd.getD f.x nd0).op = 15 then fin nd zr R (code ++ [⟨(nd.getD f.x nd0).op, 0, last, -1⟩]) (code.length : Int)
       else fin nd zr R ((em nd zr (nd.getD f.x nd0).r.toNat code).1 ++ [⟨(nd.getD f.x nd0).op, 0, last, (em nd zr (nd.getD f.x nd0).r.toNat code).2⟩]) ((em nd zr (nd.getD f.x nd0).r.toNat code).1.length : Int))
    else fin nd zr R (code ++ [⟨(nd.getD f.x nd0).op, 0, f.a, last⟩]) (code.length : Int)
/-- How many nodes it will add; how many rounds it takes. -/
def bud (nd : List Nd) (f : Fm) : Nat := if f.st = 0 then tsAt nd f.x else if f.st = 1 then (if (nd.getD f.x nd0).op = 3 ∨ (nd.getD f.x nd0).op = 15 then 1 else 1 + tsAt nd (nd.getD f.x nd0).r.toNat) else 1
def cost (nd : List Nd) (f : Fm) : Nat := if f.st = 0 then 3 * tsAt nd f.x else if f.st = 1 then (if (nd.getD f.x nd0).op = 3 ∨ (nd.getD f.x nd0).op = 15 then 1 else 3 * tsAt nd (nd.getD f.x nd0).r.toNat + 2) else 1
def buds (nd : List Nd) (R : List Fm) : Nat := (R.map (bud nd)).sum
def costs (nd : List Nd) (R : List Fm) : Nat := (R.map (cost nd)).sum
theorem buds_cons (nd : List Nd) (f : Fm) (R : List Fm) : buds nd (f :: R) = bud nd f + buds nd R := by simp [buds]
theorem costs_cons (nd : List Nd) (f : Fm) (R : List Fm) : costs nd (f :: R) = cost nd f + costs nd R := by simp [costs]
theorem cost_pos (nd : List Nd) (f : Fm) : 1 ≤ cost nd f := by
  have := tsAt_pos (nd := nd) (x := f.x)
  unfold cost
  split
  · omega
  · split
    · split <;> omega
    · omega
theorem costs_len (nd : List Nd) (R : List Fm) : R.length ≤ costs nd R := by
  induction R with
  | nil => exact Nat.zero_le _
  | cons f R ih => rw [costs_cons, List.length_cons]; have := cost_pos nd f; omega
/-- A frame is in order. -/
structure FmOK (nd : List Nd) (f : Fm) : Prop where
  x : f.x < nd.length
  st : f.st ≤ 2
  go : f.st ≠ 0 → hcAt nd f.x = true ∧ (nd.getD f.x nd0).op ≠ 2
  two : f.st = 2 → ¬ ((nd.getD f.x nd0).op = 3 ∨ (nd.getD f.x nd0).op = 15)
section
variable {nd : List Nd} {nc : Int} {zr : List Int} {x : Nat} {R : List Fm} {code : List Nd} {last a : Int}
theorem fin_free (h : hcAt nd x = false) : fin nd zr (⟨x, 0, a⟩ :: R) code last = fin nd zr R (code ++ [⟨1, evX nd zr x, -1, -1⟩]) (code.length : Int) := by
  rw [fin, if_pos rfl, em_free h]
theorem fin_col (h : hcAt nd x = true) (h2 : (nd.getD x nd0).op = 2) : fin nd zr (⟨x, 0, a⟩ :: R) code last = fin nd zr R (code ++ [⟨2, (nd.getD x nd0).val, -1, -1⟩]) (code.length : Int) := by
  rw [fin, if_pos rfl, em_col h h2]
theorem fin_left (hw : WfA nd nc) (hx : x < nd.length) (h : hcAt nd x = true) (h2 : (nd.getD x nd0).op ≠ 2) : ∃ l : Nat, (nd.getD x nd0).l = (l : Int) ∧ l < x ∧
    fin nd zr (⟨l, 0, 0⟩ :: ⟨x, 1, a⟩ :: R) code last = fin nd zr (⟨x, 0, a⟩ :: R) code last ∧ bud nd ⟨l, 0, 0⟩ + bud nd ⟨x, 1, a⟩ ≤ bud nd ⟨x, 0, a⟩ ∧ cost nd ⟨l, 0, 0⟩ + cost nd ⟨x, 1, a⟩ < cost nd ⟨x, 0, a⟩ := by
  rcases hw.kind hx with k | ⟨k, _⟩ | ⟨l, k, hl, hlx⟩ | ⟨l, r, k, hl, hr, hlx, hrx⟩
  · rw [hcAt_lit k] at h; cases h
  · exact absurd k h2
  · refine ⟨l, hl, hlx, ?_, ?_, ?_⟩
    · rw [fin, if_pos rfl, fin, if_neg (show ¬ (1 = 0) by omega), if_pos rfl, if_pos k, fin, if_pos rfl, em_un hw hx h k hl hlx]
    · unfold bud
      simp only [if_true, if_neg (show ¬ (1 = 0) by omega), if_pos k]
      rw [tsAt_un k hl hlx]
      omega
    · unfold cost
      simp only [if_true, if_neg (show ¬ (1 = 0) by omega), if_pos k]
      rw [tsAt_un k hl hlx]
      omega
  · have k3 : ¬ ((nd.getD x nd0).op = 3 ∨ (nd.getD x nd0).op = 15) := by omega
    refine ⟨l, hl, hlx, ?_, ?_, ?_⟩
    · rw [fin, if_pos rfl, fin, if_neg (show ¬ (1 = 0) by omega), if_pos rfl, if_neg k3, fin, if_pos rfl, em_bi hw hx h k hl hr hlx hrx, hr, Int.toNat_natCast]
    · unfold bud
      simp only [if_true, if_neg (show ¬ (1 = 0) by omega), if_neg k3]
      rw [tsAt_bi k hl hr hlx hrx, hr, Int.toNat_natCast]
      omega
    · unfold cost
      simp only [if_true, if_neg (show ¬ (1 = 0) by omega), if_neg k3]
      rw [tsAt_bi k hl hr hlx hrx, hr, Int.toNat_natCast]
      omega
theorem fin_un (h : (nd.getD x nd0).op = 3 ∨ (nd.getD x nd0).op = 15) : fin nd zr (⟨x, 1, a⟩ :: R) code last = fin nd zr R (code ++ [⟨(nd.getD x nd0).op, 0, last, -1⟩]) (code.length : Int) := by
  rw [fin, if_neg (show ¬ (1 = 0) by omega), if_pos rfl, if_pos h]
theorem fin_right (hw : WfA nd nc) (hx : x < nd.length) (h : hcAt nd x = true) (h2 : (nd.getD x nd0).op ≠ 2) (h3 : ¬ ((nd.getD x nd0).op = 3 ∨ (nd.getD x nd0).op = 15)) : ∃ r : Nat, (nd.getD x nd0).r = (r : Int) ∧ r < x ∧
    fin nd zr (⟨r, 0, 0⟩ :: ⟨x, 2, last⟩ :: R) code last = fin nd zr (⟨x, 1, a⟩ :: R) code last ∧ bud nd ⟨r, 0, 0⟩ + bud nd ⟨x, 2, last⟩ ≤ bud nd ⟨x, 1, a⟩ ∧ cost nd ⟨r, 0, 0⟩ + cost nd ⟨x, 2, last⟩ < cost nd ⟨x, 1, a⟩ := by
  rcases hw.kind hx with k | ⟨k, _⟩ | ⟨l, k, hl, hlx⟩ | ⟨l, r, k, hl, hr, hlx, hrx⟩
  · rw [hcAt_lit k] at h; cases h
  · exact absurd k h2
  · exact absurd k h3
  · refine ⟨r, hr, hrx, ?_, ?_, ?_⟩
    · rw [fin, if_pos rfl, fin, if_neg (show ¬ (2 = 0) by omega), if_neg (show ¬ (2 = 1) by omega), fin, if_neg (show ¬ (1 = 0) by omega), if_pos rfl, if_neg h3, hr, Int.toNat_natCast]
    · unfold bud
      simp only [if_true, if_neg (show ¬ (1 = 0) by omega), if_neg (show ¬ (2 = 0) by omega), if_neg (show ¬ (2 = 1) by omega), if_neg h3]
      rw [hr, Int.toNat_natCast]
      omega
    · unfold cost
      simp only [if_true, if_neg (show ¬ (1 = 0) by omega), if_neg (show ¬ (2 = 0) by omega), if_neg (show ¬ (2 = 1) by omega), if_neg h3]
      rw [hr, Int.toNat_natCast]
      omega
theorem fin_bi : fin nd zr (⟨x, 2, a⟩ :: R) code last = fin nd zr R (code ++ [⟨(nd.getD x nd0).op, 0, a, last⟩]) (code.length : Int) := by
  rw [fin, if_neg (show ¬ (2 = 0) by omega), if_neg (show ¬ (2 = 1) by omega)]
theorem bud_pos (f : Fm) : 1 ≤ bud nd f := by
  have := tsAt_pos (nd := nd) (x := f.x)
  unfold bud
  split
  · omega
  · split
    · split <;> omega
    · omega
end
end Go.Proofs.YbyabwGreat
