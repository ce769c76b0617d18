/- Plain: how often each node is used. No Go here. -/
import Derived.Test.YbyabwGreatCmpP3
namespace Go.Proofs.YbyabwGreat
open Go.RowKit
set_option linter.unusedVariables false

def cntL (n : Nat) (P : List Nat) : List Int := (List.range n).map (fun (i : Nat) => (P.count i : Int))
theorem cntL_len (n : Nat) (P : List Nat) : (cntL n P).length = n := by simp [cntL]
theorem cntL_at (n : Nat) (P : List Nat) (i : Nat) (h : i < n) : (cntL n P).getD i 0 = (P.count i : Int) := by simp [cntL, h]
theorem cntL_nil (n : Nat) : cntL n [] = List.replicate n 0 := by
  apply List.ext_getElem
  · simp [cntL]
  · intro i h1 h2; simp [cntL]
theorem cntL_snoc (n : Nat) (P : List Nat) (g : Nat) (hg : g < n) : (cntL n P).set g ((P.count g : Int) + 1) = cntL n (P ++ [g]) := by
  apply List.ext_getElem
  · simp [cntL]
  · intro i h1 h2
    rw [List.getElem_set]
    simp only [cntL, List.getElem_map, List.getElem_range, List.count_append]
    by_cases e : g = i
    · subst e; simp
    · rw [if_neg e]
      have : List.count i [g] = 0 := by simp [e]
      rw [this]
      simp
theorem count_le_of_nodup {P : List Nat} (h : P.Nodup) (i : Nat) : P.count i ≤ 1 := by
  induction P with
  | nil => simp
  | cons x r ih =>
    obtain ⟨h1, h2⟩ := List.nodup_cons.1 h
    rw [List.count_cons]
    by_cases e : x = i
    · subst e
      have : r.count x = 0 := List.count_eq_zero.2 h1
      simp [this]
    · simp [e]
      exact ih h2
theorem nodup_of_count {P : List Nat} (h : ∀ i ∈ P, P.count i ≤ 1) : P.Nodup := by
  induction P with
  | nil => exact List.nodup_nil
  | cons x r ih =>
    refine List.nodup_cons.2 ⟨fun hx => ?_, ih (fun i hi => ?_)⟩
    · have h1 := h x (by simp)
      rw [List.count_cons_self] at h1
      have h2 : 0 < r.count x := List.count_pos_iff.2 hx
      omega
    · have h1 := h i (by simp [hi])
      rw [List.count_cons] at h1
      omega
theorem nodup_count {n : Nat} {P : List Nat} (hP : ∀ i ∈ P, i < n) : P.Nodup ↔ ∀ i, i < n → (P.count i : Int) ≤ 1 :=
  ⟨fun h i _ => by have := count_le_of_nodup h i; omega, fun h => nodup_of_count (fun i hi => by have := h i (hP i hi); omega)⟩
end Go.Proofs.YbyabwGreat
