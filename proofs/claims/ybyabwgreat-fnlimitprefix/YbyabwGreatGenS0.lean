/- Texts in which no L is followed by an I. No Go here. -/
import Derived.Test.YbyabwGreatGen7
namespace Go.Proofs.YbyabwGreat
open Go.RowKit
set_option linter.unusedVariables false
set_option linter.unusedSimpArgs false

def nli : List UInt8 → Bool
  | a :: b :: r => !(a == 76 && b == 73) && nli (b :: r)
  | _ => true
def sfb (m : List UInt8) : Bool := nli m && (m.head? != some 73)
def Sf (m : List UInt8) : Prop := sfb m = true
theorem Sf.lit {m : List UInt8} (h : sfb m = true) : Sf m := h
theorem Sf.nli {m : List UInt8} (h : Sf m) : nli m = true := by unfold Sf sfb at h; rw [Bool.and_eq_true] at h; exact h.1
theorem Sf.head {m : List UInt8} (h : Sf m) : m.head? ≠ some 73 := by unfold Sf sfb at h; rw [Bool.and_eq_true] at h; simpa using h.2
theorem Sf.mk {m : List UInt8} (h1 : Go.Proofs.YbyabwGreat.nli m = true) (h2 : m.head? ≠ some 73) : Sf m := by unfold Sf sfb; rw [h1]; simpa using h2
theorem Sf.nil : Sf [] := rfl
theorem nli_app : ∀ (a b : List UInt8), nli a = true → nli b = true → b.head? ≠ some 73 → nli (a ++ b) = true := by
  intro a
  induction a with
  | nil => intro b _ h _; exact h
  | cons x a ih =>
    intro b ha hb hh
    cases a with
    | nil =>
      cases b with
      | nil => rfl
      | cons y b =>
        have hy : y ≠ 73 := fun e => hh (by rw [e]; rfl)
        show (!(x == 76 && y == 73) && nli (y :: b)) = true
        rw [hb]
        simp [hy]
    | cons z a =>
      have h2 : (!(x == 76 && z == 73) && nli (z :: a)) = true := ha
      rw [Bool.and_eq_true] at h2
      show (!(x == 76 && z == 73) && nli ((z :: a) ++ b)) = true
      rw [Bool.and_eq_true]
      exact ⟨h2.1, ih b h2.2 hb hh⟩
theorem Sf.app {a b : List UInt8} (ha : Sf a) (hb : Sf b) : Sf (a ++ b) := by
  refine Sf.mk (nli_app a b ha.nli hb.nli hb.head) ?_
  cases a with
  | nil => exact hb.head
  | cons x a => exact ha.head
theorem nli_no : ∀ (m : List UInt8), (∀ b ∈ m, b ≠ 76) → nli m = true := by
  intro m
  induction m with
  | nil => intro _; rfl
  | cons x m ih =>
    intro h
    cases m with
    | nil => rfl
    | cons y m =>
      show (!(x == 76 && y == 73) && nli (y :: m)) = true
      rw [ih (fun b hb => h b (by simp [hb]))]
      have : x ≠ 76 := h x (by simp)
      simp [this]
theorem Sf.no {m : List UInt8} (h : ∀ b ∈ m, b ≠ 76 ∧ b ≠ 73) : Sf m := by
  refine Sf.mk (nli_no m (fun b hb => (h b hb).1)) ?_
  cases m with
  | nil => simp
  | cons x m =>
    have := (h x (by simp)).2
    simpa using this
theorem Sf.itoa (u : Nat) : Sf (itoa u) := Sf.no (fun b hb => by
  have := itoa_dig u b hb
  constructor <;> intro e <;> rw [e] at this <;> exact absurd this.2 (by decide))
theorem Sf.leaf {t : Int × Int} (h : t.1 = 13 ∨ t.1 = 14) : Sf (ttext t) := by
  unfold ttext
  rcases h with h | h
  · rw [h]
    simp (config := {decide := true}) only [if_false, if_true]
    exact Sf.app (a := [99]) (Sf.lit rfl) (Sf.itoa _)
  · rw [h]
    simp (config := {decide := true}) only [if_false, if_true]
    exact Sf.itoa _
theorem Sf.op (k : Int) (h1 : 4 ≤ k) (h2 : k ≤ 14) : Sf (32 :: (opT k ++ [32])) := by
  have hk : k = 4 ∨ k = 5 ∨ k = 6 ∨ k = 7 ∨ k = 8 ∨ k = 9 ∨ k = 10 ∨ k = 11 ∨ k = 12 ∨ k = 13 ∨ k = 14 := by omega
  rcases hk with rfl | rfl | rfl | rfl | rfl | rfl | rfl | rfl | rfl | rfl | rfl
  all_goals exact Sf.lit rfl
/-- Safe, or with LIMIT as its last word. -/
def SfJ (m : List UInt8) : Prop := Sf m ∨ ∃ A, Sf A ∧ m = A ++ [32, 76, 73, 77, 73, 84]
theorem Sf.junk {m : List UInt8} (h : Sf m) (k : Int) (h1 : 1 ≤ k) (h2 : k ≤ 26) : SfJ (m ++ (32 :: ttext (k, 1))) := by
  by_cases h5 : k = 5
  · subst h5
    exact .inr ⟨m, h, rfl⟩
  · refine .inl (h.app ?_)
    have hk : k = 1 ∨ k = 2 ∨ k = 3 ∨ k = 4 ∨ k = 6 ∨ k = 7 ∨ k = 8 ∨ k = 9 ∨ k = 10 ∨ k = 11 ∨ k = 12 ∨ k = 13 ∨ k = 14 ∨ k = 15 ∨ k = 16 ∨ k = 17 ∨ k = 18 ∨ k = 19 ∨ k = 20 ∨ k = 21 ∨ k = 22 ∨ k = 23 ∨ k = 24 ∨ k = 25 ∨ k = 26 := by omega
    rcases hk with rfl | rfl | rfl | rfl | rfl | rfl | rfl | rfl | rfl | rfl | rfl | rfl | rfl | rfl | rfl | rfl | rfl | rfl | rfl | rfl | rfl | rfl | rfl | rfl | rfl
    all_goals exact Sf.lit (by decide)
end Go.Proofs.YbyabwGreat
