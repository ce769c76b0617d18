/- Plain: the tokenizer looks only at what follows. No Go here. -/
import Derived.Test.YbyabwGreatGenP
namespace Go.Proofs.YbyabwGreat
open Go.RowKit
set_option linter.unusedVariables false

theorem tb_shift (A m : List UInt8) (j : Nat) : tb (tx (A ++ m)) (A.length + j) = tb (tx m) j := by
  rw [tx_tb, tx_tb, List.getElem?_append_right (by omega)]
  congr 3
  congr 1
  omega
theorem size_shift (A m : List UInt8) : (tx (A ++ m)).size = A.length + (tx m).size := by rw [tx_size, tx_size, List.length_append]
theorem ext_shift (A m : List UInt8) (i j : Nat) : (tx (A ++ m)).extract (A.length + i) (A.length + j) = (tx m).extract i j := by
  rw [tx_extract, tx_extract]
  congr 1
  rw [List.take_append, List.drop_append]
  simp
theorem wE_more (s : ByteArray) : ∀ (f g j : Nat), s.size - j ≤ f → s.size - j ≤ g → wE s f j = wE s g j := by
  intro f
  induction f with
  | zero =>
    intro g j h1 h2
    have hs : ¬ (j < s.size ∧ wc (tb s j) = true) := fun hh => by omega
    rw [wE_stop hs, wE_stop hs]
  | succ f ih =>
    intro g j h1 h2
    by_cases hs : j < s.size ∧ wc (tb s j) = true
    · cases g with
      | zero => omega
      | succ g =>
        simp only [wE]
        rw [if_pos hs, if_pos hs]
        exact ih g (j + 1) (by omega) (by omega)
    · rw [wE_stop hs, wE_stop hs]
theorem wE_shift (A m : List UInt8) : ∀ (f j : Nat), wE (tx (A ++ m)) f (A.length + j) = A.length + wE (tx m) f j := by
  intro f
  induction f with
  | zero => intro j; rfl
  | succ f ih =>
    intro j
    simp only [wE]
    rw [tb_shift, size_shift]
    by_cases hs : j < (tx m).size ∧ wc (tb (tx m) j) = true
    · rw [if_pos ⟨by omega, hs.2⟩, if_pos hs]
      exact ih (j + 1)
    · rw [if_neg (fun hh => hs ⟨by omega, hh.2⟩), if_neg hs]
theorem nm_more (s : ByteArray) : ∀ (f g j : Nat) (v : Int), s.size - j ≤ f → s.size - j ≤ g → nm s f j v = nm s g j v := by
  intro f
  induction f with
  | zero =>
    intro g j v h1 h2
    have hs : ¬ (j < s.size ∧ isD (tb s j) = true) := fun hh => by omega
    rw [nm_stop hs, nm_stop hs]
  | succ f ih =>
    intro g j v h1 h2
    by_cases hs : j < s.size ∧ isD (tb s j) = true
    · cases g with
      | zero => omega
      | succ g =>
        simp only [nm]
        rw [if_pos hs, if_pos hs]
        split
        · rfl
        · exact ih g (j + 1) _ (by omega) (by omega)
    · rw [nm_stop hs, nm_stop hs]
theorem nm_shift (A m : List UInt8) : ∀ (f j : Nat) (v : Int), nm (tx (A ++ m)) f (A.length + j) v = (nm (tx m) f j v).map fun q => (A.length + q.1, q.2) := by
  intro f
  induction f with
  | zero => intro j v; rfl
  | succ f ih =>
    intro j v
    simp only [nm]
    rw [tb_shift, size_shift]
    by_cases hs : j < (tx m).size ∧ isD (tb (tx m) j) = true
    · rw [if_pos ⟨by omega, hs.2⟩, if_pos hs]
      split
      · rfl
      · exact ih (j + 1) _
    · rw [if_neg (fun hh => hs ⟨by omega, hh.2⟩), if_neg hs]
      rfl
theorem nxt_shift (A m : List UInt8) (j : Nat) : nxt (tx (A ++ m)) (A.length + j) = nxt (tx m) j := by
  unfold nxt
  rw [show A.length + j + 1 = A.length + (j + 1) by omega, tb_shift, size_shift]
  by_cases h : j + 1 < (tx m).size
  · rw [if_pos (by omega), if_pos h]
  · rw [if_neg (by omega), if_neg h]
theorem step_shift (A m : List UInt8) (j : Nat) : step (tx (A ++ m)) (A.length + j) = (step (tx m) j).map fun q => (A.length + q.1, q.2) := by
  unfold step
  rw [tb_shift, nxt_shift]
  have hw : wE (tx (A ++ m)) (tx (A ++ m)).size (A.length + j) = A.length + wE (tx m) (tx m).size j := by
    rw [wE_shift, wE_more (tx m) (tx (A ++ m)).size (tx m).size j (by rw [size_shift]; omega) (by omega)]
  have hn : nm (tx (A ++ m)) (tx (A ++ m)).size (A.length + j) 0 = (nm (tx m) (tx m).size j 0).map fun q => (A.length + q.1, q.2) := by
    rw [nm_shift, nm_more (tx m) (tx (A ++ m)).size (tx m).size j 0 (by rw [size_shift]; omega) (by omega)]
  rw [hw, hn, ext_shift]
  by_cases h1 : isS (tb (tx m) j) = true
  · rw [if_pos h1, if_pos h1]; rfl
  · rw [if_neg h1, if_neg h1]
    by_cases h2 : isL (tb (tx m) j) = true
    · rw [if_pos h2, if_pos h2]
      cases word ((tx m).extract j (wE (tx m) (tx m).size j)) <;> rfl
    · rw [if_neg h2, if_neg h2]
      by_cases h3 : isD (tb (tx m) j) = true
      · rw [if_pos h3, if_pos h3]
        cases nm (tx m) (tx m).size j 0 with
        | none => rfl
        | some q =>
          simp only [Option.map_some, numTok]
          rw [tb_shift, size_shift]
          by_cases h4 : q.1 < (tx m).size ∧ (isL (tb (tx m) q.1) || (tb (tx m) q.1 == 95)) = true
          · rw [if_pos ⟨by omega, h4.2⟩, if_pos h4]; rfl
          · rw [if_neg (fun hh => h4 ⟨by omega, hh.2⟩), if_neg h4]; rfl
      · rw [if_neg h3, if_neg h3]
        by_cases h5 : (pun (tb (tx m) j) (nxt (tx m) j)).1 = 0
        · rw [if_pos h5, if_pos h5]; rfl
        · rw [if_neg h5, if_neg h5]
          simp only [Option.map_some]
          congr 2
          omega
theorem T_shift (A m : List UInt8) : ∀ (f j : Nat) (out : List (Int × Int)), T (tx (A ++ m)) f (A.length + j) out = T (tx m) f j out := by
  intro f
  induction f with
  | zero => intro j out; rfl
  | succ f ih =>
    intro j out
    simp only [T]
    rw [step_shift, size_shift]
    by_cases h : j < (tx m).size
    · rw [if_pos (by omega), if_pos h]
      cases step (tx m) j with
      | none => rfl
      | some q => exact ih q.1 _
    · rw [if_neg (by omega), if_neg h]
theorem T_out (s : ByteArray) : ∀ (f j : Nat) (out : List (Int × Int)), T s f j out = (T s f j []).map fun r => out ++ r := by
  intro f
  induction f with
  | zero => intro j out; simp [T]
  | succ f ih =>
    intro j out
    simp only [T]
    by_cases h : j < s.size
    · rw [if_pos h, if_pos h]
      cases step s j with
      | none => rfl
      | some q =>
        simp only
        rw [ih q.1 (out ++ q.2), ih q.1 ([] ++ q.2)]
        cases T s f q.1 [] <;> simp
    · rw [if_neg h, if_neg h]
      simp
end Go.Proofs.YbyabwGreat
