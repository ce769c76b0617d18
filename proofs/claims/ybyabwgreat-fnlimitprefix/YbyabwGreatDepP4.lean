/- Plain: the tokens of a text and of its tail. No Go here. -/
import Derived.Test.YbyabwGreatDepP3
namespace Go.Proofs.YbyabwGreat
open Go.RowKit
set_option linter.unusedVariables false

theorem wE_ge (s : ByteArray) : ∀ (f j : Nat), j ≤ wE s f j := by
  intro f
  induction f with
  | zero => intro j; exact Nat.le_refl _
  | succ f ih =>
    intro j
    simp only [wE]
    split
    · have := ih (j + 1); omega
    · exact Nat.le_refl _
theorem nm_ge (s : ByteArray) : ∀ (f j : Nat) (v : Int) (q : Nat × Int), nm s f j v = some q → j ≤ q.1 := by
  intro f
  induction f with
  | zero => intro j v q h; cases h; exact Nat.le_refl _
  | succ f ih =>
    intro j v q h
    simp only [nm] at h
    split at h
    · split at h
      · cases h
      · have := ih (j + 1) _ q h; omega
    · cases h; exact Nat.le_refl _
theorem pun_len (b nb : Int) (h : (pun b nb).1 ≠ 0) : 1 ≤ (pun b nb).2 := by
  unfold pun at *
  repeat' split
  all_goals simp_all
theorem step_adv {s : ByteArray} {i j : Nat} {o : List (Int × Int)} (hi : i < s.size) (h : step s i = some (j, o)) : i < j := by
  by_cases h1 : isS (tb s i) = true
  · rw [step_space h1] at h; cases h; omega
  · by_cases h2 : isL (tb s i) = true
    · rw [step_word h2] at h
      have hw : i < wE s s.size i := by
        obtain ⟨f', e, _⟩ := wE_go (s := s) (f := s.size) (j := i) ⟨hi, isL_wc h2⟩ (by omega)
        rw [e]
        have := wE_ge s f' (i + 1)
        omega
      cases hh : word (s.extract i (wE s s.size i)) with
      | none => rw [hh] at h; cases h
      | some t => rw [hh] at h; cases h; exact hw
    · by_cases h3 : isD (tb s i) = true
      · rw [step_num h3] at h
        cases hh : nm s s.size i 0 with
        | none => rw [hh] at h; cases h
        | some q =>
          rw [hh] at h
          have hq : i < q.1 := by
            have hs : s.size = (s.size - 1) + 1 := by omega
            rw [hs] at hh
            simp only [nm] at hh
            rw [if_pos ⟨hi, h3⟩] at hh
            split at hh
            · cases hh
            · have := nm_ge s _ _ _ q hh; omega
          simp only [numTok] at h
          split at h
          · cases h
          · cases h; exact hq
      · rw [step_pun (by simpa using h1) (by simpa using h2) (by simpa using h3)] at h
        split at h
        · cases h
        · rename_i h5
          cases h
          have := pun_len _ _ h5
          omega
theorem T_more (s : ByteArray) : ∀ (f g j : Nat) (out : List (Int × Int)), s.size - j ≤ f → s.size - j ≤ g → T s f j out = T s g j out := by
  intro f
  induction f with
  | zero => intro g j out h1 h2; rw [T_end (by omega), T_end (by omega)]
  | succ f ih =>
    intro g j out h1 h2
    by_cases hj : j < s.size
    · cases g with
      | zero => omega
      | succ g =>
        simp only [T]
        rw [if_pos hj, if_pos hj]
        cases hs : step s j with
        | none => rfl
        | some q =>
          have := step_adv hj hs
          exact ih g q.1 _ (by omega) (by omega)
    · rw [T_end hj, T_end hj]
/-- The tokens of a tail, whatever its length. -/
def tokM (m : List UInt8) : Option (List (Int × Int)) := T (tx m) m.length 0 []
theorem tokens_split (A m : List UInt8) (o : List (Int × Int)) (hR : Rn (tx (A ++ m)) 0 A.length o) :
    tokens (tx (A ++ m)) = if 65536 < (A ++ m).length then none else (tokM m).map fun r => o ++ r := by
  unfold tokens
  rw [tx_size]
  by_cases h : 65536 < (A ++ m).length
  · rw [if_pos h, if_pos h]
  · rw [if_neg h, if_neg h]
    obtain ⟨f', e, hf⟩ := hR (A ++ m).length [] (by rw [tx_size]; omega)
    rw [e, List.nil_append]
    have := T_shift A m f' 0 o
    rw [Nat.add_zero] at this
    rw [this, T_out, T_more (tx m) f' m.length 0 [] (by rw [size_shift] at hf; omega) (by rw [tx_size]; omega)]
    rfl
theorem plain_run {t0 : Int × Int} {ps : List ((Int × Int) × (Int × Int))} (h : FlatC t0 ps) (m : List UInt8) (hm : Brk m) :
    Rn (tx (sel ++ render (chainT t0 ps) ++ m)) 0 (sel ++ render (chainT t0 ps)).length ([(1, 0)] ++ chainT t0 ps) := by
  have := wrap_run 0 h 0 m hm
  simpa [wpre, wtok] using this
/-- The tokens of both texts of DepthText. -/
theorem depth_tokens (n : Nat) {t0 : Int × Int} {ps : List ((Int × Int) × (Int × Int))} (h : FlatC t0 ps) (m : List UInt8) (hm : SpJ m) :
    tokens (tx (sel ++ (wpre n).reverse ++ render (chainT t0 ps) ++ List.replicate ((n + 2) / 3) 41 ++ m)) =
      (if 65536 < (sel ++ (wpre n).reverse ++ render (chainT t0 ps) ++ List.replicate ((n + 2) / 3) 41 ++ m).length then none else (tokM m).map fun r => ([(1, 0)] ++ wtok n ++ chainT t0 ps ++ List.replicate ((n + 2) / 3) (16, 0)) ++ r) ∧
    tokens (tx (sel ++ render (chainT t0 ps) ++ m)) = (if 65536 < (sel ++ render (chainT t0 ps) ++ m).length then none else (tokM m).map fun r => ([(1, 0)] ++ chainT t0 ps) ++ r) :=
  ⟨tokens_split _ m _ (wrap_run n h _ m hm.brk), tokens_split _ m _ (plain_run h m hm.brk)⟩
end Go.Proofs.YbyabwGreat
