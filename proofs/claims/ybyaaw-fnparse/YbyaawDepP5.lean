/- Plain: how a tail's tokens open. No Go here. -/
import Derived.Test.YbyaawDepP4
namespace Go.Proofs.Ybyaaw
open Go.RowKit
set_option linter.unusedVariables false

/-- A tail's tokens: none, or WHERE, GROUP, LIMIT first, or one token alone. -/
def TmOK (tm : List (Int × Int)) : Prop := tm = [] ∨ (∃ k n r, tm = (k, n) :: r ∧ (k = 2 ∨ k = 3 ∨ k = 5)) ∨ ∃ k n, tm = [(k, n)]
theorem Rn.kw (pre rest : List UInt8) (hr : Brk rest) (b : UInt8) (w : List UInt8) (k : Int) (hL : isL (b.toNat : Int) = true) (hw : (b :: w).all (fun c => wc (c.toNat : Int)) = true) (hk : kwOf (tx (b :: w)) = k) (h0 : k ≠ 0) :
    Rn (tx (pre ++ (b :: w) ++ rest)) pre.length (pre.length + (b :: w).length) [(k, 0)] := by
  have h := AtW.of pre (b :: w) rest hr
  have hl := h.le
  have hp : 0 < (b :: w).length := by simp
  refine Rn.step (by omega) (by omega) (h.word hL (fun c hc => List.all_eq_true.1 hw c hc) _ ?_)
  simp only [word, hk, h0, if_false]
theorem tokM_run (m : List UInt8) (j : Nat) (o : List (Int × Int)) (hR : Rn (tx m) 0 j o) : ∃ r : Option (List (Int × Int)), tokM m = r.map fun q => o ++ q := by
  obtain ⟨f', e, _⟩ := hR m.length [] (by rw [tx_size]; omega)
  exact ⟨_, by unfold tokM; rw [e, T_out]; rfl⟩
theorem tokM_kw (m : List UInt8) (j : Nat) (k : Int) (hk : k = 2 ∨ k = 3 ∨ k = 5) (hR : Rn (tx m) 0 j [(k, 0)]) (tm : List (Int × Int)) (h : tokM m = some tm) : TmOK tm := by
  obtain ⟨r, e⟩ := tokM_run m j _ hR
  rw [h] at e
  cases r with
  | none => cases e
  | some q =>
    simp only [Option.map_some, Option.some.injEq] at e
    exact .inr (.inl ⟨k, 0, q, e, hk⟩)
theorem tokM_ok (m : List UInt8) (hm : SpJ m) (tm : List (Int × Int)) (h : tokM m = some tm) : TmOK tm := by
  rcases hm with (rfl | ⟨r, rfl⟩ | ⟨r, rfl⟩ | ⟨r, rfl⟩) | ⟨k, h1, h2, rfl⟩
  · cases h; exact .inl rfl
  · have r1 := Rn.space [] ([87, 72, 69, 82, 69] ++ 32 :: r)
    have r2 := Rn.kw [32] (32 :: r) (Brk.cons 32 _ (by decide)) 87 [72, 69, 82, 69] 2 (by decide) (by decide) (by simp only [kwOf, tx, ByteArray.toList_mk]; rfl) (by decide)
    exact tokM_kw _ _ 2 (.inl rfl) (Rn.trans r1 r2) tm h
  · have r1 := Rn.space [] ([71, 82, 79, 85, 80] ++ 32 :: (66 :: 89 :: 32 :: 99 :: r))
    have r2 := Rn.kw [32] (32 :: (66 :: 89 :: 32 :: 99 :: r)) (Brk.cons 32 _ (by decide)) 71 [82, 79, 85, 80] 3 (by decide) (by decide) (by simp only [kwOf, tx, ByteArray.toList_mk]; rfl) (by decide)
    exact tokM_kw _ _ 3 (.inr (.inl rfl)) (Rn.trans r1 r2) tm h
  · have r1 := Rn.space [] ([76, 73, 77, 73, 84] ++ 32 :: r)
    have r2 := Rn.kw [32] (32 :: r) (Brk.cons 32 _ (by decide)) 76 [73, 77, 73, 84] 5 (by decide) (by decide) (by simp only [kwOf, tx, ByteArray.toList_mk]; rfl) (by decide)
    exact tokM_kw _ _ 5 (.inr (.inr rfl)) (Rn.trans r1 r2) tm h
  · -- one token alone
    have hat : At (tx (32 :: ttext (k, 1))) 1 (ttext (k, 1)) := by
      have := At.of [32] (ttext (k, 1)) [] (fun b r h => by cases h)
      simpa using this
    have hex : ∃ n, step (tx (32 :: ttext (k, 1))) 1 = some (1 + (ttext (k, 1)).length, [(k, n)]) := by
      by_cases e13 : k = 13
      · subst e13
        exact ⟨1, step_tok ⟨by decide, by decide, fun _ => ⟨by decide, by decide⟩, fun h => by simp at h, fun h => absurd rfl h⟩ hat⟩
      · by_cases e14 : k = 14
        · subst e14
          exact ⟨1, step_tok ⟨by decide, by decide, fun h => by simp at h, fun _ => ⟨by decide, by decide⟩, fun _ h => absurd rfl h⟩ hat⟩
        · have et : ttext (k, 1) = ttext (k, 0) := by unfold ttext; simp [e13, e14]
          rw [et] at hat ⊢
          exact ⟨0, step_tok ⟨h1, h2, fun h => absurd h e13, fun h => absurd h e14, fun _ _ => rfl⟩ hat⟩
    obtain ⟨n, hst⟩ := hex
    have hz := ttext_ne (k, 1)
    have hsz : (tx (32 :: ttext (k, 1))).size = 1 + (ttext (k, 1)).length := by rw [tx_size]; simp; omega
    have r1 := Rn.space [] (ttext (k, 1))
    have r2 : Rn (tx (32 :: ttext (k, 1))) 1 (1 + (ttext (k, 1)).length) [(k, n)] := Rn.step (by omega) (by omega) hst
    obtain ⟨f', e, _⟩ := (Rn.trans r1 r2) (32 :: ttext (k, 1)).length [] (by rw [tx_size]; simp)
    unfold tokM at h
    have e' : T (tx (32 :: ttext (k, 1))) (32 :: ttext (k, 1)).length 0 [] = T (tx (32 :: ttext (k, 1))) f' (1 + (ttext (k, 1)).length) ([] ++ ([] ++ [(k, n)])) := e
    rw [e', T_end (by omega)] at h
    cases h
    exact .inr (.inr ⟨k, n, rfl⟩)
end Go.Proofs.Ybyaaw
