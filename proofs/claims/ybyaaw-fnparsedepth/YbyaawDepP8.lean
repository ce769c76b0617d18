/- Plain: a parse that runs on the same tokens from another place, with more nodes before it, goes the same way. No Go here. -/
import Derived.Test.YbyaawParseQ
namespace Go.Proofs.Ybyaaw
open Go.RowKit
set_option linter.unusedVariables false

/-- The state s' is the state s, A tokens and k nodes further. -/
structure Sh (A k : Nat) (s' s : PS) : Prop where
  pos : s'.pos = A + s.pos
  nd : s'.nd.length = s.nd.length + k
  dep : s'.dep = s.dep
theorem Sh.adv {A k : Nat} {s' s : PS} (h : Sh A k s' s) : Sh A k s'.adv s.adv := ⟨by simp only [PS.adv]; have := h.pos; omega, h.nd, h.dep⟩
theorem Sh.deep {A k : Nat} {s' s : PS} (h : Sh A k s' s) : Sh A k s'.deep s.deep := ⟨h.pos, h.nd, by simp only [PS.deep]; have := h.dep; omega⟩
theorem Sh.up {A k : Nat} {s' s : PS} (h : Sh A k s' s) : Sh A k s'.up s.up := ⟨h.pos, h.nd, by simp only [PS.up]; have := h.dep; omega⟩
theorem Sh.push {A k : Nat} {s' s : PS} (h : Sh A k s' s) (n' n : Nd) : Sh A k (s'.push n') (s.push n) := ⟨h.pos, by simp only [PS.push, List.length_append, List.length_singleton]; have := h.nd; omega, h.dep⟩
theorem pk_shift (a tm : List (Int × Int)) (q : Nat) : pk (a ++ tm) (a.length + q) = pk tm q := by
  unfold pk
  have e : (a ++ tm).getD (a.length + q) (0, 0) = tm.getD q (0, 0) := by
    rw [List.getD_eq_getElem?_getD, List.getElem?_append_right (by omega), List.getD_eq_getElem?_getD]
    congr 2
    omega
  rw [e, List.length_append]
  by_cases h : q < tm.length
  · rw [if_pos (by omega), if_pos h]
  · rw [if_neg (by omega), if_neg h]
theorem nu_shift (a tm : List (Int × Int)) (q : Nat) : nu (a ++ tm) (a.length + q) = nu tm q := by
  unfold nu
  rw [List.getD_eq_getElem?_getD, List.getElem?_append_right (by omega), List.getD_eq_getElem?_getD]
  congr 3
  omega
theorem Sh.pk {a tm : List (Int × Int)} {k : Nat} {s' s : PS} (h : Sh a.length k s' s) : Go.Proofs.Ybyaaw.pk (a ++ tm) s'.pos = Go.Proofs.Ybyaaw.pk tm s.pos := by rw [h.pos]; exact pk_shift a tm s.pos
def SimR (A k : Nat) (r' r : Option (Option (Int × PS))) : Prop :=
  (r' = none ∧ r = none) ∨ (r' = some none ∧ r = some none) ∨ ∃ x' s' x s, r' = some (some (x', s')) ∧ r = some (some (x, s)) ∧ Sh A k s' s
theorem SimR.no (A k : Nat) : SimR A k (some none) (some none) := .inr (.inl ⟨rfl, rfl⟩)
theorem SimR.yes {A k : Nat} {s' s : PS} (x' x : Int) (h : Sh A k s' s) : SimR A k (some (some (x', s'))) (some (some (x, s))) := .inr (.inr ⟨x', s', x, s, rfl, rfl, h⟩)
theorem bnd_sim {A k : Nat} {r' r : Option (Option (Int × PS))} {f' f : Int → PS → Option (Option (Int × PS))} (h : SimR A k r' r) (hf : ∀ x' s' x s, Sh A k s' s → SimR A k (f' x' s') (f x s)) : SimR A k (bnd r' f') (bnd r f) := by
  rcases h with ⟨rfl, rfl⟩ | ⟨rfl, rfl⟩ | ⟨x', s', x, s, rfl, rfl, hs⟩
  · exact .inl ⟨rfl, rfl⟩
  · exact SimR.no A k
  · exact hf x' s' x s hs
theorem pf_sim (a tm : List (Int × Int)) (k : Nat) : ∀ (f lv : Nat) (l' l : Int) (s' s : PS), Sh a.length k s' s → SimR a.length k (pf (a ++ tm) f lv l' s') (pf tm f lv l s) := by
  intro f
  induction f with
  | zero => intro lv l' l s' s h; exact .inl ⟨rfl, rfl⟩
  | succ f ih =>
    intro lv l' l s' s h
    rw [pf, pf, h.pk (tm := tm), h.dep]
    by_cases c0 : lv = 0
    · rw [if_pos c0, if_pos c0]
      by_cases d1 : Go.Proofs.Ybyaaw.pk tm s.pos = 14
      · rw [if_pos d1, if_pos d1]; exact SimR.yes _ _ (h.adv.push _ _)
      · rw [if_neg d1, if_neg d1]
        by_cases d2 : Go.Proofs.Ybyaaw.pk tm s.pos = 13
        · rw [if_pos d2, if_pos d2]; exact SimR.yes _ _ (h.adv.push _ _)
        · rw [if_neg d2, if_neg d2]
          by_cases d3 : Go.Proofs.Ybyaaw.pk tm s.pos = 15
          · rw [if_pos d3, if_pos d3]
            by_cases d4 : 4096 ≤ s.dep
            · rw [if_pos d4, if_pos d4]; exact SimR.no _ _
            · rw [if_neg d4, if_neg d4]
              refine bnd_sim (ih _ _ _ _ _ h.adv.deep) (fun x' s1' x s1 h1 => ?_)
              rw [h1.pk (tm := tm)]
              by_cases d5 : Go.Proofs.Ybyaaw.pk tm s1.pos = 16
              · rw [if_pos d5, if_pos d5]; exact SimR.yes _ _ h1.adv.up
              · rw [if_neg d5, if_neg d5]; exact SimR.no _ _
          · rw [if_neg d3, if_neg d3]; exact SimR.no _ _
    · rw [if_neg c0, if_neg c0]
      by_cases c1 : lv = 1 ∨ lv = 5
      · rw [if_pos c1, if_pos c1]
        by_cases d1 : Go.Proofs.Ybyaaw.pk tm s.pos = unKind lv
        · rw [if_pos d1, if_pos d1]
          by_cases d4 : 4096 ≤ s.dep
          · rw [if_pos d4, if_pos d4]; exact SimR.no _ _
          · rw [if_neg d4, if_neg d4]
            exact bnd_sim (ih _ _ _ _ _ h.adv.deep) (fun x' s1' x s1 h1 => SimR.yes _ _ (h1.up.push _ _))
        · rw [if_neg d1, if_neg d1]
          exact ih _ _ _ _ _ h
      · rw [if_neg c1, if_neg c1]
        by_cases c4 : lv = 4
        · rw [if_pos c4, if_pos c4]
          refine bnd_sim (ih _ _ _ _ _ h) (fun x' s1' x s1 h1 => ?_)
          rw [h1.pk (tm := tm)]
          by_cases d1 : 21 ≤ Go.Proofs.Ybyaaw.pk tm s1.pos ∧ Go.Proofs.Ybyaaw.pk tm s1.pos ≤ 26
          · rw [if_pos d1, if_pos d1]
            exact bnd_sim (ih _ _ _ _ _ h1.adv) (fun y' s2' y s2 h2 => SimR.yes _ _ (h2.push _ _))
          · rw [if_neg d1, if_neg d1]; exact SimR.yes _ _ h1
        · rw [if_neg c4, if_neg c4]
          by_cases c10 : lv < 10
          · rw [if_pos c10, if_pos c10]
            exact bnd_sim (ih _ _ _ _ _ h) (fun x' s1' x s1 h1 => ih _ _ _ _ _ h1)
          · rw [if_neg c10, if_neg c10]
            cases opOf (lv - 10) (Go.Proofs.Ybyaaw.pk tm s.pos) with
            | none => exact SimR.yes _ _ h
            | some o => exact bnd_sim (ih _ _ _ _ _ h.adv) (fun x' s1' x s1 h1 => ih _ _ _ _ _ (h1.push _ _))
/-- The two ends: refused both, or both a query with k nodes more. -/
def SimQ (k : Nat) (r' r : Option (Option Qy)) : Prop :=
  (r' = none ∧ r = none) ∨ (r' = some none ∧ r = some none) ∨ ∃ q' q, r' = some (some q') ∧ r = some (some q) ∧ q'.nd.length = q.nd.length + k
theorem q5_sim (a tm : List (Int × Int)) (k : Nat) (its' its : List (Int × Int)) (wh' wh : Int) (gr : List Int) (li : Int) (s' s : PS) (h : Sh a.length k s' s) : SimQ k (some (q5 (a ++ tm) its' wh' gr li s')) (some (q5 tm its wh gr li s)) := by
  unfold q5
  have h1 := h.pos
  rw [List.length_append]
  by_cases hp : s.pos = tm.length
  · rw [if_pos (by omega), if_pos hp]; exact .inr (.inr ⟨_, _, rfl, rfl, h.nd⟩)
  · rw [if_neg (by omega), if_neg hp]; exact .inr (.inl ⟨rfl, rfl⟩)
theorem q4_sim (a tm : List (Int × Int)) (k : Nat) (its' its : List (Int × Int)) (wh' wh : Int) (gr : List Int) (s' s : PS) (h : Sh a.length k s' s) : SimQ k (some (q4 (a ++ tm) its' wh' gr s')) (some (q4 tm its wh gr s)) := by
  unfold q4
  rw [h.pk (tm := tm), h.adv.pk (tm := tm)]
  by_cases h1 : Go.Proofs.Ybyaaw.pk tm s.pos = 5
  · rw [if_pos h1, if_pos h1]
    by_cases h2 : Go.Proofs.Ybyaaw.pk tm s.adv.pos = 14
    · rw [if_pos h2, if_pos h2]
      have e : nu (a ++ tm) s'.adv.pos = nu tm s.adv.pos := by rw [h.adv.pos]; exact nu_shift a tm _
      rw [e]
      exact q5_sim a tm k its' its wh' wh gr _ _ _ h.adv.adv
    · rw [if_neg h2, if_neg h2]; exact .inr (.inl ⟨rfl, rfl⟩)
  · rw [if_neg h1, if_neg h1]
    exact q5_sim a tm k its' its wh' wh gr _ _ _ h
theorem g3_sim (a tm : List (Int × Int)) (k : Nat) (its' its : List (Int × Int)) (wh' wh : Int) : ∀ (f : Nat) (gr : List Int) (s' s : PS), Sh a.length k s' s → SimQ k (g3 (a ++ tm) its' wh' f gr s') (g3 tm its wh f gr s) := by
  intro f
  induction f with
  | zero => intro gr s' s h; exact .inl ⟨rfl, rfl⟩
  | succ f ih =>
    intro gr s' s h
    rw [g3, g3, h.pk (tm := tm), h.adv.pk (tm := tm)]
    have e : nu (a ++ tm) s'.pos = nu tm s.pos := by rw [h.pos]; exact nu_shift a tm _
    rw [e]
    by_cases h1 : Go.Proofs.Ybyaaw.pk tm s.pos = 13
    · rw [if_pos h1, if_pos h1]
      by_cases h2 : Go.Proofs.Ybyaaw.pk tm s.adv.pos = 17
      · rw [if_pos h2, if_pos h2]; exact ih _ _ _ h.adv.adv
      · rw [if_neg h2, if_neg h2]; exact q4_sim a tm k its' its wh' wh _ _ _ h.adv
    · rw [if_neg h1, if_neg h1]; exact .inr (.inl ⟨rfl, rfl⟩)
theorem q3_sim (a tm : List (Int × Int)) (k f : Nat) (its' its : List (Int × Int)) (wh' wh : Int) (s' s : PS) (h : Sh a.length k s' s) : SimQ k (q3 (a ++ tm) f its' wh' s') (q3 tm f its wh s) := by
  unfold q3
  rw [h.pk (tm := tm), h.adv.pk (tm := tm)]
  by_cases h1 : Go.Proofs.Ybyaaw.pk tm s.pos = 3
  · rw [if_pos h1, if_pos h1]
    by_cases h2 : Go.Proofs.Ybyaaw.pk tm s.adv.pos = 4
    · rw [if_pos h2, if_pos h2]; exact g3_sim a tm k its' its wh' wh f _ _ _ h.adv.adv
    · rw [if_neg h2, if_neg h2]; exact .inr (.inl ⟨rfl, rfl⟩)
  · rw [if_neg h1, if_neg h1]; exact q4_sim a tm k its' its wh' wh _ _ _ h
theorem q2_sim (a tm : List (Int × Int)) (k f : Nat) (its' its : List (Int × Int)) (s' s : PS) (h : Sh a.length k s' s) : SimQ k (q2 (a ++ tm) f its' s') (q2 tm f its s) := by
  unfold q2
  rw [h.pk (tm := tm)]
  by_cases h1 : Go.Proofs.Ybyaaw.pk tm s.pos = 2
  · rw [if_pos h1, if_pos h1]
    rcases pf_sim a tm k f 7 0 0 _ _ h.adv with ⟨e', e⟩ | ⟨e', e⟩ | ⟨x', s1', x, s1, e', e, hs⟩
    · rw [e', e]; exact .inl ⟨rfl, rfl⟩
    · rw [e', e]; exact .inr (.inl ⟨rfl, rfl⟩)
    · rw [e', e]; exact q3_sim a tm k f its' its x' x _ _ hs
  · rw [if_neg h1, if_neg h1]; exact q3_sim a tm k f its' its (-1) (-1) _ _ h
end Go.Proofs.Ybyaaw
