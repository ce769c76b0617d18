/- Plain: the nodes of a parsed expression are a block in post-order. No Go here. -/
import Derived.Test.YbyaawParseQ
namespace Go.Proofs.Ybyaaw
open Go.RowKit
set_option linter.unusedVariables false

/-- The nodes a .. x of nd are one expression in post-order, x its root. -/
def NB (nd : List Nd) : Nat → Nat → Nat → Prop
  | 0, _, _ => False
  | f + 1, a, x => x < nd.length ∧
      ((∃ v, nd.getD x nd0 = ⟨1, v, -1, -1⟩ ∧ 0 ≤ v ∧ v ≤ 9223372036854775807 ∧ a = x) ∨
       (∃ v, nd.getD x nd0 = ⟨2, v, -1, -1⟩ ∧ 0 ≤ v ∧ v ≤ 65535 ∧ a = x) ∨
       (∃ (o : Int) (y : Nat), nd.getD x nd0 = ⟨o, 0, (y : Int), -1⟩ ∧ (o = 3 ∨ o = 15) ∧ x = y + 1 ∧ NB nd f a y) ∨
       (∃ (o : Int) (y z : Nat), nd.getD x nd0 = ⟨o, 0, (y : Int), (z : Int)⟩ ∧ 4 ≤ o ∧ o ≤ 14 ∧ x = z + 1 ∧ NB nd f a y ∧ NB nd f (y + 1) z))
theorem NB.bound {nd : List Nd} : ∀ (f a x : Nat), NB nd f a x → a ≤ x ∧ x < nd.length := by
  intro f
  induction f with
  | zero => intro a x h; exact h.elim
  | succ f ih =>
    intro a x h
    obtain ⟨h0, h | h | h | h⟩ := h
    · obtain ⟨v, _, _, _, rfl⟩ := h; exact ⟨Nat.le_refl _, h0⟩
    · obtain ⟨v, _, _, _, rfl⟩ := h; exact ⟨Nat.le_refl _, h0⟩
    · obtain ⟨o, y, _, _, rfl, h⟩ := h
      have := ih _ _ h
      exact ⟨by omega, h0⟩
    · obtain ⟨o, y, z, _, _, _, rfl, h, h'⟩ := h
      have := ih _ _ h
      have := ih _ _ h'
      exact ⟨by omega, h0⟩
theorem NB.mono1 {nd : List Nd} : ∀ (f a x : Nat), NB nd f a x → NB nd (f + 1) a x := by
  intro f
  induction f with
  | zero => intro a x h; exact h.elim
  | succ f ih =>
    intro a x h
    obtain ⟨h0, h | h | h | h⟩ := h
    · exact ⟨h0, .inl h⟩
    · exact ⟨h0, .inr (.inl h)⟩
    · obtain ⟨o, y, h1, h2, h3, h4⟩ := h
      exact ⟨h0, .inr (.inr (.inl ⟨o, y, h1, h2, h3, ih _ _ h4⟩))⟩
    · obtain ⟨o, y, z, h1, h2, h3, h4, h5, h6⟩ := h
      exact ⟨h0, .inr (.inr (.inr ⟨o, y, z, h1, h2, h3, h4, ih _ _ h5, ih _ _ h6⟩))⟩
theorem NB.mono {nd : List Nd} {f g a x : Nat} (h : NB nd f a x) (hg : f ≤ g) : NB nd g a x := by
  obtain ⟨k, rfl⟩ : ∃ k, g = f + k := ⟨g - f, by omega⟩
  clear hg
  induction k with
  | zero => exact h
  | succ k ih => exact NB.mono1 _ _ _ ih
theorem getD_app (nd e : List Nd) (x : Nat) (h : x < nd.length) : (nd ++ e).getD x nd0 = nd.getD x nd0 := by
  rw [List.getD_eq_getElem?_getD, List.getD_eq_getElem?_getD, List.getElem?_append_left h]
theorem NB.app {nd : List Nd} (e : List Nd) : ∀ (f a x : Nat), NB nd f a x → NB (nd ++ e) f a x := by
  intro f
  induction f with
  | zero => intro a x h; exact h.elim
  | succ f ih =>
    intro a x h
    obtain ⟨h0, h⟩ := h
    refine ⟨by rw [List.length_append]; omega, ?_⟩
    rw [getD_app nd e x h0]
    rcases h with h | h | h | h
    · exact .inl h
    · exact .inr (.inl h)
    · obtain ⟨o, y, h1, h2, h3, h4⟩ := h
      exact .inr (.inr (.inl ⟨o, y, h1, h2, h3, ih _ _ h4⟩))
    · obtain ⟨o, y, z, h1, h2, h3, h4, h5, h6⟩ := h
      exact .inr (.inr (.inr ⟨o, y, z, h1, h2, h3, h4, ih _ _ h5, ih _ _ h6⟩))
/-- The nodes from a on are one expression, x its root. -/
def Bl (nd : List Nd) (a : Nat) (x : Int) : Prop := ∃ y : Nat, x = (y : Int) ∧ y + 1 = nd.length ∧ NB nd (y + 1) a y
theorem getD_last (nd : List Nd) (n : Nd) : (nd ++ [n]).getD nd.length nd0 = n := by
  rw [List.getD_eq_getElem?_getD, List.getElem?_append_right (by omega)]
  simp
theorem Bl.lit (nd : List Nd) (v : Int) (h0 : 0 ≤ v) (h1 : v ≤ 9223372036854775807) : Bl (nd ++ [⟨1, v, -1, -1⟩]) nd.length (nd.length : Int) :=
  ⟨nd.length, rfl, by simp, by simp, .inl ⟨v, getD_last nd _, h0, h1, rfl⟩⟩
theorem Bl.col (nd : List Nd) (v : Int) (h0 : 0 ≤ v) (h1 : v ≤ 65535) : Bl (nd ++ [⟨2, v, -1, -1⟩]) nd.length (nd.length : Int) :=
  ⟨nd.length, rfl, by simp, by simp, .inr (.inl ⟨v, getD_last nd _, h0, h1, rfl⟩)⟩
theorem Bl.un {nd : List Nd} {a : Nat} {x : Int} (h : Bl nd a x) (o : Int) (ho : o = 3 ∨ o = 15) : Bl (nd ++ [⟨o, 0, x, -1⟩]) a (nd.length : Int) := by
  obtain ⟨y, rfl, h1, h2⟩ := h
  refine ⟨nd.length, rfl, by simp, by simp, .inr (.inr (.inl ⟨o, y, getD_last nd _, ho, h1.symm, ?_⟩))⟩
  rw [← h1]
  exact h2.app _
theorem Bl.bin {nd nd' : List Nd} {a : Nat} {l x : Int} (h : Bl nd a l) (he : ∃ e, nd' = nd ++ e) (h' : Bl nd' nd.length x) (o : Int) (h4 : 4 ≤ o) (h14 : o ≤ 14) : Bl (nd' ++ [⟨o, 0, l, x⟩]) a (nd'.length : Int) := by
  obtain ⟨y, rfl, h1, h2⟩ := h
  obtain ⟨z, rfl, h3, h5⟩ := h'
  obtain ⟨e, rfl⟩ := he
  have hb := NB.bound _ _ _ h5
  refine ⟨(nd ++ e).length, rfl, by simp only [List.length_append, List.length_singleton], by simp only [List.length_append, List.length_singleton]; omega, .inr (.inr (.inr ⟨o, y, z, getD_last _ _, h4, h14, h3.symm, ?_, ?_⟩))⟩
  · exact ((h2.app e).app _).mono (by omega)
  · rw [h1]
    exact (h5.app _).mono (by omega)
def TsOK (ts : List (Int × Int)) : Prop := ∀ p, (pk ts p = 13 → 0 ≤ nu ts p ∧ nu ts p ≤ 65535) ∧ (pk ts p = 14 → 0 ≤ nu ts p ∧ nu ts p ≤ 9223372036854775807)
def Inv (lv : Nat) (l : Int) (s : PS) (r : Option (Int × PS)) : Prop := ∀ x s1, r = some (x, s1) → (∃ e, s1.nd = s.nd ++ e) ∧ (lv < 10 → Bl s1.nd s.nd.length x) ∧ (10 ≤ lv → ∀ a, Bl s.nd a l → Bl s1.nd a x)
theorem Inv.none (lv : Nat) (l : Int) (s : PS) : Inv lv l s none := fun x s1 h => by cases h
theorem opOf_rng {c : Nat} {k o : Int} (h : opOf c k = some o) : 4 ≤ o ∧ o ≤ 14 := by
  unfold opOf at h
  split at h
  · split at h
    · cases h; omega
    · cases h
  · split at h
    · split at h
      · cases h; omega
      · cases h
    · split at h
      · split at h
        · cases h; omega
        · split at h
          · cases h; omega
          · cases h
      · split at h
        · cases h; omega
        · cases h
theorem pf_nb (ts : List (Int × Int)) (hts : TsOK ts) : ∀ (f lv : Nat) (l : Int) (s : PS) (r : Option (Int × PS)), pf ts f lv l s = some r → (lv < 8 ∨ (10 ≤ lv ∧ lv < 18)) → Inv lv l s r := by
  intro f
  induction f with
  | zero => intro lv l s r h; cases h
  | succ f ih =>
    intro lv l s r h h18
    rw [pf] at h
    by_cases c0 : lv = 0
    · rw [if_pos c0] at h
      by_cases d1 : pk ts s.pos = 14
      · rw [if_pos d1] at h
        cases h
        intro x s1 e
        cases e
        have hr := (hts s.pos).2 d1
        exact ⟨⟨_, rfl⟩, fun _ => Bl.lit s.nd _ hr.1 hr.2, fun hh => by omega⟩
      · rw [if_neg d1] at h
        by_cases d2 : pk ts s.pos = 13
        · rw [if_pos d2] at h
          cases h
          intro x s1 e
          cases e
          have hr := (hts s.pos).1 d2
          exact ⟨⟨_, rfl⟩, fun _ => Bl.col s.nd _ hr.1 hr.2, fun hh => by omega⟩
        · rw [if_neg d2] at h
          by_cases d3 : pk ts s.pos = 15
          · rw [if_pos d3] at h
            by_cases d4 : 4096 ≤ s.dep
            · rw [if_pos d4] at h; cases h; exact Inv.none _ _ _
            · rw [if_neg d4] at h
              rcases bnd_some h with ⟨_, rfl⟩ | ⟨v, s1, h1, h2⟩
              · exact Inv.none _ _ _
              · have g1 := ih _ _ _ _ h1 (by omega) v s1 rfl
                by_cases d5 : pk ts s1.pos = 16
                · rw [if_pos d5] at h2
                  cases h2
                  intro x s2 e
                  cases e
                  exact ⟨g1.1, fun _ => g1.2.1 (by omega), fun hh => by omega⟩
                · rw [if_neg d5] at h2; cases h2; exact Inv.none _ _ _
          · rw [if_neg d3] at h; cases h; exact Inv.none _ _ _
    · rw [if_neg c0] at h
      by_cases c1 : lv = 1 ∨ lv = 5
      · rw [if_pos c1] at h
        by_cases d1 : pk ts s.pos = unKind lv
        · rw [if_pos d1] at h
          by_cases d4 : 4096 ≤ s.dep
          · rw [if_pos d4] at h; cases h; exact Inv.none _ _ _
          · rw [if_neg d4] at h
            rcases bnd_some h with ⟨_, rfl⟩ | ⟨v, s1, h1, h2⟩
            · exact Inv.none _ _ _
            · have g1 := ih _ _ _ _ h1 (by omega) v s1 rfl
              cases h2
              intro x s2 e
              cases e
              obtain ⟨⟨e1, he1⟩, g2, _⟩ := g1
              refine ⟨⟨e1 ++ [⟨unOp lv, 0, v, -1⟩], ?_⟩, fun _ => ?_, fun hh => by omega⟩
              · show s1.nd ++ _ = _
                rw [he1, List.append_assoc]
                rfl
              · exact Bl.un (g2 (by omega)) _ (by unfold unOp; split <;> simp)
        · rw [if_neg d1] at h
          have g1 := ih _ _ _ _ h (by omega)
          intro x s1 e
          have g2 := g1 x s1 e
          exact ⟨g2.1, fun _ => g2.2.1 (by omega), fun hh => by omega⟩
      · rw [if_neg c1] at h
        by_cases c4 : lv = 4
        · rw [if_pos c4] at h
          rcases bnd_some h with ⟨_, rfl⟩ | ⟨v, s1, h1, h2⟩
          · exact Inv.none _ _ _
          · have g1 := ih _ _ _ _ h1 (by omega) v s1 rfl
            by_cases d1 : 21 ≤ pk ts s1.pos ∧ pk ts s1.pos ≤ 26
            · rw [if_pos d1] at h2
              rcases bnd_some h2 with ⟨_, rfl⟩ | ⟨v2, s2, h3, h4⟩
              · exact Inv.none _ _ _
              · have g2 := ih _ _ _ _ h3 (by omega) v2 s2 rfl
                cases h4
                intro x s3 e
                cases e
                obtain ⟨⟨e1, he1⟩, g3, _⟩ := g1
                obtain ⟨⟨e2, he2⟩, g4, _⟩ := g2
                refine ⟨⟨e1 ++ (e2 ++ [⟨pk ts s1.pos - 14, 0, v, v2⟩]), ?_⟩, fun _ => ?_, fun hh => by omega⟩
                · show s2.nd ++ _ = _
                  rw [he2]
                  show s1.nd ++ _ ++ _ = _
                  rw [he1]
                  simp only [List.append_assoc]
                · exact Bl.bin (g3 (by omega)) ⟨e2, he2⟩ (g4 (by omega)) _ (by omega) (by omega)
            · rw [if_neg d1] at h2
              cases h2
              intro x s3 e
              cases e
              exact ⟨g1.1, fun _ => g1.2.1 (by omega), fun hh => by omega⟩
        · rw [if_neg c4] at h
          by_cases c10 : lv < 10
          · rw [if_pos c10] at h
            rcases bnd_some h with ⟨_, rfl⟩ | ⟨v, s1, h1, h2⟩
            · exact Inv.none _ _ _
            · have g1 := ih _ _ _ _ h1 (by omega) v s1 rfl
              intro x s2 e
              have g2 := ih _ _ _ _ h2 (by omega) x s2 e
              obtain ⟨⟨e1, he1⟩, g3, _⟩ := g1
              obtain ⟨⟨e2, he2⟩, _, g4⟩ := g2
              exact ⟨⟨e1 ++ e2, by rw [he2, he1, List.append_assoc]⟩, fun _ => g4 (by omega) _ (g3 (by omega)), fun hh => by omega⟩
          · rw [if_neg c10] at h
            split at h
            · cases h
              intro x s1 e
              cases e
              exact ⟨⟨[], by simp⟩, fun hh => absurd hh c10, fun _ a ha => ha⟩
            · rename_i o ho
              have hr := opOf_rng ho
              rcases bnd_some h with ⟨_, rfl⟩ | ⟨v, s1, h1, h2⟩
              · exact Inv.none _ _ _
              · have g1 := ih _ _ _ _ h1 (by omega) v s1 rfl
                intro x s2 e
                have g2 := ih _ _ _ _ h2 (by omega) x s2 e
                obtain ⟨⟨e1, he1⟩, g3, _⟩ := g1
                obtain ⟨⟨e2, he2⟩, _, g4⟩ := g2
                refine ⟨⟨e1 ++ ([⟨o, 0, l, v⟩] ++ e2), ?_⟩, fun hh => absurd hh c10, fun _ a ha => ?_⟩
                · rw [he2]
                  show s1.nd ++ _ ++ _ = _
                  rw [he1]
                  simp only [List.append_assoc]
                  rfl
                · exact g4 (by omega) a (Bl.bin ha ⟨e1, he1⟩ (g3 (by omega)) o hr.1 hr.2)
theorem Pr.nb {ts : List (Int × Int)} (hts : TsOK ts) {f : Nat} {s : PS} {x : Int} {s1 : PS} (h : pf ts f 7 0 s = some (some (x, s1))) : (∃ e, s1.nd = s.nd ++ e) ∧ Bl s1.nd s.nd.length x := by
  have := pf_nb ts hts f 7 0 s _ h (by omega) x s1 rfl
  exact ⟨this.1, this.2.1 (by omega)⟩
end Go.Proofs.Ybyaaw
