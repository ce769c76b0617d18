/- Plain: nodes are only added; the last token of a query that is accepted. No Go here. -/
import Derived.Test.YbyaawDepP7
import Derived.Test.YbyaawDepP8
namespace Go.Proofs.Ybyaaw
open Go.RowKit
set_option linter.unusedVariables false

theorem wr_len (x : Int) (N : List Nd) : ∀ i, (wr x N i).2.length = N.length + ((i + 1) / 3 + i / 3) := by
  intro i
  induction i with
  | zero => rfl
  | succ i ih =>
    simp only [wr]
    by_cases h : i % 3 = 0
    · rw [if_pos h, ih]; omega
    · rw [if_neg h]
      simp only [List.length_append, List.length_singleton, ih]
      omega
theorem wr_idx (x : Int) (N : List Nd) (hx : x + 1 = (N.length : Int)) : ∀ i, (wr x N i).1 + 1 = ((wr x N i).2.length : Int) := by
  intro i
  induction i with
  | zero => exact hx
  | succ i ih =>
    simp only [wr]
    by_cases h : i % 3 = 0
    · rw [if_pos h]; exact ih
    · rw [if_neg h]; simp
theorem wr_pre (x : Int) (N : List Nd) : ∀ i, ∃ e, (wr x N i).2 = N ++ e := by
  intro i
  induction i with
  | zero => exact ⟨[], (List.append_nil _).symm⟩
  | succ i ih =>
    obtain ⟨e, he⟩ := ih
    simp only [wr]
    by_cases h : i % 3 = 0
    · rw [if_pos h]; exact ⟨e, he⟩
    · rw [if_neg h]
      simp only
      exact ⟨e ++ [⟨if i % 3 = 1 then 3 else 15, 0, (wr x N i).1, -1⟩], by rw [← List.append_assoc, ← he]⟩

/-- What a successful parse leaves: the nodes of before and more; where it has read a token, the last one is a column, a number or a ')'. -/
def Fin3 (ts : List (Int × Int)) (q : Nat) : Prop := ∃ j, q = j + 1 ∧ (pk ts j = 13 ∨ pk ts j = 14 ∨ pk ts j = 16)
def Ends (ts : List (Int × Int)) (lv : Nat) (s : PS) (r : Option (Int × PS)) : Prop := ∀ x s1, r = some (x, s1) → (∃ e, s1.nd = s.nd ++ e) ∧ ((s1.pos = s.pos ∧ 10 ≤ lv) ∨ Fin3 ts s1.pos)
theorem Ends.none (ts : List (Int × Int)) (lv : Nat) (s : PS) : Ends ts lv s none := fun x s1 h => by cases h
theorem pf_ends (ts : List (Int × Int)) : ∀ (f lv : Nat) (l : Int) (s : PS) (r : Option (Int × PS)), pf ts f lv l s = some r → (lv < 8 ∨ (10 ≤ lv ∧ lv < 18)) → Ends ts lv s r := by
  intro f
  induction f with
  | zero => intro lv l s r h; cases h
  | succ f ih =>
    intro lv l s r h h18
    rw [pf] at h
    by_cases c0 : lv = 0
    · rw [if_pos c0] at h
      by_cases d1 : pk ts s.pos = 14
      · rw [if_pos d1] at h
        cases h
        intro x s1 e
        cases e
        exact ⟨⟨_, rfl⟩, .inr ⟨s.pos, rfl, .inr (.inl d1)⟩⟩
      · rw [if_neg d1] at h
        by_cases d2 : pk ts s.pos = 13
        · rw [if_pos d2] at h
          cases h
          intro x s1 e
          cases e
          exact ⟨⟨_, rfl⟩, .inr ⟨s.pos, rfl, .inl d2⟩⟩
        · rw [if_neg d2] at h
          by_cases d3 : pk ts s.pos = 15
          · rw [if_pos d3] at h
            by_cases d4 : 4096 ≤ s.dep
            · rw [if_pos d4] at h; cases h; exact Ends.none _ _ _
            · rw [if_neg d4] at h
              rcases bnd_some h with ⟨_, rfl⟩ | ⟨v, s1, h1, h2⟩
              · exact Ends.none _ _ _
              · have g1 := (ih _ _ _ _ h1 (by omega) v s1 rfl).1
                by_cases d5 : pk ts s1.pos = 16
                · rw [if_pos d5] at h2
                  cases h2
                  intro x s2 e
                  cases e
                  exact ⟨g1, .inr ⟨s1.pos, rfl, .inr (.inr d5)⟩⟩
                · rw [if_neg d5] at h2; cases h2; exact Ends.none _ _ _
          · rw [if_neg d3] at h; cases h; exact Ends.none _ _ _
    · rw [if_neg c0] at h
      by_cases c1 : lv = 1 ∨ lv = 5
      · rw [if_pos c1] at h
        by_cases d1 : pk ts s.pos = unKind lv
        · rw [if_pos d1] at h
          by_cases d4 : 4096 ≤ s.dep
          · rw [if_pos d4] at h; cases h; exact Ends.none _ _ _
          · rw [if_neg d4] at h
            rcases bnd_some h with ⟨_, rfl⟩ | ⟨v, s1, h1, h2⟩
            · exact Ends.none _ _ _
            · have g1 := ih _ _ _ _ h1 (by omega) v s1 rfl
              cases h2
              intro x s2 e
              cases e
              obtain ⟨⟨e1, he1⟩, g2⟩ := g1
              refine ⟨⟨e1 ++ [⟨unOp lv, 0, v, -1⟩], ?_⟩, ?_⟩
              · show s1.nd ++ _ = _
                rw [he1]
                simp [PS.adv, PS.deep]
              · rcases g2 with g2 | g2
                · omega
                · exact .inr g2
        · rw [if_neg d1] at h
          have g1 := ih _ _ _ _ h (by omega)
          intro x s1 e
          have := g1 x s1 e
          refine ⟨this.1, ?_⟩
          rcases this.2 with g2 | g2
          · omega
          · exact .inr g2
      · rw [if_neg c1] at h
        by_cases c4 : lv = 4
        · rw [if_pos c4] at h
          rcases bnd_some h with ⟨_, rfl⟩ | ⟨v, s1, h1, h2⟩
          · exact Ends.none _ _ _
          · obtain ⟨⟨e1, he1⟩, g1⟩ := ih _ _ _ _ h1 (by omega) v s1 rfl
            by_cases d1 : 21 ≤ pk ts s1.pos ∧ pk ts s1.pos ≤ 26
            · rw [if_pos d1] at h2
              rcases bnd_some h2 with ⟨_, rfl⟩ | ⟨v2, s2, h3, h4⟩
              · exact Ends.none _ _ _
              · obtain ⟨⟨e2, he2⟩, g2⟩ := ih _ _ _ _ h3 (by omega) v2 s2 rfl
                cases h4
                intro x s3 e
                cases e
                refine ⟨⟨e1 ++ e2 ++ [⟨pk ts s1.pos - 14, 0, v, v2⟩], ?_⟩, ?_⟩
                · show s2.nd ++ _ = _
                  rw [he2]
                  show s1.nd ++ e2 ++ _ = _
                  rw [he1]
                  simp
                · rcases g2 with g2 | g2
                  · omega
                  · exact .inr g2
            · rw [if_neg d1] at h2
              cases h2
              intro x s3 e
              cases e
              refine ⟨⟨e1, he1⟩, ?_⟩
              rcases g1 with g1 | g1
              · omega
              · exact .inr g1
        · rw [if_neg c4] at h
          by_cases c10 : lv < 10
          · rw [if_pos c10] at h
            rcases bnd_some h with ⟨_, rfl⟩ | ⟨v, s1, h1, h2⟩
            · exact Ends.none _ _ _
            · obtain ⟨⟨e1, he1⟩, g1⟩ := ih _ _ _ _ h1 (by omega) v s1 rfl
              intro x s2 e
              obtain ⟨⟨e2, he2⟩, g2⟩ := ih _ _ _ _ h2 (by omega) x s2 e
              refine ⟨⟨e1 ++ e2, by rw [he2, he1, List.append_assoc]⟩, ?_⟩
              rcases g2 with ⟨g2, _⟩ | g2
              · rw [g2]
                rcases g1 with g1 | g1
                · omega
                · exact .inr g1
              · exact .inr g2
          · rw [if_neg c10] at h
            split at h
            · cases h
              intro x s1 e
              cases e
              exact ⟨⟨[], (List.append_nil _).symm⟩, .inl ⟨rfl, by omega⟩⟩
            · rename_i o ho
              rcases bnd_some h with ⟨_, rfl⟩ | ⟨v, s1, h1, h2⟩
              · exact Ends.none _ _ _
              · obtain ⟨⟨e1, he1⟩, g1⟩ := ih _ _ _ _ h1 (by omega) v s1 rfl
                intro x s2 e
                obtain ⟨⟨e2, he2⟩, g2⟩ := ih _ _ _ _ h2 (by omega) x s2 e
                refine ⟨⟨e1 ++ [⟨o, 0, l, v⟩] ++ e2, ?_⟩, ?_⟩
                · rw [he2]
                  show s1.nd ++ _ ++ e2 = _
                  rw [he1]
                  simp [PS.adv]
                · rcases g2 with ⟨g2, _⟩ | g2
                  · rcases g1 with g1 | g1
                    · omega
                    · exact .inr (by rw [g2]; exact g1)
                  · exact .inr g2
theorem Pr.ends {ts : List (Int × Int)} {s : PS} {x : Int} {s1 : PS} (h : Pr ts 7 0 s (some (x, s1))) : (∃ e, s1.nd = s.nd ++ e) ∧ Fin3 ts s1.pos := by
  obtain ⟨f, h⟩ := h
  obtain ⟨h1, h2⟩ := pf_ends ts f 7 0 s _ h (by omega) x s1 rfl
  refine ⟨h1, ?_⟩
  rcases h2 with h2 | h2
  · omega
  · exact h2
end Go.Proofs.Ybyaaw
