/- Plain: the last token of a query that is accepted; its nodes. No Go here. -/
import Derived.Test.YbyaawDepP9
namespace Go.Proofs.Ybyaaw
open Go.RowKit
set_option linter.unusedVariables false

/-- What the rest of a query leaves: the items, the nodes of before and more; it has read nothing, or ends with a column, a number or a ')'. -/
def EndQ (ts its : List (Int × Int)) (s : PS) (q : Qy) : Prop := q.its = its ∧ (∃ e, q.nd = s.nd ++ e) ∧ (s.pos = ts.length ∨ Fin3 ts ts.length)
theorem q5_ends {ts its : List (Int × Int)} {wh : Int} {gr : List Int} {li : Int} {s : PS} {q : Qy} (h : q5 ts its wh gr li s = some q) : q.its = its ∧ q.nd = s.nd ∧ s.pos = ts.length := by
  unfold q5 at h
  split at h
  · cases h; exact ⟨rfl, rfl, by assumption⟩
  · cases h
theorem q4_ends {ts its : List (Int × Int)} {wh : Int} {gr : List Int} {s : PS} {q : Qy} (h : q4 ts its wh gr s = some q) : EndQ ts its s q := by
  unfold q4 at h
  split at h
  · split at h
    · rename_i h1 h2
      obtain ⟨a, b, c⟩ := q5_ends h
      exact ⟨a, ⟨[], by rw [b, List.append_nil]; rfl⟩, .inr ⟨s.adv.pos, c.symm, .inr (.inl h2)⟩⟩
    · cases h
  · obtain ⟨a, b, c⟩ := q5_ends h
    exact ⟨a, ⟨[], by rw [b, List.append_nil]⟩, .inl c⟩
theorem g3_ends (ts its : List (Int × Int)) (wh : Int) : ∀ (f : Nat) (gr : List Int) (s : PS) (q : Qy), g3 ts its wh f gr s = some (some q) → q.its = its ∧ (∃ e, q.nd = s.nd ++ e) ∧ Fin3 ts ts.length := by
  intro f
  induction f with
  | zero => intro gr s q h; cases h
  | succ f ih =>
    intro gr s q h
    rw [g3] at h
    split at h
    · rename_i h1
      split at h
      · exact ih _ s.adv.adv q h
      · injection h with h
        obtain ⟨a, b, c⟩ := q4_ends h
        refine ⟨a, b, ?_⟩
        rcases c with c | c
        · exact ⟨s.pos, c.symm, .inl h1⟩
        · exact c
    · cases h
theorem q3_ends {ts its : List (Int × Int)} {f : Nat} {wh : Int} {s : PS} {q : Qy} (h : q3 ts f its wh s = some (some q)) : EndQ ts its s q := by
  unfold q3 at h
  split at h
  · split at h
    · obtain ⟨a, b, c⟩ := g3_ends ts its wh f _ _ q h
      exact ⟨a, b, .inr c⟩
    · cases h
  · injection h with h
    exact q4_ends h
theorem q2_ends {ts its : List (Int × Int)} {f : Nat} {s : PS} {q : Qy} (h : q2 ts f its s = some (some q)) : EndQ ts its s q := by
  unfold q2 at h
  split at h
  · cases hp : pf ts f 7 0 s.adv with
    | none => rw [hp] at h; cases h
    | some r =>
      cases r with
      | none => rw [hp] at h; cases h
      | some w =>
        obtain ⟨x, s1⟩ := w
        rw [hp] at h
        have he := Pr.ends ⟨f, hp⟩
        obtain ⟨a, ⟨e2, he2⟩, c⟩ := q3_ends (s := s1) h
        obtain ⟨⟨e1, he1⟩, hf⟩ := he
        refine ⟨a, ⟨e1 ++ e2, by rw [he2, he1, List.append_assoc]; rfl⟩, .inr ?_⟩
        rcases c with c | c
        · rw [← c]; exact hf
        · exact c
  · exact q3_ends h
theorem itF_ends {ts : List (Int × Int)} {f : Nat} {s : PS} {it : Int × Int} {s1 : PS} (h : itF ts f s = some (some (it, s1))) : Fin3 ts s1.pos := by
  unfold itF at h
  split at h
  · split at h
    · split at h
      · split at h
        · rename_i h4
          cases h
          exact ⟨s.adv.adv.adv.pos, rfl, .inr (.inr h4)⟩
        · cases h
      · cases hp : pf ts f 7 0 s.adv.adv with
        | none => rw [hp] at h; cases h
        | some r =>
          cases r with
          | none => rw [hp] at h; cases h
          | some w =>
            rw [hp] at h
            simp only [bn] at h
            split at h
            · rename_i h5
              cases h
              exact ⟨w.2.pos, rfl, .inr (.inr h5)⟩
            · cases h
    · cases h
  · cases hp : pf ts f 7 0 s with
    | none => rw [hp] at h; cases h
    | some r =>
      cases r with
      | none => rw [hp] at h; cases h
      | some w =>
        obtain ⟨x, s2⟩ := w
        rw [hp] at h
        cases h
        exact (Pr.ends ⟨f, hp⟩).2
theorem q1_ends (ts : List (Int × Int)) : ∀ (f : Nat) (acc : List (Int × Int)) (s : PS) (q : Qy), q1 ts f acc s = some (some q) → Fin3 ts ts.length := by
  intro f
  induction f with
  | zero => intro acc s q h; cases h
  | succ f ih =>
    intro acc s q h
    rw [q1] at h
    cases hp : itF ts f s with
    | none => rw [hp] at h; cases h
    | some r =>
      cases r with
      | none => rw [hp] at h; cases h
      | some w =>
        obtain ⟨it, s1⟩ := w
        rw [hp] at h
        simp only [bn] at h
        split at h
        · exact ih _ _ q h
        · obtain ⟨_, _, c⟩ := q2_ends h
          rcases c with c | c
          · rw [← c]; exact itF_ends hp
          · exact c
theorem Q0.last {ts : List (Int × Int)} {q : Qy} (h : Q0 ts (some q)) : Fin3 ts ts.length := by
  obtain ⟨f, h⟩ := h
  unfold q0 at h
  split at h
  · exact q1_ends ts f _ _ q h
  · cases h
end Go.Proofs.Ybyaaw
