/- Plain: what a parsed query holds. No Go here. -/
import Derived.Test.YbyaawPrnP4
namespace Go.Proofs.Ybyaaw
open Go.RowKit
set_option linter.unusedVariables false

/-- The items' expressions stand one behind the other, from a on up to b. -/
def ItsB (nd : List Nd) : Nat → List (Int × Int) → Nat → Prop
  | a, [], b => a = b
  | a, it :: r, b => (it = (5, -1) ∧ ItsB nd a r b) ∨ (∃ x : Nat, 0 ≤ it.1 ∧ it.1 ≤ 4 ∧ it.2 = (x : Int) ∧ NB nd (x + 1) a x ∧ ItsB nd (x + 1) r b)
section
variable {nd : List Nd}
theorem ItsB.app (e : List Nd) : ∀ (its : List (Int × Int)) (a b : Nat), ItsB nd a its b → ItsB (nd ++ e) a its b := by
  intro its
  induction its with
  | nil => intro a b h; exact h
  | cons it r ih =>
    intro a b h
    rcases h with ⟨h1, h2⟩ | ⟨x, h1, h2, h3, h4, h5⟩
    · exact .inl ⟨h1, ih _ _ h2⟩
    · exact .inr ⟨x, h1, h2, h3, h4.app e, ih _ _ h5⟩
theorem ItsB.snoc5 : ∀ (its : List (Int × Int)) (a b : Nat), ItsB nd a its b → ItsB nd a (its ++ [(5, -1)]) b := by
  intro its
  induction its with
  | nil => intro a b h; exact .inl ⟨rfl, h⟩
  | cons it r ih =>
    intro a b h
    rcases h with ⟨h1, h2⟩ | ⟨x, h1, h2, h3, h4, h5⟩
    · exact .inl ⟨h1, ih _ _ h2⟩
    · exact .inr ⟨x, h1, h2, h3, h4, ih _ _ h5⟩
theorem ItsB.snocX {g : Int} {x : Nat} (h0 : 0 ≤ g) (h4 : g ≤ 4) : ∀ (its : List (Int × Int)) (a b : Nat), ItsB nd a its b → NB nd (x + 1) b x → ItsB nd a (its ++ [(g, (x : Int))]) (x + 1) := by
  intro its
  induction its with
  | nil => intro a b h hn; cases h; exact .inr ⟨x, h0, h4, rfl, hn, rfl⟩
  | cons it r ih =>
    intro a b h hn
    rcases h with ⟨h1, h2⟩ | ⟨y, h1, h2, h3, h5, h6⟩
    · exact .inl ⟨h1, ih _ _ h2 hn⟩
    · exact .inr ⟨y, h1, h2, h3, h5, ih _ _ h6 hn⟩
end
def LiOK (li : Int) : Prop := li = -1 ∨ (0 ≤ li ∧ li ≤ 9223372036854775807)
def GrOK (gr : List Int) : Prop := ∀ g ∈ gr, 0 ≤ g ∧ g ≤ 65535
def WhOK (nd : List Nd) (its : List (Int × Int)) (wh : Int) : Prop := ∃ b, ItsB nd 0 its b ∧ ((wh = -1 ∧ b = nd.length) ∨ ∃ x : Nat, wh = (x : Int) ∧ x + 1 = nd.length ∧ NB nd (x + 1) b x)
structure QOK (q : Qy) : Prop where
  ne : q.its ≠ []
  wh : WhOK q.nd q.its q.wh
  gr : GrOK q.gr
  li : LiOK q.li
section
variable {ts its : List (Int × Int)} {wh li : Int} {gr : List Int} {s : PS} {q : Qy}
theorem q5_ok (h : q5 ts its wh gr li s = some q) : q = ⟨its, s.nd, wh, gr, li⟩ := by
  unfold q5 at h
  split at h
  · cases h; rfl
  · cases h
def Like (q : Qy) (its : List (Int × Int)) (nd : List Nd) (wh : Int) : Prop := q.its = its ∧ q.nd = nd ∧ q.wh = wh ∧ GrOK q.gr ∧ LiOK q.li
theorem q4_ok (hts : TsOK ts) (hg : GrOK gr) (h : q4 ts its wh gr s = some q) : Like q its s.nd wh := by
  unfold q4 at h
  split at h
  · split at h
    · rename_i h14
      have := q5_ok h
      subst this
      exact ⟨rfl, rfl, rfl, hg, .inr ((hts _).2 h14)⟩
    · cases h
  · have := q5_ok h
    subst this
    exact ⟨rfl, rfl, rfl, hg, .inl rfl⟩
theorem GrOK.snoc {g : Int} (h : GrOK gr) (h0 : 0 ≤ g ∧ g ≤ 65535) : GrOK (gr ++ [g]) := fun x hx => by
  rcases List.mem_append.1 hx with hx | hx
  · exact h x hx
  · rw [List.mem_singleton] at hx; subst hx; exact h0
theorem g3_ok (hts : TsOK ts) : ∀ (f : Nat) (gr : List Int) (s : PS), GrOK gr → g3 ts its wh f gr s = some (some q) → Like q its s.nd wh := by
  intro f
  induction f with
  | zero => intro gr s hg h; cases h
  | succ f ih =>
    intro gr s hg h
    rw [g3] at h
    by_cases c : pk ts s.pos = 13
    · rw [if_pos c] at h
      have hg' := hg.snoc ((hts _).1 c)
      by_cases d : pk ts s.adv.pos = 17
      · rw [if_pos d] at h
        have := ih _ s.adv.adv hg' h
        exact this
      · rw [if_neg d] at h
        injection h with h
        have := q4_ok (s := s.adv) hts hg' h
        exact this
    · rw [if_neg c] at h; cases h
theorem GrOK.nil : GrOK [] := fun x hx => by cases hx
theorem q3_ok (hts : TsOK ts) {f : Nat} (h : q3 ts f its wh s = some (some q)) : Like q its s.nd wh := by
  unfold q3 at h
  split at h
  · split at h
    · have := g3_ok hts f [] s.adv.adv GrOK.nil h
      exact this
    · cases h
  · injection h with h
    exact q4_ok hts GrOK.nil h
theorem bn_some {α β : Type} {x : Option (Option α)} {k : α → Option (Option β)} {b : β} (h : bn x k = some (some b)) : ∃ a, x = some (some a) ∧ k a = some (some b) := by
  cases x with
  | none => cases h
  | some y =>
    cases y with
    | none => cases h
    | some a => exact ⟨a, rfl, h⟩
theorem q2_ok (hts : TsOK ts) {f : Nat} (hi : ItsB s.nd 0 its s.nd.length) (hne : its ≠ []) (h : q2 ts f its s = some (some q)) : QOK q := by
  unfold q2 at h
  split at h
  · obtain ⟨⟨x, s1⟩, h1, h2⟩ := bn_some h
    obtain ⟨e1, e2, e3, e4, e5⟩ := q3_ok hts h2
    obtain ⟨⟨e, he⟩, y, hy, hz, hb⟩ := Pr.nb hts h1
    have he' : s1.nd = s.nd ++ e := he
    refine ⟨by rw [e1]; exact hne, ⟨s.nd.length, ?_, .inr ⟨y, by rw [e3]; exact hy, by rw [e2]; exact hz, by rw [e2]; exact hb⟩⟩, e4, e5⟩
    rw [e1, e2, show (x, s1).2.nd = s1.nd from rfl, he']
    exact ItsB.app e _ _ _ hi
  · obtain ⟨e1, e2, e3, e4, e5⟩ := q3_ok hts h
    exact ⟨by rw [e1]; exact hne, ⟨s.nd.length, by rw [e1, e2]; exact hi, .inl ⟨e3, by rw [e2]⟩⟩, e4, e5⟩
theorem it_ok (hts : TsOK ts) {f : Nat} {it : Int × Int} {s1 : PS} (acc : List (Int × Int)) (hi : ItsB s.nd 0 acc s.nd.length) (h : itF ts f s = some (some (it, s1))) : ItsB s1.nd 0 (acc ++ [it]) s1.nd.length := by
  unfold itF at h
  split at h
  · rename_i h9
    split at h
    · split at h
      · split at h
        · cases h
          exact ItsB.snoc5 _ _ _ hi
        · cases h
      · obtain ⟨⟨x, s2⟩, h1, h2⟩ := bn_some h
        obtain ⟨⟨e, he⟩, y, hy, hz, hb⟩ := Pr.nb hts h1
        have he' : s2.nd = s.nd ++ e := he
        have hb' : NB s2.nd (y + 1) s.nd.length y := hb
        simp only at h2
        split at h2
        · cases h2
          show ItsB s2.nd 0 (acc ++ [(_, x)]) s2.nd.length
          rw [hy, ← hz]
          refine ItsB.snocX (by omega) (by omega) _ _ s.nd.length ?_ hb'
          rw [he']
          exact ItsB.app e _ _ _ hi
        · cases h2
    · cases h
  · obtain ⟨⟨x, s2⟩, h1, h2⟩ := bn_some h
    obtain ⟨⟨e, he⟩, y, hy, hz, hb⟩ := Pr.nb hts h1
    cases h2
    show ItsB s2.nd 0 (acc ++ [(_, x)]) s2.nd.length
    rw [hy, ← hz]
    refine ItsB.snocX (by omega) (by omega) _ _ s.nd.length ?_ hb
    rw [he]
    exact ItsB.app e _ _ _ hi
theorem q1_ok (hts : TsOK ts) : ∀ (f : Nat) (acc : List (Int × Int)) (s : PS), ItsB s.nd 0 acc s.nd.length → q1 ts f acc s = some (some q) → QOK q := by
  intro f
  induction f with
  | zero => intro acc s hi h; cases h
  | succ f ih =>
    intro acc s hi h
    rw [q1] at h
    obtain ⟨⟨it, s1⟩, h1, h2⟩ := bn_some h
    have hi' := it_ok hts acc hi h1
    simp only at h2
    split at h2
    · exact ih _ s1.adv hi' h2
    · exact q2_ok hts hi' (by simp) h2
theorem Q0.ok (hts : TsOK ts) (h : Q0 ts (some q)) : QOK q := by
  obtain ⟨f, h⟩ := h
  unfold q0 at h
  split at h
  · exact q1_ok hts f [] ⟨1, [], 0⟩ rfl h
  · cases h
end
end Go.Proofs.Ybyaaw
