/- Plain: the parse of a flat chain. No Go here. -/
import Derived.Test.YbyaawParseQ
import Derived.Test.YbyaawDep1
namespace Go.Proofs.Ybyaaw
open Go.RowKit
set_option linter.unusedVariables false

/-- The tokens l stand in ts from p on. -/
def Stands (ts : List (Int × Int)) (p : Nat) (l : List (Int × Int)) : Prop := ∀ i, i < l.length → pk ts (p + i) = (l.getD i (0, 0)).1 ∧ nu ts (p + i) = (l.getD i (0, 0)).2
theorem Stands.cons {ts : List (Int × Int)} {p : Nat} {x : Int × Int} {l : List (Int × Int)} (h : Stands ts p (x :: l)) : pk ts p = x.1 ∧ nu ts p = x.2 ∧ Stands ts (p + 1) l := by
  have h0 := h 0 (by simp)
  simp only [Nat.add_zero, List.getD_cons_zero] at h0
  refine ⟨h0.1, h0.2, fun i hi => ?_⟩
  have := h (i + 1) (by simp; omega)
  rw [List.getD_cons_succ] at this
  rwa [show p + 1 + i = p + (i + 1) by omega]
theorem Stands.of (a l b : List (Int × Int)) : Stands (a ++ l ++ b) a.length l := fun i hi => by
  have h1 : (a ++ l ++ b).getD (a.length + i) (0, 0) = l.getD i (0, 0) := by
    rw [List.getD_eq_getElem?_getD, List.getElem?_append_left (by simp; omega), List.getElem?_append_right (by omega)]
    simp
  unfold pk nu
  rw [if_pos (by simp; omega), h1]
  exact ⟨rfl, rfl⟩
abbrev Prs2 := List ((Int × Int) × (Int × Int))
def flat2 (ps : Prs2) : List (Int × Int) := ps.flatMap fun p => [p.1, p.2]
def Ops (ps : Prs2) : Prop := ∀ p ∈ ps, IsOp3 p.1 ∧ IsLeaf p.2
theorem flat2_cons (p : (Int × Int) × (Int × Int)) (ps : Prs2) : flat2 (p :: ps) = p.1 :: p.2 :: flat2 ps := by simp [flat2]
theorem flat2_len (ps : Prs2) : (flat2 ps).length = 2 * ps.length := by
  induction ps with
  | nil => rfl
  | cons p ps ih => rw [flat2_cons]; simp only [List.length_cons, ih]; omega
def Stop (ts : List (Int × Int)) (q : Nat) : Prop := pk ts q ≠ 18 ∧ pk ts q ≠ 19 ∧ pk ts q ≠ 20
def leafNd (t : Int × Int) : Nd := if t.1 = 14 then ⟨1, t.2, -1, -1⟩ else ⟨2, t.2, -1, -1⟩
theorem leaf_un {ts : List (Int × Int)} {t : Int × Int} (ht : IsLeaf t) (s : PS) (h1 : pk ts s.pos = t.1) (h2 : nu ts s.pos = t.2) : Pr ts 1 0 s (some ((s.nd.length : Int), s.adv.push (leafNd t))) := by
  refine Pr.prE (u := 1) (by omega) ?_ ?_
  · rw [h1]
    rcases ht.2 with h | h <;> rw [h] <;> decide
  · rcases ht.2 with h | h
    · have := Pr.pmC (ts := ts) (s := s) (by rw [h1, h])
      rw [h2] at this
      have e : leafNd t = ⟨2, t.2, -1, -1⟩ := by unfold leafNd; rw [if_neg (by omega)]
      rw [e]
      exact this
    · have := Pr.pmV (ts := ts) (s := s) (by rw [h1, h])
      rw [h2] at this
      have e : leafNd t = ⟨1, t.2, -1, -1⟩ := by unfold leafNd; rw [if_pos h]
      rw [e]
      exact this
theorem op2_none {k : Int} (h : k ≠ 18) : opOf 2 k = none := by simp [opOf, h]
theorem op3_none {k : Int} (h1 : k ≠ 19) (h2 : k ≠ 20) : opOf 3 k = none := by simp [opOf, h1, h2]
theorem isCh2 : isCh 2 := .inl rfl
theorem isCh3 : isCh 3 := .inr (.inl rfl)
theorem mul_loop (ps : Prs2) : Ops ps → ∀ (x0 : Int) (nd0 : List Nd), ∃ (x : Int) (N : List Nd) (j : Nat), (0 ≤ x0 ∧ x0 + 1 = (nd0.length : Int) → 0 ≤ x ∧ x + 1 = (N.length : Int)) ∧ j ≤ ps.length ∧ (∀ q r, ps.drop j = q :: r → q.1.1 ≠ 18) ∧
    ∀ ts p d, Stands ts p (flat2 ps) → Stop ts (p + 2 * ps.length) → Pr ts 12 x0 ⟨p, nd0, d⟩ (some (x, ⟨p + 2 * j, N, d⟩)) := by
  induction ps with
  | nil =>
    intro _ x0 nd0
    refine ⟨x0, nd0, 0, id, Nat.le_refl _, fun q r h => (by cases h), fun ts p d _ hs => ?_⟩
    exact Pr.lpE isCh2 (op2_none hs.1)
  | cons q ps ih =>
    intro hps x0 nd0
    by_cases h18 : q.1.1 = 18
    · obtain ⟨x, N, j, hx, hj, hd, hP⟩ := ih (fun p hp => hps p (by simp [hp])) ((nd0 ++ [leafNd q.2]).length : Nat) (nd0 ++ [leafNd q.2] ++ [⟨6, 0, x0, (nd0.length : Int)⟩])
      refine ⟨x, N, j + 1, fun _ => hx (by refine ⟨by omega, ?_⟩; simp only [List.length_append, List.length_singleton]; omega), by simp; omega, hd, fun ts p d hst hs => ?_⟩
      rw [flat2_cons] at hst
      obtain ⟨a1, a2, hst1⟩ := hst.cons
      obtain ⟨b1, b2, hst2⟩ := hst1.cons
      have hl := leaf_un (ts := ts) (hps q (by simp)).2 ⟨p + 1, nd0, d⟩ b1 b2
      have hrec := hP ts (p + 2) d hst2 (by rw [show p + 2 + 2 * ps.length = p + 2 * (q :: ps).length by simp; omega]; exact hs)
      rw [show p + 2 + 2 * j = p + 2 * (j + 1) by omega] at hrec
      exact Pr.lpS isCh2 (o := 6) (by show opOf 2 (pk ts p) = some 6; rw [a1, h18]; rfl) hl hrec
    · refine ⟨x0, nd0, 0, id, Nat.zero_le _, fun q' r h => (by simp at h; rw [← h.1]; exact h18), fun ts p d hst hs => ?_⟩
      rw [flat2_cons] at hst
      exact Pr.lpE isCh2 (op2_none (by show pk ts p ≠ 18; rw [hst.cons.1]; exact h18))
theorem Stands.drop {ts : List (Int × Int)} {p : Nat} {ps : Prs2} (h : Stands ts p (flat2 ps)) (j : Nat) (hj : j ≤ ps.length) : Stands ts (p + 2 * j) (flat2 (ps.drop j)) := by
  induction j generalizing p ps with
  | zero => exact h
  | succ j ih =>
    cases ps with
    | nil => simp at hj
    | cons q ps =>
      rw [flat2_cons] at h
      have := ih (p := p + 1 + 1) (ps := ps) h.cons.2.2.cons.2.2 (by simp at hj; omega)
      rw [show p + 1 + 1 + 2 * j = p + 2 * (j + 1) by omega] at this
      exact this
theorem add_loop : ∀ (n : Nat) (ps : Prs2), ps.length ≤ n → Ops ps → (∀ q r, ps = q :: r → q.1.1 ≠ 18) → ∀ (x0 : Int) (nd0 : List Nd), ∃ (x : Int) (N : List Nd), (0 ≤ x0 ∧ x0 + 1 = (nd0.length : Int) → 0 ≤ x ∧ x + 1 = (N.length : Int)) ∧
    ∀ ts p d, Stands ts p (flat2 ps) → Stop ts (p + 2 * ps.length) → Pr ts 13 x0 ⟨p, nd0, d⟩ (some (x, ⟨p + 2 * ps.length, N, d⟩)) := by
  intro n
  induction n with
  | zero =>
    intro ps hn _ _ x0 nd0
    have : ps = [] := List.eq_nil_of_length_eq_zero (by omega)
    subst this
    exact ⟨x0, nd0, id, fun ts p d _ hs => Pr.lpE isCh3 (op3_none hs.2.1 hs.2.2)⟩
  | succ n ih =>
    intro ps hn hps hh x0 nd0
    cases ps with
    | nil => exact ⟨x0, nd0, id, fun ts p d _ hs => Pr.lpE isCh3 (op3_none hs.2.1 hs.2.2)⟩
    | cons q ps =>
      have hq := hps q (by simp)
      have h18 := hh q ps rfl
      obtain ⟨o, ho, hk⟩ : ∃ o, opOf 3 q.1.1 = some o ∧ True := by
        rcases hq.1 with h | h | h
        · exact ⟨4, by rw [h]; rfl, trivial⟩
        · exact ⟨5, by rw [h]; rfl, trivial⟩
        · rw [h] at h18; exact absurd rfl h18
      obtain ⟨y, N1, j, hy, hj, hd, hP⟩ := mul_loop ps (fun p hp => hps p (by simp [hp])) (nd0.length : Int) (nd0 ++ [leafNd q.2])
      obtain ⟨x, N, hx, hA⟩ := ih (ps.drop j) (by simp at hn ⊢; omega) (fun p hp => hps p (by simp [List.mem_of_mem_drop hp])) hd (N1.length : Int) (N1 ++ [⟨o, 0, x0, y⟩])
      refine ⟨x, N, fun _ => hx (by refine ⟨by omega, ?_⟩; simp only [List.length_append, List.length_singleton]; omega), fun ts p d hst hs => ?_⟩
      rw [flat2_cons] at hst
      obtain ⟨a1, a2, hst1⟩ := hst.cons
      obtain ⟨b1, b2, hst2⟩ := hst1.cons
      have hl := leaf_un (ts := ts) hq.2 ⟨p + 1, nd0, d⟩ b1 b2
      have hs2 : Stop ts (p + 1 + 1 + 2 * ps.length) := by rw [show p + 1 + 1 + 2 * ps.length = p + 2 * (q :: ps).length by simp; omega]; exact hs
      have hm := hP ts (p + 1 + 1) d hst2 hs2
      have hmul : Pr ts 2 0 ⟨p + 1, nd0, d⟩ (some (y, ⟨p + 1 + 1 + 2 * j, N1, d⟩)) := Pr.chS isCh2 hl hm
      have hrest := hA ts (p + 1 + 1 + 2 * j) d (hst2.drop j hj) (by
        rw [List.length_drop, show p + 1 + 1 + 2 * j + 2 * (ps.length - j) = p + 1 + 1 + 2 * ps.length by omega]; exact hs2)
      rw [List.length_drop, show p + 1 + 1 + 2 * j + 2 * (ps.length - j) = p + 2 * (q :: ps).length by simp; omega] at hrest
      exact Pr.lpS isCh3 (o := o) (by show opOf 3 (pk ts p) = some o; rw [a1]; exact ho) hmul hrest
/-- A flat chain is parsed, at the level of '+', to an index and nodes of its own, wherever it stands and at whatever depth. -/
theorem chain_parse {t0 : Int × Int} {ps : Prs2} (h : FlatC t0 ps) : ∃ (x : Int) (N : List Nd), (0 ≤ x ∧ x + 1 = (N.length : Int)) ∧ ∀ ts p d, Stands ts p (chainT t0 ps) → Stop ts (p + (chainT t0 ps).length) → Pr ts 3 0 ⟨p, [], d⟩ (some (x, ⟨p + (chainT t0 ps).length, N, d⟩)) := by
  obtain ⟨y, N1, j, hy, hj, hd, hP⟩ := mul_loop ps h.2 (0 : Int) ([] ++ [leafNd t0])
  obtain ⟨x, N, hx, hA⟩ := add_loop _ (ps.drop j) (Nat.le_refl _) (fun p hp => h.2 p (List.mem_of_mem_drop hp)) hd y N1
  refine ⟨x, N, hx (hy (by simp)), fun ts p d hst hs => ?_⟩
  have e : chainT t0 ps = t0 :: flat2 ps := rfl
  have el : (chainT t0 ps).length = 1 + 2 * ps.length := by rw [e, List.length_cons, flat2_len]; omega
  rw [e] at hst
  obtain ⟨b1, b2, hst2⟩ := hst.cons
  have hl := leaf_un (ts := ts) h.1 ⟨p, [], d⟩ b1 b2
  rw [el] at hs ⊢
  have hs2 : Stop ts (p + 1 + 2 * ps.length) := by rw [show p + 1 + 2 * ps.length = p + (1 + 2 * ps.length) by omega]; exact hs
  have hm := hP ts (p + 1) d hst2 hs2
  have hmul : Pr ts 2 0 ⟨p, [], d⟩ (some (y, ⟨p + 1 + 2 * j, N1, d⟩)) := Pr.chS isCh2 hl hm
  have hrest := hA ts (p + 1 + 2 * j) d (hst2.drop j hj) (by
    rw [List.length_drop, show p + 1 + 2 * j + 2 * (ps.length - j) = p + 1 + 2 * ps.length by omega]; exact hs2)
  rw [List.length_drop, show p + 1 + 2 * j + 2 * (ps.length - j) = p + (1 + 2 * ps.length) by omega] at hrest
  exact Pr.chS isCh3 hmul hrest
end Go.Proofs.Ybyaaw
