/- Plain: the parse of a wrapped chain. No Go here. -/
import Derived.Test.YbyaawDepP6
import Derived.Test.YbyaawDepP3
namespace Go.Proofs.Ybyaaw
open Go.RowKit
set_option linter.unusedVariables false

/-- A token at which every level stops. -/
def StopA (ts : List (Int × Int)) (q : Nat) : Prop := Stop ts q ∧ pk ts q ≠ 6 ∧ pk ts q ≠ 7 ∧ ¬ (21 ≤ pk ts q ∧ pk ts q ≤ 26)
section
variable {ts : List (Int × Int)} {s s1 : PS} {x : Int}
theorem isCh6 : isCh 6 := .inr (.inr (.inl rfl))
theorem isCh7 : isCh 7 := .inr (.inr (.inr rfl))
theorem lift01 (h : Pr ts 0 0 s (some (x, s1))) (hk : pk ts s.pos ≠ 20) : Pr ts 1 0 s (some (x, s1)) := Pr.prE (u := 1) (by omega) hk h
theorem lift13 (h : Pr ts 1 0 s (some (x, s1))) (hs : StopA ts s1.pos) : Pr ts 3 0 s (some (x, s1)) :=
  Pr.chS isCh3 (Pr.chS isCh2 h (Pr.lpE isCh2 (op2_none hs.1.1))) (Pr.lpE isCh3 (op3_none hs.1.2.1 hs.1.2.2))
theorem lift35 (h : Pr ts 3 0 s (some (x, s1))) (hk : pk ts s.pos ≠ 8) (hs : StopA ts s1.pos) : Pr ts 5 0 s (some (x, s1)) := Pr.prE (u := 5) (by omega) hk (Pr.cmE h hs.2.2.2)
theorem lift57 (h : Pr ts 5 0 s (some (x, s1))) (hs : StopA ts s1.pos) : Pr ts 7 0 s (some (x, s1)) :=
  Pr.chS isCh7 (Pr.chS isCh6 h (Pr.lpE isCh6 (by simp [opOf, hs.2.1]))) (Pr.lpE isCh7 (by simp [opOf, hs.2.2.1]))
theorem down01 (h : Pr ts 0 0 s none) (hk : pk ts s.pos ≠ 20) : Pr ts 1 0 s none := Pr.prE (u := 1) (by omega) hk h
theorem down15 (h : Pr ts 1 0 s none) (hk : pk ts s.pos ≠ 8) : Pr ts 5 0 s none := Pr.prE (u := 5) (by omega) hk (Pr.cmN (Pr.chN isCh3 (Pr.chN isCh2 h)))
theorem down57 (h : Pr ts 5 0 s none) : Pr ts 7 0 s none := Pr.chN isCh7 (Pr.chN isCh6 h)
end
/-- The index and the nodes of the chain in i wrappers. -/
def wr (x : Int) (N : List Nd) : Nat → Int × List Nd
  | 0 => (x, N)
  | i + 1 => if i % 3 = 0 then wr x N i else (((wr x N i).2.length : Int), (wr x N i).2 ++ [⟨if i % 3 = 1 then 3 else 15, 0, (wr x N i).1, -1⟩])
def rps (i : Nat) : List (Int × Int) := List.replicate ((i + 2) / 3) (16, 0)
theorem rps_0 (i : Nat) (h : i % 3 = 0) : rps (i + 1) = rps i ++ [(16, 0)] := by
  unfold rps
  rw [show (i + 1 + 2) / 3 = (i + 2) / 3 + 1 by omega, List.replicate_succ']
theorem rps_n (i : Nat) (h : i % 3 ≠ 0) : rps (i + 1) = rps i := by
  unfold rps
  rw [show (i + 1 + 2) / 3 = (i + 2) / 3 by omega]
def wlist (i : Nat) (ch : List (Int × Int)) : List (Int × Int) := wtok i ++ ch ++ rps i
theorem wlist_0 (i : Nat) (ch : List (Int × Int)) (h : i % 3 = 0) : wlist (i + 1) ch = (15, 0) :: (wlist i ch ++ [(16, 0)]) := by
  unfold wlist; rw [rps_0 i h]; simp [wtok, wk, h]
theorem wlist_1 (i : Nat) (ch : List (Int × Int)) (h : i % 3 = 1) : wlist (i + 1) ch = (20, 0) :: wlist i ch := by
  unfold wlist; rw [rps_n i (by omega)]; simp [wtok, wk, h]
theorem wlist_2 (i : Nat) (ch : List (Int × Int)) (h : i % 3 = 2) : wlist (i + 1) ch = (8, 0) :: wlist i ch := by
  unfold wlist; rw [rps_n i (by omega)]; simp [wtok, wk, h]
theorem Stands.left {ts : List (Int × Int)} {p : Nat} {a b : List (Int × Int)} (h : Stands ts p (a ++ b)) : Stands ts p a := fun i hi => by
  have := h i (by simp; omega)
  rwa [List.getD_eq_getElem?_getD, List.getElem?_append_left hi, ← List.getD_eq_getElem?_getD] at this
theorem Stands.right {ts : List (Int × Int)} {p : Nat} {a b : List (Int × Int)} (h : Stands ts p (a ++ b)) : Stands ts (p + a.length) b := fun i hi => by
  have := h (a.length + i) (by simp; omega)
  rw [List.getD_eq_getElem?_getD, List.getElem?_append_right (by omega), ← List.getD_eq_getElem?_getD, show a.length + i - a.length = i by omega] at this
  rwa [show p + a.length + i = p + (a.length + i) by omega]
theorem wrap_parse {t0 : Int × Int} {ps : Prs2} (h : FlatC t0 ps) (x : Int) (N : List Nd) (hP : ∀ ts p d, Stands ts p (chainT t0 ps) → Stop ts (p + (chainT t0 ps).length) → Pr ts 3 0 ⟨p, [], d⟩ (some (x, ⟨p + (chainT t0 ps).length, N, d⟩))) :
    ∀ i ts p d, d + i ≤ 4096 → Stands ts p (wlist i (chainT t0 ps)) → StopA ts (p + (wlist i (chainT t0 ps)).length) →
      (i % 3 = 1 → Pr ts 0 0 ⟨p, [], d⟩ (some ((wr x N i).1, ⟨p + (wlist i (chainT t0 ps)).length, (wr x N i).2, d⟩))) ∧
      (i % 3 ≠ 0 → Pr ts 1 0 ⟨p, [], d⟩ (some ((wr x N i).1, ⟨p + (wlist i (chainT t0 ps)).length, (wr x N i).2, d⟩))) ∧
      Pr ts 5 0 ⟨p, [], d⟩ (some ((wr x N i).1, ⟨p + (wlist i (chainT t0 ps)).length, (wr x N i).2, d⟩)) := by
  intro i
  induction i with
  | zero =>
    intro ts p d hd hst hs
    have e : wlist 0 (chainT t0 ps) = chainT t0 ps := by simp [wlist, wtok, rps]
    rw [e] at hst hs ⊢
    refine ⟨fun h => by simp at h, fun h => absurd rfl h, ?_⟩
    refine lift35 (hP ts p d hst hs.1) ?_ hs
    have hc : pk ts p = t0.1 := by
      have e2 : chainT t0 ps = t0 :: flat2 ps := rfl
      rw [e2] at hst
      exact hst.cons.1
    show pk ts p ≠ 8
    rw [hc]
    rcases h.1.2 with h | h <;> rw [h] <;> decide
  | succ i ih =>
    intro ts p d hd hst hs
    have hm : i % 3 = 0 ∨ i % 3 = 1 ∨ i % 3 = 2 := by omega
    rcases hm with hi | hi | hi
    · have e := wlist_0 i (chainT t0 ps) hi
      rw [e] at hst hs ⊢
      obtain ⟨a1, _, hst1⟩ := hst.cons
      have hin := hst1.left
      have hrp := (hst1.right).cons.1
      have hstop : StopA ts (p + 1 + (wlist i (chainT t0 ps)).length) := by
        unfold StopA Stop
        rw [hrp]
        decide
      have h7 := lift57 (ih ts (p + 1) (d + 1) (by omega) hin hstop).2.2 hstop
      have h0 : Pr ts 0 0 ⟨p, [], d⟩ (some ((wr x N i).1, ⟨p + ((15, 0) :: (wlist i (chainT t0 ps) ++ [(16, 0)])).length, (wr x N i).2, d⟩)) := by
        have := Pr.pmS (s := ⟨p, [], d⟩) a1 (by show d < 4096; omega) h7 hrp
        have el : p + ((15, 0) :: (wlist i (chainT t0 ps) ++ [((16 : Int), (0 : Int))])).length = p + 1 + (wlist i (chainT t0 ps)).length + 1 := by simp; omega
        rw [el]
        exact this
      have ew : wr x N (i + 1) = wr x N i := by simp [wr, hi]
      rw [ew]
      have hk : pk ts p ≠ 20 := by rw [a1]; decide
      have h1 := lift01 h0 hk
      exact ⟨fun _ => h0, fun _ => h1, lift35 (lift13 h1 hs) (by show pk ts p ≠ 8; rw [a1]; decide) hs⟩
    · have e := wlist_1 i (chainT t0 ps) hi
      rw [e] at hst hs ⊢
      obtain ⟨a1, _, hst1⟩ := hst.cons
      have el : p + ((20, 0) :: wlist i (chainT t0 ps)).length = p + 1 + (wlist i (chainT t0 ps)).length := by simp; omega
      rw [el] at hs ⊢
      have hin := (ih ts (p + 1) (d + 1) (by omega) hst1 hs).2.1 (by omega)
      have h1 := Pr.prS (u := 1) (s := ⟨p, [], d⟩) (by omega) a1 (by show d < 4096; omega) hin
      have ew : wr x N (i + 1) = (((wr x N i).2.length : Int), (wr x N i).2 ++ [⟨3, 0, (wr x N i).1, -1⟩]) := by simp [wr, hi]
      rw [ew]
      exact ⟨fun h => by omega, fun _ => h1, lift35 (lift13 h1 hs) (by show pk ts p ≠ 8; rw [a1]; decide) hs⟩
    · have e := wlist_2 i (chainT t0 ps) hi
      rw [e] at hst hs ⊢
      obtain ⟨a1, _, hst1⟩ := hst.cons
      have el : p + ((8, 0) :: wlist i (chainT t0 ps)).length = p + 1 + (wlist i (chainT t0 ps)).length := by simp; omega
      rw [el] at hs ⊢
      have hin := (ih ts (p + 1) (d + 1) (by omega) hst1 hs).2.2
      have h1 := Pr.prS (u := 5) (s := ⟨p, [], d⟩) (by omega) a1 (by show d < 4096; omega) hin
      have ew : wr x N (i + 1) = (((wr x N i).2.length : Int), (wr x N i).2 ++ [⟨15, 0, (wr x N i).1, -1⟩]) := by simp [wr, hi]
      rw [ew]
      exact ⟨fun h => by omega, fun h => by omega, h1⟩
/-- Too deep. -/
theorem wrap_deep (rest : List (Int × Int)) : ∀ i ts p d, d ≤ 4096 → 4096 < d + i → Stands ts p (wtok i ++ rest) →
      (i % 3 = 1 → Pr ts 0 0 ⟨p, [], d⟩ none) ∧ (i % 3 ≠ 0 → Pr ts 1 0 ⟨p, [], d⟩ none) ∧ Pr ts 5 0 ⟨p, [], d⟩ none := by
  intro i
  induction i with
  | zero => intro ts p d h1 h2; omega
  | succ i ih =>
    intro ts p d hd hdi hst
    have hm : i % 3 = 0 ∨ i % 3 = 1 ∨ i % 3 = 2 := by omega
    rcases hm with hi | hi | hi
    · have e : wtok (i + 1) ++ rest = (15, 0) :: (wtok i ++ rest) := by simp [wtok, wk, hi]
      rw [e] at hst
      obtain ⟨a1, _, hst1⟩ := hst.cons
      have h0 : Pr ts 0 0 ⟨p, [], d⟩ none := by
        by_cases hd' : d < 4096
        · exact Pr.pmN (s := ⟨p, [], d⟩) a1 hd' (down57 (ih ts (p + 1) (d + 1) (by omega) (by omega) hst1).2.2)
        · exact Pr.pmD (s := ⟨p, [], d⟩) a1 (by show 4096 ≤ d; omega)
      have h1 := down01 h0 (by show pk ts p ≠ 20; rw [a1]; decide)
      exact ⟨fun _ => h0, fun _ => h1, down15 h1 (by show pk ts p ≠ 8; rw [a1]; decide)⟩
    · have e : wtok (i + 1) ++ rest = (20, 0) :: (wtok i ++ rest) := by simp [wtok, wk, hi]
      rw [e] at hst
      obtain ⟨a1, _, hst1⟩ := hst.cons
      have h1 : Pr ts 1 0 ⟨p, [], d⟩ none := by
        by_cases hd' : d < 4096
        · exact Pr.prN (u := 1) (s := ⟨p, [], d⟩) (by omega) a1 hd' ((ih ts (p + 1) (d + 1) (by omega) (by omega) hst1).2.1 (by omega))
        · exact Pr.prD (u := 1) (s := ⟨p, [], d⟩) (by omega) a1 (by show 4096 ≤ d; omega)
      exact ⟨fun h => by omega, fun _ => h1, down15 h1 (by show pk ts p ≠ 8; rw [a1]; decide)⟩
    · have e : wtok (i + 1) ++ rest = (8, 0) :: (wtok i ++ rest) := by simp [wtok, wk, hi]
      rw [e] at hst
      obtain ⟨a1, _, hst1⟩ := hst.cons
      have h1 : Pr ts 5 0 ⟨p, [], d⟩ none := by
        by_cases hd' : d < 4096
        · exact Pr.prN (u := 5) (s := ⟨p, [], d⟩) (by omega) a1 hd' (ih ts (p + 1) (d + 1) (by omega) (by omega) hst1).2.2
        · exact Pr.prD (u := 5) (s := ⟨p, [], d⟩) (by omega) a1 (by show 4096 ≤ d; omega)
      exact ⟨fun h => by omega, fun h => by omega, h1⟩
end Go.Proofs.Ybyaaw
