/- Plain: a wrapped query against the plain one. No Go here. -/
import Derived.Test.YbyaawDepPa
import Derived.Test.YbyaawDepP5
namespace Go.Proofs.Ybyaaw
open Go.RowKit
set_option linter.unusedVariables false

theorem It.det {ts : List (Int × Int)} {s : PS} {r r' : Option ((Int × Int) × PS)} (h : It ts s r) (h' : It ts s r') : r = r' := by
  obtain ⟨f, h⟩ := h
  obtain ⟨g, h'⟩ := h'
  have a : itF ts (f + g) s = some r := up_of (g := fun f => itF ts f s) (fun f r => itF_mono) h (show f ≤ f + g by omega)
  have b : itF ts (f + g) s = some r' := up_of (g := fun f => itF ts f s) (fun f r => itF_mono) h' (show g ≤ f + g by omega)
  rw [a] at b
  injection b
theorem Q1.inv {ts acc : List (Int × Int)} {s s1 : PS} {it : Int × Int} {r : Option Qy} (h : Q1 ts acc s r) (hi : It ts s (some (it, s1))) (hk : pk ts s1.pos ≠ 17) : Q2 ts (acc ++ [it]) s1 r := by
  obtain ⟨f, h⟩ := h
  cases f with
  | zero => cases h
  | succ f =>
    rw [q1] at h
    cases hp : itF ts f s with
    | none => rw [hp] at h; cases h
    | some y =>
      rw [hp] at h
      have := It.det ⟨f, hp⟩ hi
      subst this
      simp only [bn] at h
      rw [if_neg hk] at h
      exact ⟨f, h⟩
theorem Q1.invN {ts acc : List (Int × Int)} {s : PS} {r : Option Qy} (h : Q1 ts acc s r) (hi : It ts s none) : r = none := by
  obtain ⟨f, h⟩ := h
  cases f with
  | zero => cases h
  | succ f =>
    rw [q1] at h
    cases hp : itF ts f s with
    | none => rw [hp] at h; cases h
    | some y =>
      rw [hp] at h
      have := It.det ⟨f, hp⟩ hi
      subst this
      simp only [bn] at h
      cases h
      rfl
theorem Q0.inv {ts : List (Int × Int)} {r : Option Qy} (h : Q0 ts r) (h1 : pk ts 0 = 1) : Q1 ts [] ⟨1, [], 0⟩ r := by
  obtain ⟨f, h⟩ := h
  unfold q0 at h
  rw [if_pos h1] at h
  exact ⟨f, h⟩
/-- The rest of two queries that stand on the same tokens: refused both, or both accepted. -/
theorem rest_same (a b tm : List (Int × Int)) (its its' : List (Int × Int)) (s s' : PS) (k k' : Nat) (hs : Sh a.length k s ⟨0, [], 0⟩) (hs' : Sh b.length k' s' ⟨0, [], 0⟩) (r r' : Option Qy) (h : Q2 (a ++ tm) its s r) (h' : Q2 (b ++ tm) its' s' r') :
    (r = none ∧ r' = none) ∨ ∃ q q' m, r = some q ∧ r' = some q' ∧ q.nd.length = m + k ∧ q'.nd.length = m + k' := by
  obtain ⟨f, h⟩ := h
  obtain ⟨g, h'⟩ := h'
  have hA : q2 (a ++ tm) (f + g) its s = some r := up_of (g := fun f => q2 (a ++ tm) f its s) (fun f r => q2_mono) h (show f ≤ f + g by omega)
  have hB : q2 (b ++ tm) (f + g) its' s' = some r' := up_of (g := fun f => q2 (b ++ tm) f its' s') (fun f r => q2_mono) h' (show g ≤ f + g by omega)
  have sA := q2_sim a tm k (f + g) its [] s ⟨0, [], 0⟩ hs
  have sB := q2_sim b tm k' (f + g) its' [] s' ⟨0, [], 0⟩ hs'
  rw [hA] at sA
  rw [hB] at sB
  rcases sA with ⟨e, _⟩ | ⟨e, e2⟩ | ⟨q, q0', e, e2, hl⟩
  · cases e
  · rcases sB with ⟨e', _⟩ | ⟨e', _⟩ | ⟨q', q1', e', e2', _⟩
    · cases e'
    · injection e with e; injection e' with e'; exact .inl ⟨e, e'⟩
    · rw [e2] at e2'; cases e2'
  · rcases sB with ⟨e', _⟩ | ⟨e', e2'⟩ | ⟨q', q1', e', e2', hl'⟩
    · cases e'
    · rw [e2] at e2'; cases e2'
    · rw [e2] at e2'
      cases e2'
      injection e with e
      injection e' with e'
      exact .inr ⟨q, q', q0'.nd.length, e, e', hl, hl'⟩
def Good (tm : List (Int × Int)) : Prop := pk tm 0 = 0 ∨ pk tm 0 = 2 ∨ pk tm 0 = 3 ∨ pk tm 0 = 5 ∨ pk tm 0 = 13 ∨ pk tm 0 = 14 ∨ pk tm 0 = 16
theorem good_stop (a tm : List (Int × Int)) (h : Good tm) : StopA (a ++ tm) a.length ∧ pk (a ++ tm) a.length ≠ 17 := by
  have e := pk_shift a tm 0
  rw [Nat.add_zero] at e
  unfold StopA Stop
  rw [e]
  rcases h with h | h | h | h | h | h | h <;> rw [h] <;> decide
theorem not_last (a : List (Int × Int)) (k n : Int) (q : Qy) (h : Q0 (a ++ [(k, n)]) (some q)) : k = 13 ∨ k = 14 ∨ k = 16 := by
  obtain ⟨j, hj, hk⟩ := h.last
  have e : j = a.length + 0 := by simp at hj; omega
  rw [e, pk_shift] at hk
  exact hk
theorem tm_good {tm : List (Int × Int)} (h : TmOK tm) : Good tm ∨ ∃ k n, tm = [(k, n)] ∧ ¬ (k = 13 ∨ k = 14 ∨ k = 16) := by
  rcases h with rfl | ⟨k, n, r, rfl, hk⟩ | ⟨k, n, rfl⟩
  · exact .inl (.inl rfl)
  · refine .inl ?_
    unfold Good
    have e : pk ((k, n) :: r) 0 = k := by simp [pk]
    rw [e]
    omega
  · by_cases hk : k = 13 ∨ k = 14 ∨ k = 16
    · refine .inl ?_
      unfold Good
      have e : pk [(k, n)] 0 = k := by simp [pk]
      rw [e]
      omega
    · exact .inr ⟨k, n, rfl, hk⟩
/-- The law of the wrapped query, on the tokens. -/
theorem tok_law {t0 : Int × Int} {ps : Prs2} (h : FlatC t0 ps) (n : Nat) (tm : List (Int × Int)) (ht : TmOK tm) (rp rw : Option Qy) (hp : Q0 ([(1, 0)] ++ chainT t0 ps ++ tm) rp) (hw : Q0 ([(1, 0)] ++ wlist n (chainT t0 ps) ++ tm) rw) :
    (rw = none ∧ (rp = none ∨ 4096 < n)) ∨ ∃ qp qw x N, rp = some qp ∧ rw = some qw ∧ n ≤ 4096 ∧ 0 ≤ x ∧ x + 1 = ((N : List Nd).length : Int) ∧ qp.its = [(0, x)] ∧ qw.its = [(0, x + (((n + 1) / 3 + n / 3 : Nat) : Int))] ∧
      qw.nd.length = qp.nd.length + ((n + 1) / 3 + n / 3) ∧ (∃ e, qp.nd = N ++ e) ∧ ∃ e, qw.nd = N ++ e := by
  rcases tm_good ht with hg | ⟨k, m, rfl, hk⟩
  · obtain ⟨x, N, ⟨hx0, hx⟩, hP⟩ := chain_parse h
    obtain ⟨sP, nP⟩ := good_stop ([(1, 0)] ++ chainT t0 ps) tm hg
    obtain ⟨sW, nW⟩ := good_stop ([(1, 0)] ++ wlist n (chainT t0 ps)) tm hg
    have stP : Stands ([(1, 0)] ++ chainT t0 ps ++ tm) 1 (chainT t0 ps) := Stands.of [(1, 0)] (chainT t0 ps) tm
    have stW : Stands ([(1, 0)] ++ wlist n (chainT t0 ps) ++ tm) 1 (wlist n (chainT t0 ps)) := Stands.of [(1, 0)] (wlist n (chainT t0 ps)) tm
    have lP : ([(1, 0)] ++ chainT t0 ps).length = 1 + (chainT t0 ps).length := by simp; omega
    have lW : ([(1, 0)] ++ wlist n (chainT t0 ps)).length = 1 + (wlist n (chainT t0 ps)).length := by simp; omega
    rw [lP] at sP nP
    rw [lW] at sW nW
    have e2 : chainT t0 ps = t0 :: flat2 ps := rfl
    have kP : pk ([(1, 0)] ++ chainT t0 ps ++ tm) 1 = t0.1 := by
      have := stP
      rw [e2] at this
      exact this.cons.1
    have h0P : pk ([(1, 0)] ++ chainT t0 ps ++ tm) 0 = 1 := by simp [pk]
    have h0W : pk ([(1, 0)] ++ wlist n (chainT t0 ps) ++ tm) 0 = 1 := by simp [pk]
    have prP := lift57 (lift35 (hP _ 1 0 stP sP.1) (by show pk _ 1 ≠ 8; rw [kP]; rcases h.1.2 with h | h <;> rw [h] <;> decide) sP) sP
    have itP := It.plS (s := ⟨1, [], 0⟩) (by show ¬ (9 ≤ pk _ 1 ∧ pk _ 1 ≤ 12); rw [kP]; rcases h.1.2 with h | h <;> rw [h] <;> decide) prP
    have q2P := (hp.inv h0P).inv itP nP
    have kW : ¬ (9 ≤ pk ([(1, 0)] ++ wlist n (chainT t0 ps) ++ tm) 1 ∧ pk ([(1, 0)] ++ wlist n (chainT t0 ps) ++ tm) 1 ≤ 12) := by
      cases n with
      | zero =>
        have ew : wlist 0 (chainT t0 ps) = t0 :: flat2 ps := by simp [wlist, wtok, rps, e2]
        rw [ew] at stW ⊢
        rw [stW.cons.1]
        rcases h.1.2 with h | h <;> rw [h] <;> decide
      | succ n =>
        have ew : wlist (n + 1) (chainT t0 ps) = wk n :: (wtok n ++ chainT t0 ps ++ rps (n + 1)) := by simp [wlist, wtok]
        rw [ew] at stW ⊢
        rw [stW.cons.1]
        unfold wk
        split
        · decide
        · split <;> decide
    by_cases hn : n ≤ 4096
    · have prW := lift57 (wrap_parse h x N hP n _ 1 0 (by omega) stW sW).2.2 sW
      have itW := It.plS (s := ⟨1, [], 0⟩) kW prW
      have q2W := (hw.inv h0W).inv itW nW
      have hl := wr_len x N n
      have hi := wr_idx x N hx n
      have same := rest_same ([(1, 0)] ++ chainT t0 ps) ([(1, 0)] ++ wlist n (chainT t0 ps)) tm _ _ (⟨1 + (chainT t0 ps).length, N, 0⟩ : PS) (⟨1 + (wlist n (chainT t0 ps)).length, (wr x N n).2, 0⟩ : PS) N.length (wr x N n).2.length ⟨by show 1 + (chainT t0 ps).length = ([((1 : Int), (0 : Int))] ++ chainT t0 ps).length + 0; omega, by simp, rfl⟩ ⟨by show 1 + (wlist n (chainT t0 ps)).length = ([((1 : Int), (0 : Int))] ++ wlist n (chainT t0 ps)).length + 0; omega, by simp, rfl⟩ rp rw q2P q2W
      rcases same with ⟨e1, e2⟩ | ⟨qp, qw, mm, rfl, rfl, l1, l2⟩
      · exact .inl ⟨e2, .inl e1⟩
      · obtain ⟨f1, g1⟩ := q2P
        obtain ⟨f2, g2⟩ := q2W
        obtain ⟨i1, ⟨e1, n1⟩, _⟩ := q2_ends g1
        obtain ⟨i2, ⟨e2', n2⟩, _⟩ := q2_ends g2
        obtain ⟨e3, he3⟩ := wr_pre x N n
        refine .inr ⟨qp, qw, x, N, rfl, rfl, hn, hx0, hx, i1, ?_, by omega, ⟨e1, n1⟩, ⟨e3 ++ e2', ?_⟩⟩
        · rw [i2]
          show [((0 : Int), (wr x N n).1)] = _
          have : (wr x N n).1 = x + (((n + 1) / 3 + n / 3 : Nat) : Int) := by omega
          rw [this]
        · rw [n2]
          show (wr x N n).2 ++ e2' = _
          rw [he3, List.append_assoc]
    · have ew : [((1 : Int), (0 : Int))] ++ wlist n (chainT t0 ps) ++ tm = [(1, 0)] ++ (wtok n ++ (chainT t0 ps ++ rps n)) ++ tm := by simp [wlist]
      have stD : Stands ([(1, 0)] ++ wlist n (chainT t0 ps) ++ tm) 1 (wtok n ++ (chainT t0 ps ++ rps n)) := by rw [ew]; exact Stands.of [(1, 0)] _ tm
      have prD := down57 (wrap_deep (chainT t0 ps ++ rps n) n _ 1 0 (by omega) (by omega) stD).2.2
      have itD := It.plN (s := ⟨1, [], 0⟩) kW prD
      exact .inl ⟨(hw.inv h0W).invN itD, .inr (by omega)⟩
  · refine .inl ⟨?_, .inl ?_⟩
    · cases rw with
      | none => rfl
      | some q => exact absurd (not_last _ k m q hw) hk
    · cases rp with
      | none => rfl
      | some q => exact absurd (not_last _ k m q hp) hk
end Go.Proofs.Ybyaaw
