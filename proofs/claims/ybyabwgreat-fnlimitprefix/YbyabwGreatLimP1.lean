/- A query with ' LIMIT n' behind it: the parse. No Go here. -/
import Derived.Test.YbyabwGreatParseQ
namespace Go.Proofs.YbyabwGreat
open Go.RowKit
set_option linter.unusedVariables false
set_option linter.unusedSimpArgs false

section
variable {ts X : List (Int × Int)} {Y : List (Int × Int)} {v : Int} {p : Nat}
theorem pkx_lt (h : p < ts.length) : pk (ts ++ X) p = pk ts p := by
  unfold pk
  rw [if_pos (by simp; omega), if_pos h, List.getD_eq_getElem?_getD, List.getElem?_append_left h, ← List.getD_eq_getElem?_getD]
theorem nu_lt (h : p < ts.length) : nu (ts ++ X) p = nu ts p := by
  unfold nu
  rw [List.getD_eq_getElem?_getD, List.getElem?_append_left h, ← List.getD_eq_getElem?_getD]
theorem pk_end : pk ts ts.length = 0 := by unfold pk; rw [if_neg (by omega)]
theorem pk_lim : pk (ts ++ (5, v) :: Y) ts.length = 5 := by
  unfold pk
  rw [if_pos (by simp), List.getD_eq_getElem?_getD, List.getElem?_append_right (Nat.le_refl _), Nat.sub_self]
  rfl
/-- A test that neither the end nor LIMIT passes. -/
theorem pk_test {k : Int} (hp : p ≤ ts.length) (h0 : k ≠ 0) (h5 : k ≠ 5) : (pk (ts ++ (5, v) :: Y) p = k) ↔ (pk ts p = k) := by
  rcases Nat.lt_or_ge p ts.length with h | h
  · rw [pkx_lt h]
  · obtain rfl : p = ts.length := by omega
    rw [pk_lim, pk_end]
    constructor <;> intro e <;> omega
theorem pk_pos {k : Int} (h0 : k ≠ 0) (h : pk ts p = k) : p < ts.length := by
  unfold pk at h
  split at h
  · assumption
  · omega
theorem pk_rng {a b : Int} (hp : p ≤ ts.length) (h : 5 < a) : (a ≤ pk (ts ++ (5, v) :: Y) p ∧ pk (ts ++ (5, v) :: Y) p ≤ b) ↔ (a ≤ pk ts p ∧ pk ts p ≤ b) := by
  rcases Nat.lt_or_ge p ts.length with h1 | h1
  · rw [pkx_lt h1]
  · obtain rfl : p = ts.length := by omega
    rw [pk_lim, pk_end]
    constructor <;> intro e <;> omega
theorem pk_rpos {a b : Int} (h : 0 < a) (h1 : a ≤ pk ts p) : p < ts.length := by
  unfold pk at h1
  split at h1
  · assumption
  · omega
theorem op_same (c : Nat) (hp : p ≤ ts.length) : opOf c (pk (ts ++ (5, v) :: Y) p) = opOf c (pk ts p) := by
  rcases Nat.lt_or_ge p ts.length with h1 | h1
  · rw [pkx_lt h1]
  · obtain rfl : p = ts.length := by omega
    rw [pk_lim, pk_end]
    unfold opOf
    split
    · rfl
    · split
      · rfl
      · split <;> rfl
theorem op_pos {c : Nat} {o : Int} (h : opOf c (pk ts p) = some o) : p < ts.length := by
  rcases Nat.lt_or_ge p ts.length with h1 | h1
  · exact h1
  · have : pk ts p = 0 := by unfold pk; rw [if_neg (by omega)]
    rw [this] at h
    unfold opOf at h
    split at h
    · cases h
    · split at h
      · cases h
      · split at h <;> cases h
/-- What a parse leaves stays within the tokens. -/
def PosOK (ts : List (Int × Int)) (r : Option (Option (Int × PS))) : Prop := ∀ x s, r = some (some (x, s)) → s.pos ≤ ts.length
theorem bnd_ext {x x' : Option (Option (Int × PS))} {k k' : Int → PS → Option (Option (Int × PS))} (hx : x' = x) (hP : PosOK ts x) (hk : ∀ v s, s.pos ≤ ts.length → k' v s = k v s ∧ PosOK ts (k v s)) : bnd x' k' = bnd x k ∧ PosOK ts (bnd x k) := by
  subst hx
  cases x' with
  | none => exact ⟨rfl, fun x s h => by cases h⟩
  | some y =>
    cases y with
    | none => exact ⟨rfl, fun x s h => by cases h⟩
    | some q => exact hk q.1 q.2 (hP q.1 q.2 rfl)
theorem posOK_none : PosOK ts (some none) := fun x s h => by cases h
theorem posOK_some {x : Int} {s : PS} (h : s.pos ≤ ts.length) : PosOK ts (some (some (x, s))) := fun y t e => by cases e; exact h
theorem unKindx (lv : Nat) : unKind lv ≠ 0 ∧ unKind lv ≠ 5 := by unfold unKind; split <;> decide
theorem pf_ext (v : Int) (Y : List (Int × Int)) : ∀ (f lv : Nat) (l : Int) (s : PS), s.pos ≤ ts.length → pf (ts ++ (5, v) :: Y) f lv l s = pf ts f lv l s ∧ PosOK ts (pf ts f lv l s) := by
  intro f
  induction f with
  | zero => intro lv l s h; exact ⟨rfl, fun x s h => by cases h⟩
  | succ f ih =>
    intro lv l s hs
    rw [pf, pf]
    by_cases c0 : lv = 0
    · rw [if_pos c0, if_pos c0]
      by_cases d1 : pk ts s.pos = 14
      · have hl := pk_pos (by decide) d1
        rw [if_pos d1, if_pos ((pk_test hs (by decide) (by decide)).2 d1), nu_lt hl]
        exact ⟨rfl, posOK_some (by simp only [PS.push, PS.adv]; omega)⟩
      · rw [if_neg d1, if_neg (fun h => d1 ((pk_test hs (by decide) (by decide)).1 h))]
        by_cases d2 : pk ts s.pos = 13
        · have hl := pk_pos (by decide) d2
          rw [if_pos d2, if_pos ((pk_test hs (by decide) (by decide)).2 d2), nu_lt hl]
          exact ⟨rfl, posOK_some (by simp only [PS.push, PS.adv]; omega)⟩
        · rw [if_neg d2, if_neg (fun h => d2 ((pk_test hs (by decide) (by decide)).1 h))]
          by_cases d3 : pk ts s.pos = 15
          · have hl := pk_pos (by decide) d3
            rw [if_pos d3, if_pos ((pk_test hs (by decide) (by decide)).2 d3)]
            by_cases d4 : 4096 ≤ s.dep
            · rw [if_pos d4, if_pos d4]; exact ⟨rfl, posOK_none⟩
            · rw [if_neg d4, if_neg d4]
              obtain ⟨e, hP⟩ := ih 7 0 s.adv.deep (by simp only [PS.adv, PS.deep]; omega)
              refine bnd_ext e hP (fun x s1 h1 => ?_)
              by_cases d5 : pk ts s1.pos = 16
              · have hl1 := pk_pos (by decide) d5
                rw [if_pos d5, if_pos ((pk_test h1 (by decide) (by decide)).2 d5)]
                exact ⟨rfl, posOK_some (by simp only [PS.up, PS.adv]; omega)⟩
              · rw [if_neg d5, if_neg (fun h => d5 ((pk_test h1 (by decide) (by decide)).1 h))]
                exact ⟨rfl, posOK_none⟩
          · rw [if_neg d3, if_neg (fun h => d3 ((pk_test hs (by decide) (by decide)).1 h))]
            exact ⟨rfl, posOK_none⟩
    · rw [if_neg c0, if_neg c0]
      by_cases c1 : lv = 1 ∨ lv = 5
      · rw [if_pos c1, if_pos c1]
        by_cases d1 : pk ts s.pos = unKind lv
        · have hl := pk_pos (unKindx lv).1 d1
          rw [if_pos d1, if_pos ((pk_test hs (unKindx lv).1 (unKindx lv).2).2 d1)]
          by_cases d4 : 4096 ≤ s.dep
          · rw [if_pos d4, if_pos d4]; exact ⟨rfl, posOK_none⟩
          · rw [if_neg d4, if_neg d4]
            obtain ⟨e, hP⟩ := ih lv 0 s.adv.deep (by simp only [PS.adv, PS.deep]; omega)
            exact bnd_ext e hP (fun x s1 h1 => ⟨rfl, posOK_some (by simp only [PS.push, PS.up]; omega)⟩)
        · rw [if_neg d1, if_neg (fun h => d1 ((pk_test hs (unKindx lv).1 (unKindx lv).2).1 h))]
          exact ih (lv - 1) 0 s hs
      · rw [if_neg c1, if_neg c1]
        by_cases c4 : lv = 4
        · rw [if_pos c4, if_pos c4]
          obtain ⟨e, hP⟩ := ih 3 0 s hs
          refine bnd_ext e hP (fun x s1 h1 => ?_)
          by_cases d1 : 21 ≤ pk ts s1.pos ∧ pk ts s1.pos ≤ 26
          · have hl := pk_rpos (b := 26) (by decide) d1.1
            rw [if_pos d1, if_pos ((pk_rng h1 (by decide)).2 d1)]
            obtain ⟨e2, hP2⟩ := ih 3 0 s1.adv (by simp only [PS.adv]; omega)
            refine bnd_ext e2 hP2 (fun y s2 h2 => ⟨by rw [pkx_lt hl], posOK_some (by simp only [PS.push]; omega)⟩)
          · rw [if_neg d1, if_neg (fun h => d1 ((pk_rng h1 (by decide)).1 h))]
            exact ⟨rfl, posOK_some h1⟩
        · rw [if_neg c4, if_neg c4]
          by_cases c10 : lv < 10
          · rw [if_pos c10, if_pos c10]
            obtain ⟨e, hP⟩ := ih (lv - 1) 0 s hs
            exact bnd_ext e hP (fun x s1 h1 => ih (lv + 10) x s1 h1)
          · rw [if_neg c10, if_neg c10, op_same (lv - 10) hs]
            cases ho : opOf (lv - 10) (pk ts s.pos) with
            | none => exact ⟨rfl, posOK_some hs⟩
            | some o =>
              have hl := op_pos ho
              obtain ⟨e, hP⟩ := ih (lv - 11) 0 s.adv (by simp only [PS.adv]; omega)
              refine bnd_ext e hP (fun x s1 h1 => ?_)
              exact ih lv _ _ (by simp only [PS.push]; exact h1)
/-- What becomes of a query's parse. -/
def limH (Y : List (Int × Int)) (q : Qy) : Option Qy := if Y = [(14, nu Y 0)] then some ⟨q.its, q.nd, q.wh, q.gr, nu Y 0⟩ else none
theorem q4_ext (hno : ∀ p, pk ts p ≠ 5) (hY : Y = [] ∨ (∃ n, Y = [(14, n)]) ∨ ∃ a r, Y = (5, a) :: r) (its : List (Int × Int)) (wh : Int) (gr : List Int) (s : PS) (hs : s.pos ≤ ts.length) : q4 (ts ++ (5, v) :: Y) its wh gr s = (q4 ts its wh gr s).bind (limH Y) := by
  unfold q4
  rw [if_neg (hno s.pos)]
  unfold q5
  rcases Nat.lt_or_ge s.pos ts.length with h | h
  · rw [pkx_lt h, if_neg (hno s.pos), if_neg (by rw [List.length_append, List.length_cons]; omega), if_neg (by omega)]
    rfl
  · have he : s.pos = ts.length := by omega
    rw [he, pk_lim, if_pos rfl, if_pos rfl]
    simp only [PS.adv, he, Option.bind_some]
    have h1 : pk (ts ++ (5, v) :: Y) (ts.length + 1) = pk Y 0 := by
      unfold pk
      rw [List.getD_eq_getElem?_getD, List.getElem?_append_right (by omega), Nat.add_sub_cancel_left, List.getElem?_cons_succ, ← List.getD_eq_getElem?_getD]
      by_cases hy : 0 < Y.length
      · rw [if_pos (by rw [List.length_append, List.length_cons]; omega), if_pos hy]
      · rw [if_neg (by rw [List.length_append, List.length_cons]; omega), if_neg hy]
    have h2 : nu (ts ++ (5, v) :: Y) (ts.length + 1) = nu Y 0 := by
      unfold nu
      rw [List.getD_eq_getElem?_getD, List.getElem?_append_right (by omega), Nat.add_sub_cancel_left, List.getElem?_cons_succ, ← List.getD_eq_getElem?_getD]
    rw [h1, h2]
    unfold limH
    rcases hY with rfl | ⟨n, rfl⟩ | ⟨a, r, rfl⟩
    · simp [pk, nu]
    · simp [pk, nu]
    · simp [pk, nu]
def mapH (Y : List (Int × Int)) (r : Option (Option Qy)) : Option (Option Qy) := r.map (fun o => o.bind (limH Y))
theorem bn_ext {α : Type} {x x' : Option (Option α)} {k k' : α → Option (Option Qy)} (hx : x' = x) (hk : ∀ a, x = some (some a) → k' a = mapH Y (k a)) : bn x' k' = mapH Y (bn x k) := by
  subst hx
  cases x' with
  | none => rfl
  | some y =>
    cases y with
    | none => rfl
    | some a => exact hk a rfl
theorem g3_ext (hno : ∀ p, pk ts p ≠ 5) (hY : Y = [] ∨ (∃ n, Y = [(14, n)]) ∨ ∃ a r, Y = (5, a) :: r) (its : List (Int × Int)) (wh : Int) : ∀ (f : Nat) (acc : List Int) (s : PS), s.pos ≤ ts.length → g3 (ts ++ (5, v) :: Y) its wh f acc s = mapH Y (g3 ts its wh f acc s) := by
  intro f
  induction f with
  | zero => intro acc s h; rfl
  | succ f ih =>
    intro acc s hs
    rw [g3, g3]
    by_cases c : pk ts s.pos = 13
    · have hl := pk_pos (by decide) c
      have ha : s.adv.pos ≤ ts.length := by simp only [PS.adv]; omega
      rw [if_pos c, if_pos ((pk_test hs (by decide) (by decide)).2 c), nu_lt hl]
      by_cases d : pk ts s.adv.pos = 17
      · have hl2 := pk_pos (by decide) d
        rw [if_pos d, if_pos ((pk_test ha (by decide) (by decide)).2 d)]
        exact ih _ _ (by simp only [PS.adv] at hl2 ⊢; omega)
      · rw [if_neg d, if_neg (fun h => d ((pk_test ha (by decide) (by decide)).1 h)), q4_ext hno hY _ _ _ _ ha]
        rfl
    · rw [if_neg c, if_neg (fun h => c ((pk_test hs (by decide) (by decide)).1 h))]
      rfl
theorem q3_ext (hno : ∀ p, pk ts p ≠ 5) (hY : Y = [] ∨ (∃ n, Y = [(14, n)]) ∨ ∃ a r, Y = (5, a) :: r) (f : Nat) (its : List (Int × Int)) (wh : Int) (s : PS) (hs : s.pos ≤ ts.length) : q3 (ts ++ (5, v) :: Y) f its wh s = mapH Y (q3 ts f its wh s) := by
  unfold q3
  by_cases c : pk ts s.pos = 3
  · have hl := pk_pos (by decide) c
    have ha : s.adv.pos ≤ ts.length := by simp only [PS.adv]; omega
    rw [if_pos c, if_pos ((pk_test hs (by decide) (by decide)).2 c)]
    by_cases d : pk ts s.adv.pos = 4
    · have hl2 := pk_pos (by decide) d
      rw [if_pos d, if_pos ((pk_test ha (by decide) (by decide)).2 d)]
      exact g3_ext hno hY _ _ _ _ _ (by simp only [PS.adv] at hl2 ⊢; omega)
    · rw [if_neg d, if_neg (fun h => d ((pk_test ha (by decide) (by decide)).1 h))]
      rfl
  · rw [if_neg c, if_neg (fun h => c ((pk_test hs (by decide) (by decide)).1 h)), q4_ext hno hY _ _ _ _ hs]
    rfl
theorem q2_ext (hno : ∀ p, pk ts p ≠ 5) (hY : Y = [] ∨ (∃ n, Y = [(14, n)]) ∨ ∃ a r, Y = (5, a) :: r) (f : Nat) (its : List (Int × Int)) (s : PS) (hs : s.pos ≤ ts.length) : q2 (ts ++ (5, v) :: Y) f its s = mapH Y (q2 ts f its s) := by
  unfold q2
  by_cases c : pk ts s.pos = 2
  · have hl := pk_pos (by decide) c
    rw [if_pos c, if_pos ((pk_test hs (by decide) (by decide)).2 c)]
    obtain ⟨e, hP⟩ := pf_ext (ts := ts) v Y f 7 0 s.adv (by simp only [PS.adv]; omega)
    exact bn_ext e (fun a ha => q3_ext hno hY _ _ _ _ (hP a.1 a.2 ha))
  · rw [if_neg c, if_neg (fun h => c ((pk_test hs (by decide) (by decide)).1 h))]
    exact q3_ext hno hY _ _ _ _ hs
theorem itF_ext (f : Nat) (s : PS) (hs : s.pos ≤ ts.length) : itF (ts ++ (5, v) :: Y) f s = itF ts f s ∧ ∀ a, itF ts f s = some (some a) → a.2.pos ≤ ts.length := by
  unfold itF
  by_cases c : 9 ≤ pk ts s.pos ∧ pk ts s.pos ≤ 12
  · have hl := pk_rpos (b := 12) (by decide) c.1
    have ha : s.adv.pos ≤ ts.length := by simp only [PS.adv]; omega
    rw [if_pos c, if_pos ((pk_rng hs (by decide)).2 c), pkx_lt hl]
    by_cases d : pk ts s.adv.pos = 15
    · have hl2 := pk_pos (by decide) d
      have ha2 : s.adv.adv.pos ≤ ts.length := by simp only [PS.adv] at hl2 ⊢; omega
      rw [if_pos d, if_pos ((pk_test ha (by decide) (by decide)).2 d)]
      by_cases e : pk ts s.pos = 12 ∧ pk ts s.adv.adv.pos = 18
      · have hl3 := pk_pos (by decide) e.2
        have ha3 : s.adv.adv.adv.pos ≤ ts.length := by simp only [PS.adv] at hl3 ⊢; omega
        rw [if_pos e, if_pos ⟨e.1, (pk_test ha2 (by decide) (by decide)).2 e.2⟩]
        by_cases g : pk ts s.adv.adv.adv.pos = 16
        · have hl4 := pk_pos (by decide) g
          rw [if_pos g, if_pos ((pk_test ha3 (by decide) (by decide)).2 g)]
          refine ⟨rfl, fun a h => ?_⟩
          cases h
          simp only [PS.adv] at hl4 ⊢
          omega
        · rw [if_neg g, if_neg (fun h => g ((pk_test ha3 (by decide) (by decide)).1 h))]
          exact ⟨rfl, fun a h => by cases h⟩
      · rw [if_neg e, if_neg (fun h => e ⟨h.1, (pk_test ha2 (by decide) (by decide)).1 h.2⟩)]
        obtain ⟨e1, hP⟩ := pf_ext (ts := ts) v Y f 7 0 s.adv.adv ha2
        rw [e1]
        cases hr : pf ts f 7 0 s.adv.adv with
        | none => exact ⟨rfl, fun a h => by cases h⟩
        | some y =>
          cases y with
          | none => exact ⟨rfl, fun a h => by cases h⟩
          | some q =>
            have hq := hP q.1 q.2 hr
            simp only [bn]
            by_cases g : pk ts q.2.pos = 16
            · have hl4 := pk_pos (by decide) g
              rw [if_pos g, if_pos ((pk_test hq (by decide) (by decide)).2 g)]
              refine ⟨rfl, fun a h => ?_⟩
              cases h
              simp only [PS.adv]
              omega
            · rw [if_neg g, if_neg (fun h => g ((pk_test hq (by decide) (by decide)).1 h))]
              exact ⟨rfl, fun a h => by cases h⟩
    · rw [if_neg d, if_neg (fun h => d ((pk_test ha (by decide) (by decide)).1 h))]
      exact ⟨rfl, fun a h => by cases h⟩
  · rw [if_neg c, if_neg (fun h => c ((pk_rng hs (by decide)).1 h))]
    obtain ⟨e1, hP⟩ := pf_ext (ts := ts) v Y f 7 0 s hs
    rw [e1]
    cases hr : pf ts f 7 0 s with
    | none => exact ⟨rfl, fun a h => by cases h⟩
    | some y =>
      cases y with
      | none => exact ⟨rfl, fun a h => by cases h⟩
      | some q =>
        refine ⟨rfl, fun a h => ?_⟩
        cases h
        exact hP q.1 q.2 hr
theorem q1_ext (hno : ∀ p, pk ts p ≠ 5) (hY : Y = [] ∨ (∃ n, Y = [(14, n)]) ∨ ∃ a r, Y = (5, a) :: r) : ∀ (f : Nat) (acc : List (Int × Int)) (s : PS), s.pos ≤ ts.length → q1 (ts ++ (5, v) :: Y) f acc s = mapH Y (q1 ts f acc s) := by
  intro f
  induction f with
  | zero => intro acc s h; rfl
  | succ f ih =>
    intro acc s hs
    rw [q1, q1]
    obtain ⟨e, hP⟩ := itF_ext (ts := ts) (Y := Y) (v := v) f s hs
    refine bn_ext e (fun a ha => ?_)
    have hp := hP a ha
    by_cases c : pk ts a.2.pos = 17
    · have hl := pk_pos (by decide) c
      rw [if_pos c, if_pos ((pk_test hp (by decide) (by decide)).2 c)]
      exact ih _ _ (by simp only [PS.adv]; omega)
    · rw [if_neg c, if_neg (fun h => c ((pk_test hp (by decide) (by decide)).1 h))]
      exact q2_ext hno hY _ _ _ hp
/-- LIMIT behind a query that has none. -/
theorem Q0.ext {r : Option Qy} (hno : ∀ p, pk ts p ≠ 5) (hY : Y = [] ∨ (∃ n, Y = [(14, n)]) ∨ ∃ a r, Y = (5, a) :: r) (h : Q0 ts r) : Q0 (ts ++ (5, v) :: Y) (r.bind (limH Y)) := by
  obtain ⟨f, h⟩ := h
  refine ⟨f, ?_⟩
  unfold q0 at h ⊢
  by_cases c : pk ts 0 = 1
  · have hl := pk_pos (by decide) c
    rw [if_pos c] at h
    rw [if_pos ((pk_test (Nat.zero_le _) (by decide) (by decide)).2 c), q1_ext hno hY f _ _ (by simp only; omega), h]
    rfl
  · rw [if_neg c] at h
    cases h
    rw [if_neg (fun hh => c ((pk_test (Nat.zero_le _) (by decide) (by decide)).1 hh))]
    rfl
end
end Go.Proofs.YbyabwGreat
