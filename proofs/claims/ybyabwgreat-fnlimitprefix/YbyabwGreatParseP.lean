/- The parser as a plain function, with fuel; 'Pr': what a parse of each level answers. No Go here. -/
import Derived.Test.YbyabwGreatNodes0
namespace Go.Proofs.YbyabwGreat
open Go.RowKit
set_option linter.unusedVariables false

/-- The parser's state: how many tokens are read, the nodes, the depth. -/
structure PS where
  pos : Nat
  nd : List Nd
  dep : Nat
def PS.adv (s : PS) : PS := ⟨s.pos + 1, s.nd, s.dep⟩
def PS.deep (s : PS) : PS := ⟨s.pos, s.nd, s.dep + 1⟩
def PS.up (s : PS) : PS := ⟨s.pos, s.nd, s.dep - 1⟩
def PS.push (s : PS) (n : Nd) : PS := ⟨s.pos, s.nd ++ [n], s.dep⟩
def pk (ts : List (Int × Int)) (p : Nat) : Int := if p < ts.length then (ts.getD p (0, 0)).1 else 0
def nu (ts : List (Int × Int)) (p : Nat) : Int := (ts.getD p (0, 0)).2

/-- The levels: 0 primary, 1 unary, 2 mul, 3 add, 4 cmp, 5 not, 6 and, 7 expr; 12, 13, 16, 17: the loops of mul, add, and, expr, at a left side. -/
def opOf (c : Nat) (k : Int) : Option Int :=
  if c = 7 then (if k = 7 then some 14 else none) else if c = 6 then (if k = 6 then some 13 else none)
  else if c = 3 then (if k = 19 then some 4 else if k = 20 then some 5 else none) else (if k = 18 then some 6 else none)
def unKind (u : Nat) : Int := if u = 5 then 8 else 20
def unOp (u : Nat) : Int := if u = 5 then 15 else 3
def bnd (x : Option (Option (Int × PS))) (k : Int → PS → Option (Option (Int × PS))) : Option (Option (Int × PS)) :=
  match x with
  | none => none
  | some none => some none
  | some (some q) => k q.1 q.2
/-- What a parse at a level answers: none: the fuel is out; some none: refused; else an index and the state after it. -/
def pf (ts : List (Int × Int)) : Nat → Nat → Int → PS → Option (Option (Int × PS))
  | 0, _, _, _ => none
  | f + 1, lv, l, s =>
    if lv = 0 then
      (if pk ts s.pos = 14 then some (some ((s.nd.length : Int), s.adv.push ⟨1, nu ts s.pos, -1, -1⟩))
       else if pk ts s.pos = 13 then some (some ((s.nd.length : Int), s.adv.push ⟨2, nu ts s.pos, -1, -1⟩))
       else if pk ts s.pos = 15 then
         (if 4096 ≤ s.dep then some none
          else bnd (pf ts f 7 0 s.adv.deep) fun x s1 => if pk ts s1.pos = 16 then some (some (x, s1.adv.up)) else some none)
       else some none)
    else if lv = 1 ∨ lv = 5 then
      (if pk ts s.pos = unKind lv then
         (if 4096 ≤ s.dep then some none
          else bnd (pf ts f lv 0 s.adv.deep) fun x s1 => some (some ((s1.nd.length : Int), s1.up.push ⟨unOp lv, 0, x, -1⟩)))
       else pf ts f (lv - 1) 0 s)
    else if lv = 4 then
      bnd (pf ts f 3 0 s) fun l s1 =>
        if 21 ≤ pk ts s1.pos ∧ pk ts s1.pos ≤ 26 then
          bnd (pf ts f 3 0 s1.adv) fun r s2 => some (some ((s2.nd.length : Int), s2.push ⟨pk ts s1.pos - 14, 0, l, r⟩))
        else some (some (l, s1))
    else if lv < 10 then bnd (pf ts f (lv - 1) 0 s) fun l s1 => pf ts f (lv + 10) l s1
    else
      match opOf (lv - 10) (pk ts s.pos) with
      | none => some (some (l, s))
      | some o => bnd (pf ts f (lv - 11) 0 s.adv) fun r s1 => pf ts f lv (s1.nd.length : Int) (s1.push ⟨o, 0, l, r⟩)

theorem bnd_some {x : Option (Option (Int × PS))} {k : Int → PS → Option (Option (Int × PS))} {r : Option (Int × PS)} (h : bnd x k = some r) :
    (x = some none ∧ r = none) ∨ ∃ v s, x = some (some (v, s)) ∧ k v s = some r := by
  cases x with
  | none => cases h
  | some y =>
    cases y with
    | none => left; exact ⟨rfl, by cases h; rfl⟩
    | some q => right; exact ⟨q.1, q.2, rfl, h⟩
theorem bnd_mono {x x' : Option (Option (Int × PS))} {k k' : Int → PS → Option (Option (Int × PS))} {r : Option (Int × PS)} (h : bnd x k = some r) (hx : ∀ y, x = some y → x' = some y) (hk : ∀ v s y, k v s = some y → k' v s = some y) : bnd x' k' = some r := by
  rcases bnd_some h with ⟨h1, rfl⟩ | ⟨v, s, h1, h2⟩
  · rw [hx _ h1]; rfl
  · rw [hx _ h1]; exact hk v s r h2
theorem pf_mono (ts : List (Int × Int)) : ∀ (f lv : Nat) (l : Int) (s : PS) (r : Option (Int × PS)), pf ts f lv l s = some r → pf ts (f + 1) lv l s = some r := by
  intro f
  induction f with
  | zero => intro lv l s r h; cases h
  | succ f ih =>
    intro lv l s r h
    rw [pf] at h ⊢
    by_cases c0 : lv = 0
    · rw [if_pos c0] at h ⊢
      by_cases d1 : pk ts s.pos = 14
      · rw [if_pos d1] at h ⊢; exact h
      · rw [if_neg d1] at h ⊢
        by_cases d2 : pk ts s.pos = 13
        · rw [if_pos d2] at h ⊢; exact h
        · rw [if_neg d2] at h ⊢
          by_cases d3 : pk ts s.pos = 15
          · rw [if_pos d3] at h ⊢
            by_cases d4 : 4096 ≤ s.dep
            · rw [if_pos d4] at h ⊢; exact h
            · rw [if_neg d4] at h ⊢
              exact bnd_mono h (fun y hy => ih _ _ _ _ hy) (fun v s y hy => hy)
          · rw [if_neg d3] at h ⊢; exact h
    · rw [if_neg c0] at h ⊢
      by_cases c1 : lv = 1 ∨ lv = 5
      · rw [if_pos c1] at h ⊢
        by_cases d1 : pk ts s.pos = unKind lv
        · rw [if_pos d1] at h ⊢
          by_cases d4 : 4096 ≤ s.dep
          · rw [if_pos d4] at h ⊢; exact h
          · rw [if_neg d4] at h ⊢
            exact bnd_mono h (fun y hy => ih _ _ _ _ hy) (fun v s y hy => hy)
        · rw [if_neg d1] at h ⊢
          exact ih _ _ _ _ h
      · rw [if_neg c1] at h ⊢
        by_cases c4 : lv = 4
        · rw [if_pos c4] at h ⊢
          refine bnd_mono h (fun y hy => ih _ _ _ _ hy) (fun v s1 y hy => ?_)
          by_cases d1 : 21 ≤ pk ts s1.pos ∧ pk ts s1.pos ≤ 26
          · rw [if_pos d1] at hy ⊢
            exact bnd_mono hy (fun y hy => ih _ _ _ _ hy) (fun v s y hy => hy)
          · rw [if_neg d1] at hy ⊢; exact hy
        · rw [if_neg c4] at h ⊢
          by_cases c10 : lv < 10
          · rw [if_pos c10] at h ⊢
            exact bnd_mono h (fun y hy => ih _ _ _ _ hy) (fun v s y hy => ih _ _ _ _ hy)
          · rw [if_neg c10] at h ⊢
            split at h
            · exact h
            · exact bnd_mono h (fun y hy => ih _ _ _ _ hy) (fun v s y hy => ih _ _ _ _ hy)
theorem pf_le {ts : List (Int × Int)} {f : Nat} {lv : Nat} {l : Int} {s : PS} {r : Option (Int × PS)} (h : pf ts f lv l s = some r) : ∀ k, pf ts (f + k) lv l s = some r
  | 0 => h
  | k + 1 => pf_mono ts _ _ _ _ _ (pf_le h k)
theorem pf_up {ts : List (Int × Int)} {f F : Nat} {lv : Nat} {l : Int} {s : PS} {r : Option (Int × PS)} (h : pf ts f lv l s = some r) (hF : f ≤ F) : pf ts F lv l s = some r := by
  have := pf_le h (F - f)
  rwa [show f + (F - f) = F by omega] at this

/-- A parse at a level, from a state, answers r. -/
def Pr (ts : List (Int × Int)) (lv : Nat) (l : Int) (s : PS) (r : Option (Int × PS)) : Prop := ∃ f, pf ts f lv l s = some r
theorem Pr.det {ts : List (Int × Int)} {lv : Nat} {l : Int} {s : PS} {r r' : Option (Int × PS)} (h : Pr ts lv l s r) (h' : Pr ts lv l s r') : r = r' := by
  obtain ⟨f, h⟩ := h
  obtain ⟨g, h'⟩ := h'
  have a := pf_up (F := f + g) h (by omega)
  have b := pf_up (F := f + g) h' (by omega)
  rw [a] at b
  injection b

section
variable {ts : List (Int × Int)} {s s1 s2 : PS} {l x : Int} {r R : Option (Int × PS)}
/-- The four levels that are chains. -/
def isCh (c : Nat) : Prop := c = 2 ∨ c = 3 ∨ c = 6 ∨ c = 7
theorem Pr.chN {c : Nat} (hc : isCh c) (h : Pr ts (c - 1) 0 s none) : Pr ts c 0 s none := by
  obtain ⟨f, h⟩ := h
  refine ⟨f + 1, ?_⟩
  unfold isCh at hc
  rw [pf, if_neg (by omega), if_neg (by omega), if_neg (by omega), if_pos (by omega), h]
  rfl
theorem Pr.chS {c : Nat} (hc : isCh c) (h : Pr ts (c - 1) 0 s (some (l, s1))) (h2 : Pr ts (c + 10) l s1 r) : Pr ts c 0 s r := by
  obtain ⟨f, h⟩ := h
  obtain ⟨g, h2⟩ := h2
  refine ⟨f + g + 1, ?_⟩
  unfold isCh at hc
  rw [pf, if_neg (by omega), if_neg (by omega), if_neg (by omega), if_pos (by omega), pf_up (F := f + g) h (by omega)]
  exact pf_up (F := f + g) h2 (by omega)
theorem Pr.lpE {c : Nat} (hc : isCh c) (h0 : opOf c (pk ts s.pos) = none) : Pr ts (c + 10) l s (some (l, s)) := by
  refine ⟨1, ?_⟩
  unfold isCh at hc
  rw [pf, if_neg (by omega), if_neg (by omega), if_neg (by omega), if_neg (by omega), show c + 10 - 10 = c by omega, h0]
theorem Pr.lpN {c : Nat} {o : Int} (hc : isCh c) (h0 : opOf c (pk ts s.pos) = some o) (h : Pr ts (c - 1) 0 s.adv none) : Pr ts (c + 10) l s none := by
  obtain ⟨f, h⟩ := h
  refine ⟨f + 1, ?_⟩
  unfold isCh at hc
  rw [pf, if_neg (by omega), if_neg (by omega), if_neg (by omega), if_neg (by omega), show c + 10 - 10 = c by omega, h0, show c + 10 - 11 = c - 1 by omega]
  simp only [h]
  rfl
theorem Pr.lpS {c : Nat} {o : Int} (hc : isCh c) (h0 : opOf c (pk ts s.pos) = some o) (h : Pr ts (c - 1) 0 s.adv (some (x, s1))) (h2 : Pr ts (c + 10) (s1.nd.length : Int) (s1.push ⟨o, 0, l, x⟩) R) : Pr ts (c + 10) l s R := by
  obtain ⟨f, h⟩ := h
  obtain ⟨g, h2⟩ := h2
  refine ⟨f + g + 1, ?_⟩
  unfold isCh at hc
  rw [pf, if_neg (by omega), if_neg (by omega), if_neg (by omega), if_neg (by omega), show c + 10 - 10 = c by omega, h0, show c + 10 - 11 = c - 1 by omega]
  simp only [pf_up (F := f + g) h (by omega)]
  exact pf_up (F := f + g) h2 (by omega)
theorem Pr.prE {u : Nat} (hu : u = 1 ∨ u = 5) (h0 : pk ts s.pos ≠ unKind u) (h : Pr ts (u - 1) 0 s r) : Pr ts u 0 s r := by
  obtain ⟨f, h⟩ := h
  refine ⟨f + 1, ?_⟩
  rw [pf, if_neg (by omega), if_pos hu, if_neg h0]
  exact h
theorem Pr.prD {u : Nat} (hu : u = 1 ∨ u = 5) (h0 : pk ts s.pos = unKind u) (h1 : 4096 ≤ s.dep) : Pr ts u 0 s none := by
  refine ⟨1, ?_⟩
  rw [pf, if_neg (by omega), if_pos hu, if_pos h0, if_pos h1]
theorem Pr.prN {u : Nat} (hu : u = 1 ∨ u = 5) (h0 : pk ts s.pos = unKind u) (h1 : s.dep < 4096) (h : Pr ts u 0 s.adv.deep none) : Pr ts u 0 s none := by
  obtain ⟨f, h⟩ := h
  refine ⟨f + 1, ?_⟩
  rw [pf, if_neg (by omega), if_pos hu, if_pos h0, if_neg (by omega), h]
  rfl
theorem Pr.prS {u : Nat} (hu : u = 1 ∨ u = 5) (h0 : pk ts s.pos = unKind u) (h1 : s.dep < 4096) (h : Pr ts u 0 s.adv.deep (some (x, s1))) : Pr ts u 0 s (some ((s1.nd.length : Int), s1.up.push ⟨unOp u, 0, x, -1⟩)) := by
  obtain ⟨f, h⟩ := h
  refine ⟨f + 1, ?_⟩
  rw [pf, if_neg (by omega), if_pos hu, if_pos h0, if_neg (by omega), h]
  rfl
theorem Pr.cmN (h : Pr ts 3 0 s none) : Pr ts 4 0 s none := by
  obtain ⟨f, h⟩ := h
  refine ⟨f + 1, ?_⟩
  rw [pf, if_neg (by omega), if_neg (by omega), if_pos rfl, h]
  rfl
theorem Pr.cmE (h : Pr ts 3 0 s (some (l, s1))) (h2 : ¬ (21 ≤ pk ts s1.pos ∧ pk ts s1.pos ≤ 26)) : Pr ts 4 0 s (some (l, s1)) := by
  obtain ⟨f, h⟩ := h
  refine ⟨f + 1, ?_⟩
  rw [pf, if_neg (by omega), if_neg (by omega), if_pos rfl, h]
  simp only [bnd]
  rw [if_neg h2]
theorem Pr.cmR (h : Pr ts 3 0 s (some (l, s1))) (h2 : 21 ≤ pk ts s1.pos ∧ pk ts s1.pos ≤ 26) (h3 : Pr ts 3 0 s1.adv none) : Pr ts 4 0 s none := by
  obtain ⟨f, h⟩ := h
  obtain ⟨g, h3⟩ := h3
  refine ⟨f + g + 1, ?_⟩
  rw [pf, if_neg (by omega), if_neg (by omega), if_pos rfl, pf_up (F := f + g) h (by omega)]
  simp only [bnd]
  rw [if_pos h2, pf_up (F := f + g) h3 (by omega)]
theorem Pr.cmS (h : Pr ts 3 0 s (some (l, s1))) (h2 : 21 ≤ pk ts s1.pos ∧ pk ts s1.pos ≤ 26) (h3 : Pr ts 3 0 s1.adv (some (x, s2))) :
    Pr ts 4 0 s (some ((s2.nd.length : Int), s2.push ⟨pk ts s1.pos - 14, 0, l, x⟩)) := by
  obtain ⟨f, h⟩ := h
  obtain ⟨g, h3⟩ := h3
  refine ⟨f + g + 1, ?_⟩
  rw [pf, if_neg (by omega), if_neg (by omega), if_pos rfl, pf_up (F := f + g) h (by omega)]
  simp only [bnd]
  rw [if_pos h2, pf_up (F := f + g) h3 (by omega)]
theorem Pr.pmV (h0 : pk ts s.pos = 14) : Pr ts 0 0 s (some ((s.nd.length : Int), s.adv.push ⟨1, nu ts s.pos, -1, -1⟩)) := ⟨1, by rw [pf, if_pos rfl, if_pos h0]⟩
theorem Pr.pmC (h0 : pk ts s.pos = 13) : Pr ts 0 0 s (some ((s.nd.length : Int), s.adv.push ⟨2, nu ts s.pos, -1, -1⟩)) := ⟨1, by rw [pf, if_pos rfl, if_neg (by omega), if_pos h0]⟩
theorem Pr.pmD (h0 : pk ts s.pos = 15) (h1 : 4096 ≤ s.dep) : Pr ts 0 0 s none := ⟨1, by rw [pf, if_pos rfl, if_neg (by omega), if_neg (by omega), if_pos h0, if_pos h1]⟩
theorem Pr.pmN (h0 : pk ts s.pos = 15) (h1 : s.dep < 4096) (h : Pr ts 7 0 s.adv.deep none) : Pr ts 0 0 s none := by
  obtain ⟨f, h⟩ := h
  exact ⟨f + 1, by rw [pf, if_pos rfl, if_neg (by omega), if_neg (by omega), if_pos h0, if_neg (by omega), h]; rfl⟩
theorem Pr.pmP (h0 : pk ts s.pos = 15) (h1 : s.dep < 4096) (h : Pr ts 7 0 s.adv.deep (some (x, s1))) (h2 : pk ts s1.pos ≠ 16) : Pr ts 0 0 s none := by
  obtain ⟨f, h⟩ := h
  exact ⟨f + 1, by rw [pf, if_pos rfl, if_neg (by omega), if_neg (by omega), if_pos h0, if_neg (by omega), h]; simp only [bnd]; rw [if_neg h2]⟩
theorem Pr.pmS (h0 : pk ts s.pos = 15) (h1 : s.dep < 4096) (h : Pr ts 7 0 s.adv.deep (some (x, s1))) (h2 : pk ts s1.pos = 16) : Pr ts 0 0 s (some (x, s1.adv.up)) := by
  obtain ⟨f, h⟩ := h
  exact ⟨f + 1, by rw [pf, if_pos rfl, if_neg (by omega), if_neg (by omega), if_pos h0, if_neg (by omega), h]; simp only [bnd]; rw [if_pos h2]⟩
theorem Pr.pmX (h0 : pk ts s.pos ≠ 14) (h1 : pk ts s.pos ≠ 13) (h2 : pk ts s.pos ≠ 15) : Pr ts 0 0 s none := ⟨1, by rw [pf, if_pos rfl, if_neg h0, if_neg h1, if_neg h2]⟩
end

theorem pk_lt {ts : List (Int × Int)} {p : Nat} {k : Int} (h : pk ts p = k) (hk : k ≠ 0) : p < ts.length := by
  unfold pk at h
  split at h
  · assumption
  · exact absurd h.symm hk
theorem opOf_lt {c : Nat} {ts : List (Int × Int)} {p : Nat} {o : Int} (h : opOf c (pk ts p) = some o) : p < ts.length := by
  by_cases hk : pk ts p = 0
  · rw [hk] at h
    exfalso
    revert h
    unfold opOf
    repeat' split
    all_goals simp_all
  · exact pk_lt rfl hk
theorem unKind_ne (u : Nat) : unKind u ≠ 0 := by unfold unKind; split <;> decide

/-- What an answer holds: tokens are read, a node each at most, the depth is as before. -/
def Grow (ts : List (Int × Int)) (lv : Nat) (s : PS) (r : Option (Int × PS)) : Prop :=
  ∀ x s1, r = some (x, s1) → s.pos ≤ s1.pos ∧ (lv < 10 → s.pos < s1.pos) ∧ (s.pos ≤ ts.length → s1.pos ≤ ts.length) ∧ s1.nd.length + s.pos ≤ s.nd.length + s1.pos ∧ s.nd.length ≤ s1.nd.length ∧ s1.dep = s.dep
theorem Grow.none (ts : List (Int × Int)) (lv : Nat) (s : PS) : Grow ts lv s none := fun x s1 h => by cases h
theorem pf_grow (ts : List (Int × Int)) : ∀ (f lv : Nat) (l : Int) (s : PS) (r : Option (Int × PS)), pf ts f lv l s = some r → Grow ts lv s r := by
  intro f
  induction f with
  | zero => intro lv l s r h; cases h
  | succ f ih =>
    intro lv l s r h
    rw [pf] at h
    by_cases c0 : lv = 0
    · rw [if_pos c0] at h
      by_cases d1 : pk ts s.pos = 14
      · rw [if_pos d1] at h
        have hl := pk_lt d1 (by decide)
        cases h
        intro x s1 e
        cases e
        simp only [PS.adv, PS.push, List.length_append, List.length_singleton]
        refine ⟨by omega, fun _ => by omega, fun _ => by omega, by omega, by omega, trivial⟩
      · rw [if_neg d1] at h
        by_cases d2 : pk ts s.pos = 13
        · rw [if_pos d2] at h
          have hl := pk_lt d2 (by decide)
          cases h
          intro x s1 e
          cases e
          simp only [PS.adv, PS.push, List.length_append, List.length_singleton]
          refine ⟨by omega, fun _ => by omega, fun _ => by omega, by omega, by omega, trivial⟩
        · rw [if_neg d2] at h
          by_cases d3 : pk ts s.pos = 15
          · rw [if_pos d3] at h
            by_cases d4 : 4096 ≤ s.dep
            · rw [if_pos d4] at h; cases h; exact Grow.none _ _ _
            · rw [if_neg d4] at h
              rcases bnd_some h with ⟨_, rfl⟩ | ⟨v, s1, h1, h2⟩
              · exact Grow.none _ _ _
              · have g1 := ih _ _ _ _ h1 v s1 rfl
                by_cases d5 : pk ts s1.pos = 16
                · rw [if_pos d5] at h2
                  have hl := pk_lt d5 (by decide)
                  cases h2
                  intro x s2 e
                  cases e
                  simp only [PS.adv, PS.deep, PS.up] at g1 ⊢
                  refine ⟨by omega, fun _ => by omega, fun _ => by omega, by omega, by omega, by omega⟩
                · rw [if_neg d5] at h2; cases h2; exact Grow.none _ _ _
          · rw [if_neg d3] at h; cases h; exact Grow.none _ _ _
    · rw [if_neg c0] at h
      by_cases c1 : lv = 1 ∨ lv = 5
      · rw [if_pos c1] at h
        by_cases d1 : pk ts s.pos = unKind lv
        · rw [if_pos d1] at h
          have hl := pk_lt d1 (unKind_ne lv)
          by_cases d4 : 4096 ≤ s.dep
          · rw [if_pos d4] at h; cases h; exact Grow.none _ _ _
          · rw [if_neg d4] at h
            rcases bnd_some h with ⟨_, rfl⟩ | ⟨v, s1, h1, h2⟩
            · exact Grow.none _ _ _
            · have g1 := ih _ _ _ _ h1 v s1 rfl
              cases h2
              intro x s2 e
              cases e
              simp only [PS.adv, PS.deep, PS.up, PS.push, List.length_append, List.length_singleton] at g1 ⊢
              refine ⟨by omega, fun _ => by omega, fun hh => g1.2.2.1 (by omega), by omega, by omega, by omega⟩
        · rw [if_neg d1] at h
          have g1 := ih _ _ _ _ h
          intro x s1 e
          have := g1 x s1 e
          refine ⟨this.1, fun _ => this.2.1 (by omega), this.2.2⟩
      · rw [if_neg c1] at h
        by_cases c4 : lv = 4
        · rw [if_pos c4] at h
          rcases bnd_some h with ⟨_, rfl⟩ | ⟨v, s1, h1, h2⟩
          · exact Grow.none _ _ _
          · have g1 := ih _ _ _ _ h1 v s1 rfl
            by_cases d1 : 21 ≤ pk ts s1.pos ∧ pk ts s1.pos ≤ 26
            · rw [if_pos d1] at h2
              have hl := pk_lt (ts := ts) (p := s1.pos) rfl (by omega)
              rcases bnd_some h2 with ⟨_, rfl⟩ | ⟨v2, s2, h3, h4⟩
              · exact Grow.none _ _ _
              · have g2 := ih _ _ _ _ h3 v2 s2 rfl
                cases h4
                intro x s3 e
                cases e
                simp only [PS.adv, PS.push, List.length_append, List.length_singleton] at g1 g2 ⊢
                have := g1.2.1 (by omega)
                refine ⟨by omega, fun _ => by omega, fun hh => g2.2.2.1 (by omega), by omega, by omega, by omega⟩
            · rw [if_neg d1] at h2
              cases h2
              intro x s3 e
              cases e
              exact ⟨g1.1, fun _ => g1.2.1 (by omega), g1.2.2⟩
        · rw [if_neg c4] at h
          by_cases c10 : lv < 10
          · rw [if_pos c10] at h
            rcases bnd_some h with ⟨_, rfl⟩ | ⟨v, s1, h1, h2⟩
            · exact Grow.none _ _ _
            · have g1 := ih _ _ _ _ h1 v s1 rfl
              intro x s2 e
              have g2 := ih _ _ _ _ h2 x s2 e
              have := g1.2.1 (by omega)
              refine ⟨by omega, fun _ => by omega, fun hh => g2.2.2.1 (g1.2.2.1 hh), by omega, by omega, by omega⟩
          · rw [if_neg c10] at h
            split at h
            · cases h
              intro x s1 e
              cases e
              exact ⟨by omega, fun hh => absurd hh c10, fun hh => hh, by omega, by omega, rfl⟩
            · rename_i o ho
              have hl := opOf_lt ho
              rcases bnd_some h with ⟨_, rfl⟩ | ⟨v, s1, h1, h2⟩
              · exact Grow.none _ _ _
              · have g1 := ih _ _ _ _ h1 v s1 rfl
                intro x s2 e
                have g2 := ih _ _ _ _ h2 x s2 e
                simp only [PS.adv, PS.push, List.length_append, List.length_singleton] at g1 g2 ⊢
                refine ⟨by omega, fun hh => absurd hh c10, fun hh => g2.2.2.1 (g1.2.2.1 (by omega)), ?_, by omega, by omega⟩
                by_cases c11 : lv - 11 < 10
                · have := g1.2.1 c11
                  omega
                · omega
theorem Pr.grow {ts : List (Int × Int)} {lv : Nat} {l : Int} {s : PS} {x : Int} {s1 : PS} (h : Pr ts lv l s (some (x, s1))) :
    s.pos ≤ s1.pos ∧ (lv < 10 → s.pos < s1.pos) ∧ (s.pos ≤ ts.length → s1.pos ≤ ts.length) ∧ s1.nd.length + s.pos ≤ s.nd.length + s1.pos ∧ s.nd.length ≤ s1.nd.length ∧ s1.dep = s.dep := by
  obtain ⟨f, h⟩ := h
  exact pf_grow ts f lv l s _ h x s1 rfl
end Go.Proofs.YbyabwGreat
