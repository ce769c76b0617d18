/- The parse of a whole query as a plain function, with fuel. No Go here. -/
import Derived.Test.YbyabwGreatParseP
namespace Go.Proofs.YbyabwGreat
open Go.RowKit
set_option linter.unusedVariables false

structure Qy where
  its : List (Int × Int)
  nd : List Nd
  wh : Int
  gr : List Int
  li : Int
def bn {α β : Type} (x : Option (Option α)) (k : α → Option (Option β)) : Option (Option β) :=
  match x with
  | none => none
  | some none => some none
  | some (some a) => k a
theorem bn_mono {α β : Type} {x x' : Option (Option α)} {k k' : α → Option (Option β)} {r : Option β} (h : bn x k = some r) (hx : ∀ y, x = some y → x' = some y) (hk : ∀ a y, k a = some y → k' a = some y) : bn x' k' = some r := by
  cases x with
  | none => cases h
  | some y =>
    rw [hx y rfl]
    cases y with
    | none => exact h
    | some a => exact hk a r h

def q5 (ts : List (Int × Int)) (its : List (Int × Int)) (wh : Int) (gr : List Int) (li : Int) (s : PS) : Option Qy := if s.pos = ts.length then some ⟨its, s.nd, wh, gr, li⟩ else none
def q4 (ts : List (Int × Int)) (its : List (Int × Int)) (wh : Int) (gr : List Int) (s : PS) : Option Qy :=
  if pk ts s.pos = 5 then (if pk ts s.adv.pos = 14 then q5 ts its wh gr (nu ts s.adv.pos) s.adv.adv else none) else q5 ts its wh gr (-1) s
def g3 (ts : List (Int × Int)) (its : List (Int × Int)) (wh : Int) : Nat → List Int → PS → Option (Option Qy)
  | 0, _, _ => none
  | f + 1, acc, s => if pk ts s.pos = 13 then (if pk ts s.adv.pos = 17 then g3 ts its wh f (acc ++ [nu ts s.pos]) s.adv.adv else some (q4 ts its wh (acc ++ [nu ts s.pos]) s.adv)) else some none
def q3 (ts : List (Int × Int)) (f : Nat) (its : List (Int × Int)) (wh : Int) (s : PS) : Option (Option Qy) :=
  if pk ts s.pos = 3 then (if pk ts s.adv.pos = 4 then g3 ts its wh f [] s.adv.adv else some none) else some (q4 ts its wh [] s)
def q2 (ts : List (Int × Int)) (f : Nat) (its : List (Int × Int)) (s : PS) : Option (Option Qy) :=
  if pk ts s.pos = 2 then bn (pf ts f 7 0 s.adv) fun q => q3 ts f its q.1 q.2 else q3 ts f its (-1) s
def itF (ts : List (Int × Int)) (f : Nat) (s : PS) : Option (Option ((Int × Int) × PS)) :=
  if 9 ≤ pk ts s.pos ∧ pk ts s.pos ≤ 12 then
    (if pk ts s.adv.pos = 15 then
       (if pk ts s.pos = 12 ∧ pk ts s.adv.adv.pos = 18 then
          (if pk ts s.adv.adv.adv.pos = 16 then some (some ((5, -1), s.adv.adv.adv.adv)) else some none)
        else bn (pf ts f 7 0 s.adv.adv) fun q => if pk ts q.2.pos = 16 then some (some ((pk ts s.pos - 8, q.1), q.2.adv)) else some none)
     else some none)
  else bn (pf ts f 7 0 s) fun q => some (some ((0, q.1), q.2))
def q1 (ts : List (Int × Int)) : Nat → List (Int × Int) → PS → Option (Option Qy)
  | 0, _, _ => none
  | f + 1, acc, s => bn (itF ts f s) fun q => if pk ts q.2.pos = 17 then q1 ts f (acc ++ [q.1]) q.2.adv else q2 ts f (acc ++ [q.1]) q.2
def q0 (ts : List (Int × Int)) (f : Nat) : Option (Option Qy) := if pk ts 0 = 1 then q1 ts f [] ⟨1, [], 0⟩ else some none

theorem g3_mono (ts its : List (Int × Int)) (wh : Int) : ∀ (f : Nat) (acc : List Int) (s : PS) (r : Option Qy), g3 ts its wh f acc s = some r → g3 ts its wh (f + 1) acc s = some r := by
  intro f
  induction f with
  | zero => intro acc s r h; cases h
  | succ f ih =>
    intro acc s r h
    rw [g3] at h ⊢
    by_cases c : pk ts s.pos = 13
    · rw [if_pos c] at h ⊢
      by_cases d : pk ts s.adv.pos = 17
      · rw [if_pos d] at h ⊢; exact ih _ _ _ h
      · rw [if_neg d] at h ⊢; exact h
    · rw [if_neg c] at h ⊢; exact h
theorem q3_mono {ts : List (Int × Int)} {f : Nat} {its : List (Int × Int)} {wh : Int} {s : PS} {r : Option Qy} (h : q3 ts f its wh s = some r) : q3 ts (f + 1) its wh s = some r := by
  unfold q3 at *
  by_cases c : pk ts s.pos = 3
  · rw [if_pos c] at h ⊢
    by_cases d : pk ts s.adv.pos = 4
    · rw [if_pos d] at h ⊢; exact g3_mono _ _ _ _ _ _ _ h
    · rw [if_neg d] at h ⊢; exact h
  · rw [if_neg c] at h ⊢; exact h
theorem q2_mono {ts : List (Int × Int)} {f : Nat} {its : List (Int × Int)} {s : PS} {r : Option Qy} (h : q2 ts f its s = some r) : q2 ts (f + 1) its s = some r := by
  unfold q2 at *
  by_cases c : pk ts s.pos = 2
  · rw [if_pos c] at h ⊢
    exact bn_mono h (fun y hy => pf_mono _ _ _ _ _ _ hy) (fun a y hy => q3_mono hy)
  · rw [if_neg c] at h ⊢; exact q3_mono h
theorem itF_mono {ts : List (Int × Int)} {f : Nat} {s : PS} {r : Option ((Int × Int) × PS)} (h : itF ts f s = some r) : itF ts (f + 1) s = some r := by
  unfold itF at *
  by_cases c : 9 ≤ pk ts s.pos ∧ pk ts s.pos ≤ 12
  · rw [if_pos c] at h ⊢
    by_cases d : pk ts s.adv.pos = 15
    · rw [if_pos d] at h ⊢
      by_cases e : pk ts s.pos = 12 ∧ pk ts s.adv.adv.pos = 18
      · rw [if_pos e] at h ⊢; exact h
      · rw [if_neg e] at h ⊢
        exact bn_mono h (fun y hy => pf_mono _ _ _ _ _ _ hy) (fun a y hy => hy)
    · rw [if_neg d] at h ⊢; exact h
  · rw [if_neg c] at h ⊢
    exact bn_mono h (fun y hy => pf_mono _ _ _ _ _ _ hy) (fun a y hy => hy)
theorem q1_mono (ts : List (Int × Int)) : ∀ (f : Nat) (acc : List (Int × Int)) (s : PS) (r : Option Qy), q1 ts f acc s = some r → q1 ts (f + 1) acc s = some r := by
  intro f
  induction f with
  | zero => intro acc s r h; cases h
  | succ f ih =>
    intro acc s r h
    rw [q1] at h ⊢
    refine bn_mono h (fun y hy => itF_mono hy) (fun a y hy => ?_)
    by_cases c : pk ts a.2.pos = 17
    · rw [if_pos c] at hy ⊢; exact ih _ _ _ hy
    · rw [if_neg c] at hy ⊢; exact q2_mono hy
theorem q0_mono {ts : List (Int × Int)} {f : Nat} {r : Option Qy} (h : q0 ts f = some r) : q0 ts (f + 1) = some r := by
  unfold q0 at *
  by_cases c : pk ts 0 = 1
  · rw [if_pos c] at h ⊢; exact q1_mono _ _ _ _ _ h
  · rw [if_neg c] at h ⊢; exact h
theorem up_of {α : Type} {g : Nat → Option α} (hm : ∀ f r, g f = some r → g (f + 1) = some r) {f F : Nat} {r : α} (h : g f = some r) (hF : f ≤ F) : g F = some r := by
  obtain ⟨k, rfl⟩ : ∃ k, F = f + k := ⟨F - f, by omega⟩
  clear hF
  induction k with
  | zero => exact h
  | succ k ih => exact hm _ _ ih

def It (ts : List (Int × Int)) (s : PS) (r : Option ((Int × Int) × PS)) : Prop := ∃ f, itF ts f s = some r
def Q0 (ts : List (Int × Int)) (r : Option Qy) : Prop := ∃ f, q0 ts f = some r
def Q1 (ts : List (Int × Int)) (acc : List (Int × Int)) (s : PS) (r : Option Qy) : Prop := ∃ f, q1 ts f acc s = some r
def Q2 (ts : List (Int × Int)) (its : List (Int × Int)) (s : PS) (r : Option Qy) : Prop := ∃ f, q2 ts f its s = some r
def Q3 (ts : List (Int × Int)) (its : List (Int × Int)) (wh : Int) (s : PS) (r : Option Qy) : Prop := ∃ f, q3 ts f its wh s = some r
def G3 (ts : List (Int × Int)) (its : List (Int × Int)) (wh : Int) (acc : List Int) (s : PS) (r : Option Qy) : Prop := ∃ f, g3 ts its wh f acc s = some r
theorem Q0.det {ts : List (Int × Int)} {r r' : Option Qy} (h : Q0 ts r) (h' : Q0 ts r') : r = r' := by
  obtain ⟨f, h⟩ := h
  obtain ⟨g, h'⟩ := h'
  have a := up_of (g := q0 ts) (fun f r => q0_mono) h (show f ≤ f + g by omega)
  have b := up_of (g := q0 ts) (fun f r => q0_mono) h' (show g ≤ f + g by omega)
  rw [a] at b
  injection b
section
variable {ts its acc : List (Int × Int)} {s s1 : PS} {x wh : Int} {r : Option Qy} {gr : List Int}
theorem It.plN (h0 : ¬ (9 ≤ pk ts s.pos ∧ pk ts s.pos ≤ 12)) (h : Pr ts 7 0 s none) : It ts s none := by
  obtain ⟨f, h⟩ := h
  exact ⟨f, by unfold itF; rw [if_neg h0, h]; rfl⟩
theorem It.plS (h0 : ¬ (9 ≤ pk ts s.pos ∧ pk ts s.pos ≤ 12)) (h : Pr ts 7 0 s (some (x, s1))) : It ts s (some ((0, x), s1)) := by
  obtain ⟨f, h⟩ := h
  exact ⟨f, by unfold itF; rw [if_neg h0, h]; rfl⟩
theorem It.agL (h0 : 9 ≤ pk ts s.pos ∧ pk ts s.pos ≤ 12) (h1 : pk ts s.adv.pos ≠ 15) : It ts s none := ⟨0, by unfold itF; rw [if_pos h0, if_neg h1]⟩
theorem It.stN (h0 : 9 ≤ pk ts s.pos ∧ pk ts s.pos ≤ 12) (h1 : pk ts s.adv.pos = 15) (h2 : pk ts s.pos = 12 ∧ pk ts s.adv.adv.pos = 18) (h3 : pk ts s.adv.adv.adv.pos ≠ 16) : It ts s none := ⟨0, by unfold itF; rw [if_pos h0, if_pos h1, if_pos h2, if_neg h3]⟩
theorem It.stS (h0 : 9 ≤ pk ts s.pos ∧ pk ts s.pos ≤ 12) (h1 : pk ts s.adv.pos = 15) (h2 : pk ts s.pos = 12 ∧ pk ts s.adv.adv.pos = 18) (h3 : pk ts s.adv.adv.adv.pos = 16) : It ts s (some ((5, -1), s.adv.adv.adv.adv)) := ⟨0, by unfold itF; rw [if_pos h0, if_pos h1, if_pos h2, if_pos h3]⟩
theorem It.exN (h0 : 9 ≤ pk ts s.pos ∧ pk ts s.pos ≤ 12) (h1 : pk ts s.adv.pos = 15) (h2 : ¬ (pk ts s.pos = 12 ∧ pk ts s.adv.adv.pos = 18)) (h : Pr ts 7 0 s.adv.adv none) : It ts s none := by
  obtain ⟨f, h⟩ := h
  exact ⟨f, by unfold itF; rw [if_pos h0, if_pos h1, if_neg h2, h]; rfl⟩
theorem It.exP (h0 : 9 ≤ pk ts s.pos ∧ pk ts s.pos ≤ 12) (h1 : pk ts s.adv.pos = 15) (h2 : ¬ (pk ts s.pos = 12 ∧ pk ts s.adv.adv.pos = 18)) (h : Pr ts 7 0 s.adv.adv (some (x, s1))) (h3 : pk ts s1.pos ≠ 16) : It ts s none := by
  obtain ⟨f, h⟩ := h
  exact ⟨f, by unfold itF; rw [if_pos h0, if_pos h1, if_neg h2, h]; simp only [bn]; rw [if_neg h3]⟩
theorem It.exS (h0 : 9 ≤ pk ts s.pos ∧ pk ts s.pos ≤ 12) (h1 : pk ts s.adv.pos = 15) (h2 : ¬ (pk ts s.pos = 12 ∧ pk ts s.adv.adv.pos = 18)) (h : Pr ts 7 0 s.adv.adv (some (x, s1))) (h3 : pk ts s1.pos = 16) : It ts s (some ((pk ts s.pos - 8, x), s1.adv)) := by
  obtain ⟨f, h⟩ := h
  exact ⟨f, by unfold itF; rw [if_pos h0, if_pos h1, if_neg h2, h]; simp only [bn]; rw [if_pos h3]⟩
theorem Q0.no (h : pk ts 0 ≠ 1) : Q0 ts none := ⟨0, by unfold q0; rw [if_neg h]⟩
theorem Q0.yes (h : pk ts 0 = 1) (h1 : Q1 ts [] ⟨1, [], 0⟩ r) : Q0 ts r := by
  obtain ⟨f, h1⟩ := h1
  exact ⟨f, by unfold q0; rw [if_pos h]; exact h1⟩
theorem Q1.no (h : It ts s none) : Q1 ts acc s none := by
  obtain ⟨f, h⟩ := h
  exact ⟨f + 1, by rw [q1, h]; rfl⟩
theorem Q1.more {it : Int × Int} (h : It ts s (some (it, s1))) (h0 : pk ts s1.pos = 17) (h1 : Q1 ts (acc ++ [it]) s1.adv r) : Q1 ts acc s r := by
  obtain ⟨f, h⟩ := h
  obtain ⟨g, h1⟩ := h1
  refine ⟨f + g + 1, ?_⟩
  rw [q1, up_of (g := fun f => itF ts f s) (fun f r => itF_mono) h (show f ≤ f + g by omega)]
  simp only [bn]
  rw [if_pos h0]
  exact up_of (g := fun f => q1 ts f (acc ++ [it]) s1.adv) (fun f r => q1_mono _ _ _ _ _) h1 (by omega)
theorem Q1.last {it : Int × Int} (h : It ts s (some (it, s1))) (h0 : pk ts s1.pos ≠ 17) (h1 : Q2 ts (acc ++ [it]) s1 r) : Q1 ts acc s r := by
  obtain ⟨f, h⟩ := h
  obtain ⟨g, h1⟩ := h1
  refine ⟨f + g + 1, ?_⟩
  rw [q1, up_of (g := fun f => itF ts f s) (fun f r => itF_mono) h (show f ≤ f + g by omega)]
  simp only [bn]
  rw [if_neg h0]
  exact up_of (g := fun f => q2 ts f (acc ++ [it]) s1) (fun f r => q2_mono) h1 (by omega)
theorem Q2.no (h0 : pk ts s.pos ≠ 2) (h : Q3 ts its (-1) s r) : Q2 ts its s r := by
  obtain ⟨f, h⟩ := h
  exact ⟨f, by unfold q2; rw [if_neg h0]; exact h⟩
theorem Q2.bad (h0 : pk ts s.pos = 2) (h : Pr ts 7 0 s.adv none) : Q2 ts its s none := by
  obtain ⟨f, h⟩ := h
  exact ⟨f, by unfold q2; rw [if_pos h0, h]; rfl⟩
theorem Q2.yes (h0 : pk ts s.pos = 2) (h : Pr ts 7 0 s.adv (some (x, s1))) (h1 : Q3 ts its x s1 r) : Q2 ts its s r := by
  obtain ⟨f, h⟩ := h
  obtain ⟨g, h1⟩ := h1
  refine ⟨f + g, ?_⟩
  unfold q2
  rw [if_pos h0, pf_up (F := f + g) h (by omega)]
  exact up_of (g := fun f => q3 ts f its x s1) (fun f r => q3_mono) h1 (by omega)
theorem Q3.no (h0 : pk ts s.pos ≠ 3) : Q3 ts its wh s (q4 ts its wh [] s) := ⟨0, by unfold q3; rw [if_neg h0]⟩
theorem Q3.bad (h0 : pk ts s.pos = 3) (h1 : pk ts s.adv.pos ≠ 4) : Q3 ts its wh s none := ⟨0, by unfold q3; rw [if_pos h0, if_neg h1]⟩
theorem Q3.yes (h0 : pk ts s.pos = 3) (h1 : pk ts s.adv.pos = 4) (h : G3 ts its wh [] s.adv.adv r) : Q3 ts its wh s r := by
  obtain ⟨f, h⟩ := h
  exact ⟨f, by unfold q3; rw [if_pos h0, if_pos h1]; exact h⟩
theorem G3.bad (h0 : pk ts s.pos ≠ 13) : G3 ts its wh gr s none := ⟨1, by rw [g3, if_neg h0]⟩
theorem G3.more (h0 : pk ts s.pos = 13) (h1 : pk ts s.adv.pos = 17) (h : G3 ts its wh (gr ++ [nu ts s.pos]) s.adv.adv r) : G3 ts its wh gr s r := by
  obtain ⟨f, h⟩ := h
  exact ⟨f + 1, by rw [g3, if_pos h0, if_pos h1]; exact h⟩
theorem G3.last (h0 : pk ts s.pos = 13) (h1 : pk ts s.adv.pos ≠ 17) : G3 ts its wh gr s (q4 ts its wh (gr ++ [nu ts s.pos]) s.adv) := ⟨1, by rw [g3, if_pos h0, if_neg h1]⟩
theorem q4_no (h0 : pk ts s.pos ≠ 5) : q4 ts its wh gr s = q5 ts its wh gr (-1) s := by unfold q4; rw [if_neg h0]
theorem q4_bad (h0 : pk ts s.pos = 5) (h1 : pk ts s.adv.pos ≠ 14) : q4 ts its wh gr s = none := by unfold q4; rw [if_pos h0, if_neg h1]
theorem q4_yes (h0 : pk ts s.pos = 5) (h1 : pk ts s.adv.pos = 14) : q4 ts its wh gr s = q5 ts its wh gr (nu ts s.adv.pos) s.adv.adv := by unfold q4; rw [if_pos h0, if_pos h1]
end
end Go.Proofs.YbyabwGreat
