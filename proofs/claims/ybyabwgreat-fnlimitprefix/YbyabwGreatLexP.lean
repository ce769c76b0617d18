/- The tokenizer as a plain function. No Go here. -/
import Derived.Test.YbyabwGreatLex1
namespace Go.Proofs.YbyabwGreat
open Go.RowKit
set_option linter.unusedVariables false

def tb (s : ByteArray) (i : Nat) : Int := ((s.data[i]?.getD 0).toNat : Int)
theorem tb_lo (s : ByteArray) (i : Nat) : 0 ≤ tb s i := by unfold tb; omega
theorem tb_hi (s : ByteArray) (i : Nat) : tb s i ≤ 255 := by unfold tb; have := (s.data[i]?.getD 0).toNat_lt; omega
theorem tb_at (s : ByteArray) (i : Nat) (h : i < s.size) : (((s[i]'h).toNat : Nat) : Int) = tb s i := by
  unfold tb
  have h' : i < s.data.size := h
  rw [Array.getElem?_eq_getElem h']
  rfl

def wc (b : Int) : Bool := isL b || isD b || (b == 95)
def wE (s : ByteArray) : Nat → Nat → Nat
  | 0, j => j
  | f + 1, j => if j < s.size ∧ wc (tb s j) = true then wE s f (j + 1) else j
def nm (s : ByteArray) : Nat → Nat → Int → Option (Nat × Int)
  | 0, j, v => some (j, v)
  | f + 1, j, v => if j < s.size ∧ isD (tb s j) = true then (if (9223372036854775807 - (tb s j - 48)) / 10 < v then none else nm s f (j + 1) (v * 10 + (tb s j - 48))) else some (j, v)
def dv (d : ByteArray) : Nat → Int
  | 0 => 0
  | x + 1 => dv d x * 10 + (tb d x - 48)
def colOf (w : ByteArray) : Option Int :=
  if 2 ≤ w.size ∧ w.size ≤ 6 ∧ tb w 0 = 99 ∧ (∀ x, x < (w.extract 1 w.size).size → isD (tb (w.extract 1 w.size) x) = true) ∧ ¬ (1 < (w.extract 1 w.size).size ∧ tb (w.extract 1 w.size) 0 = 48) ∧ dv (w.extract 1 w.size) (w.extract 1 w.size).size ≤ 65535
  then some (dv (w.extract 1 w.size) (w.extract 1 w.size).size) else none
def pun (b nb : Int) : Int × Nat :=
  if b = 40 then (15, 1) else if b = 41 then (16, 1) else if b = 44 then (17, 1) else if b = 42 then (18, 1) else if b = 43 then (19, 1) else if b = 45 then (20, 1) else if b = 61 then (21, 1)
  else if b = 60 then (if nb = 62 then (22, 2) else if nb = 61 then (24, 2) else (23, 1))
  else if b = 62 then (if nb = 61 then (26, 2) else (25, 1)) else (0, 1)
def nxt (s : ByteArray) (i : Nat) : Int := if i + 1 < s.size then tb s (i + 1) else 0
def word (w : ByteArray) : Option (Int × Int) := if kwOf w = 0 then (match colOf w with | none => none | some v => some (13, v)) else some (kwOf w, 0)
def numTok (s : ByteArray) (j : Nat) (v : Int) : Option (Nat × List (Int × Int)) := if j < s.size ∧ (isL (tb s j) || (tb s j == 95)) = true then none else some (j, [(14, v)])
def step (s : ByteArray) (i : Nat) : Option (Nat × List (Int × Int)) :=
  if isS (tb s i) = true then some (i + 1, [])
  else if isL (tb s i) = true then (match word (s.extract i (wE s s.size i)) with | none => none | some t => some (wE s s.size i, [t]))
  else if isD (tb s i) = true then (match nm s s.size i 0 with | none => none | some (j, v) => numTok s j v)
  else if (pun (tb s i) (nxt s i)).1 = 0 then none else some (i + (pun (tb s i) (nxt s i)).2, [((pun (tb s i) (nxt s i)).1, 0)])
def T (s : ByteArray) : Nat → Nat → List (Int × Int) → Option (List (Int × Int))
  | 0, i, out => some out
  | f + 1, i, out => if i < s.size then (match step s i with | none => none | some (j, o) => T s f j (out ++ o)) else some out
/-- The tokens of a text; none where it is refused. -/
def tokens (s : ByteArray) : Option (List (Int × Int)) := if 65536 < s.size then none else T s s.size 0 []

theorem T_end {s : ByteArray} {f i : Nat} {out : List (Int × Int)} (h : ¬ i < s.size) : T s f i out = some out := by
  cases f with
  | zero => rfl
  | succ f => simp [T, h]
theorem T_none {s : ByteArray} {f i : Nat} {out : List (Int × Int)} (h : i < s.size) (hf : s.size - i ≤ f) (hs : step s i = none) : T s f i out = none := by
  cases f with
  | zero => omega
  | succ f => simp [T, h, hs]
theorem T_some {s : ByteArray} {f i j : Nat} {out o : List (Int × Int)} (h : i < s.size) (hf : s.size - i ≤ f) (hj : i < j) (hs : step s i = some (j, o)) : ∃ f', T s f i out = T s f' j (out ++ o) ∧ s.size - j ≤ f' := by
  cases f with
  | zero => omega
  | succ f => exact ⟨f, by simp [T, h, hs], by omega⟩

theorem wE_stop {s : ByteArray} {f j : Nat} (h : ¬ (j < s.size ∧ wc (tb s j) = true)) : wE s f j = j := by
  cases f with
  | zero => rfl
  | succ f => simp only [wE]; rw [if_neg h]
theorem wE_go {s : ByteArray} {f j : Nat} (h : j < s.size ∧ wc (tb s j) = true) (hf : s.size - j ≤ f) : ∃ f', wE s f j = wE s f' (j + 1) ∧ s.size - (j + 1) ≤ f' := by
  cases f with
  | zero => omega
  | succ f => exact ⟨f, by simp only [wE]; rw [if_pos h], by omega⟩
theorem nm_stop {s : ByteArray} {f j : Nat} {v : Int} (h : ¬ (j < s.size ∧ isD (tb s j) = true)) : nm s f j v = some (j, v) := by
  cases f with
  | zero => rfl
  | succ f => simp only [nm]; rw [if_neg h]
theorem nm_none {s : ByteArray} {f j : Nat} {v : Int} (h : j < s.size ∧ isD (tb s j) = true) (hf : s.size - j ≤ f) (hv : (9223372036854775807 - (tb s j - 48)) / 10 < v) : nm s f j v = none := by
  cases f with
  | zero => omega
  | succ f => simp only [nm]; rw [if_pos h, if_pos hv]
theorem nm_go {s : ByteArray} {f j : Nat} {v : Int} (h : j < s.size ∧ isD (tb s j) = true) (hf : s.size - j ≤ f) (hv : ¬ (9223372036854775807 - (tb s j - 48)) / 10 < v) :
    ∃ f', nm s f j v = nm s f' (j + 1) (v * 10 + (tb s j - 48)) ∧ s.size - (j + 1) ≤ f' := by
  cases f with
  | zero => omega
  | succ f => exact ⟨f, by simp only [nm]; rw [if_pos h, if_neg hv], by omega⟩

theorem isL_wc {b : Int} (h : isL b = true) : wc b = true := by simp [wc, h]
theorem isD_wc {b : Int} (h : isD b = true) : wc b = true := by simp [wc, h]
theorem isD_rng {b : Int} (h : isD b = true) : 48 ≤ b ∧ b ≤ 57 := by simp [isD] at h; exact h
theorem isL_notS {b : Int} (h : isL b = true) : isS b = false := by
  simp [isL] at h
  simp [isS]
  omega
theorem isD_notS {b : Int} (h : isD b = true) : isS b = false := by
  simp [isD] at h
  simp [isS]
  omega
theorem isD_notL {b : Int} (h : isD b = true) : isL b = false := by
  simp [isD] at h
  simp [isL]
  omega

theorem dv_bound (d : ByteArray) : ∀ x, (∀ y, y < x → isD (tb d y) = true) → 0 ≤ dv d x ∧ dv d x < 10 ^ x
  | 0, _ => by simp [dv]
  | x + 1, h => by
    have ih := dv_bound d x (fun y hy => h y (by omega))
    have hb := isD_rng (h x (by omega))
    simp only [dv, Int.pow_succ]
    omega

theorem step_space {s : ByteArray} {i : Nat} (h : isS (tb s i) = true) : step s i = some (i + 1, []) := by simp [step, h]
theorem step_word {s : ByteArray} {i : Nat} (h : isL (tb s i) = true) : step s i = (match word (s.extract i (wE s s.size i)) with | none => none | some t => some (wE s s.size i, [t])) := by
  simp [step, h, isL_notS h]
theorem step_num {s : ByteArray} {i : Nat} (h : isD (tb s i) = true) : step s i = (match nm s s.size i 0 with | none => none | some (j, v) => numTok s j v) := by
  simp [step, h, isD_notS h, isD_notL h]
theorem step_pun {s : ByteArray} {i : Nat} (h1 : isS (tb s i) = false) (h2 : isL (tb s i) = false) (h3 : isD (tb s i) = false) :
    step s i = if (pun (tb s i) (nxt s i)).1 = 0 then none else some (i + (pun (tb s i) (nxt s i)).2, [((pun (tb s i) (nxt s i)).1, 0)]) := by
  simp [step, h1, h2, h3]

theorem size_ext1 (w : ByteArray) : (w.extract 1 w.size).size = w.size - 1 := by simp [ByteArray.size_extract]
end Go.Proofs.YbyabwGreat
