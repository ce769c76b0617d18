/- Plain: the tokens of any text hold numbers in range; runs of the tokenizer over pieces of text. No Go here. -/
import Derived.Test.YbyaawDepP5
import Derived.Test.YbyaawPrnP1
namespace Go.Proofs.Ybyaaw
open Go.RowKit
set_option linter.unusedVariables false

def NumOK (t : Int × Int) : Prop := (t.1 = 13 → 0 ≤ t.2 ∧ t.2 ≤ 65535) ∧ (t.1 = 14 → 0 ≤ t.2 ∧ t.2 ≤ 9223372036854775807)
theorem NumOK.zero (k : Int) : NumOK (k, 0) := ⟨fun _ => by simp, fun _ => by simp⟩
theorem nm_rng (s : ByteArray) : ∀ (f j : Nat) (v : Int) (q : Nat × Int), 0 ≤ v → v ≤ 9223372036854775807 → nm s f j v = some q → 0 ≤ q.2 ∧ q.2 ≤ 9223372036854775807 := by
  intro f
  induction f with
  | zero => intro j v q h0 h1 h; cases h; exact ⟨h0, h1⟩
  | succ f ih =>
    intro j v q h0 h1 h
    simp only [nm] at h
    split at h
    · rename_i hd
      have := isD_rng hd.2
      split at h
      · cases h
      · exact ih (j + 1) _ q (by omega) (by omega) h
    · cases h; exact ⟨h0, h1⟩
theorem col_rng {w : ByteArray} {v : Int} (h : colOf w = some v) : 0 ≤ v ∧ v ≤ 65535 := by
  unfold colOf at h
  split at h
  · rename_i hc
    cases h
    exact ⟨(dv_bound _ _ hc.2.2.2.1).1, hc.2.2.2.2.2⟩
  · cases h
theorem step_ok {s : ByteArray} {i j : Nat} {o : List (Int × Int)} (h : step s i = some (j, o)) : ∀ t ∈ o, NumOK t := by
  unfold step at h
  split at h
  · cases h; intro t ht; cases ht
  · split at h
    · split at h
      · cases h
      · rename_i t ht
        cases h
        intro u hu
        rw [List.mem_singleton] at hu
        subst hu
        unfold word at ht
        split at ht
        · split at ht
          · cases ht
          · rename_i v hv
            cases ht
            exact ⟨fun _ => col_rng hv, fun hh => by simp at hh⟩
        · cases ht
          exact NumOK.zero _
    · split at h
      · split at h
        · cases h
        · rename_i j' v hv
          have hr := nm_rng s s.size i 0 _ (by omega) (by omega) hv
          unfold numTok at h
          split at h
          · cases h
          · cases h
            intro u hu
            rw [List.mem_singleton] at hu
            subst hu
            exact ⟨fun hh => by simp at hh, fun _ => hr⟩
      · split at h
        · cases h
        · cases h
          intro u hu
          rw [List.mem_singleton] at hu
          subst hu
          exact NumOK.zero _
theorem T_ok (s : ByteArray) : ∀ (f i : Nat) (out ts : List (Int × Int)), (∀ t ∈ out, NumOK t) → T s f i out = some ts → ∀ t ∈ ts, NumOK t := by
  intro f
  induction f with
  | zero => intro i out ts h0 h; cases h; exact h0
  | succ f ih =>
    intro i out ts h0 h
    simp only [T] at h
    split at h
    · split at h
      · cases h
      · rename_i j o hs
        refine ih j _ ts (fun t ht => ?_) h
        rcases List.mem_append.1 ht with ht | ht
        · exact h0 t ht
        · exact step_ok hs t ht
    · cases h; exact h0
theorem tokens_ok {s : ByteArray} {ts : List (Int × Int)} (h : tokens s = some ts) : TsOK ts := by
  unfold tokens at h
  split at h
  · cases h
  · have hh := T_ok s _ _ _ _ (fun t ht => by cases ht) h
    intro p
    unfold pk nu
    by_cases hp : p < ts.length
    · rw [if_pos hp, List.getD_eq_getElem?_getD, List.getElem?_eq_getElem hp]
      exact hh _ (List.getElem_mem hp)
    · rw [if_neg hp]
      exact ⟨fun h => by simp at h, fun h => by simp at h⟩

/-- The text l gives the tokens o wherever it stands (Tk: if no byte of a word follows). -/
def Tl (l : List UInt8) (o : List (Int × Int)) : Prop := ∀ pre rest, Rn (tx (pre ++ l ++ rest)) pre.length (pre.length + l.length) o
def Tk (l : List UInt8) (o : List (Int × Int)) : Prop := ∀ pre rest, Brk rest → Rn (tx (pre ++ l ++ rest)) pre.length (pre.length + l.length) o
theorem Tl.tk {l : List UInt8} {o : List (Int × Int)} (h : Tl l o) : Tk l o := fun pre rest _ => h pre rest
theorem Tk.nil : Tk [] [] := fun pre rest _ => Rn.refl _ _
theorem Tl.app {l m : List UInt8} {o p : List (Int × Int)} (h : Tl l o) (h' : Tl m p) : Tl (l ++ m) (o ++ p) := fun pre rest => by
  have h1 := h pre (m ++ rest)
  have h2 := h' (pre ++ l) rest
  rw [← List.append_assoc (pre ++ l)] at h1
  rw [List.length_append] at h2
  rw [List.length_append, ← Nat.add_assoc, ← List.append_assoc]
  exact h1.trans h2
theorem Tl.then {l m : List UInt8} {o p : List (Int × Int)} (h : Tl l o) (h' : Tk m p) : Tk (l ++ m) (o ++ p) := fun pre rest hr => by
  have h1 := h pre (m ++ rest)
  have h2 := h' (pre ++ l) rest hr
  rw [← List.append_assoc (pre ++ l)] at h1
  rw [List.length_append] at h2
  rw [List.length_append, ← Nat.add_assoc, ← List.append_assoc]
  exact h1.trans h2
theorem Tk.then {l m : List UInt8} {o p : List (Int × Int)} (h : Tk l o) (hb : Brk m) (h' : Tk m p) : Tk (l ++ m) (o ++ p) := fun pre rest hr => by
  have h1 := h pre (m ++ rest) (hb.append hr)
  have h2 := h' (pre ++ l) rest hr
  rw [← List.append_assoc (pre ++ l)] at h1
  rw [List.length_append] at h2
  rw [List.length_append, ← Nat.add_assoc, ← List.append_assoc]
  exact h1.trans h2
theorem Tl.sp : Tl [32] [] := fun pre rest => by rw [List.append_assoc]; exact Rn.space pre rest
theorem Tl.lp : Tl [40] [(15, 0)] := fun pre rest => by rw [List.append_assoc]; exact Rn.lp pre rest
theorem Tl.rp : Tl [41] [(16, 0)] := fun pre rest => by rw [List.append_assoc]; exact Rn.rp pre rest
theorem Tl.neg : Tl [45] [(20, 0)] := fun pre rest => by rw [List.append_assoc]; exact Rn.neg pre rest
theorem Tl.comma : Tl [44] [(17, 0)] := fun pre rest => by rw [List.append_assoc]; exact Rn.sign pre rest 44 17 (by decide) (by decide) (by decide) (fun nb => rfl) (by decide)
theorem Tl.star : Tl [42] [(18, 0)] := fun pre rest => by rw [List.append_assoc]; exact Rn.sign pre rest 42 18 (by decide) (by decide) (by decide) (fun nb => rfl) (by decide)
/-- A token and a space. -/
theorem Tl.tok {t : Int × Int} (ht : TokOK t) : Tl (ttext t ++ [32]) [t] := fun pre rest => by
  have hat := At.of pre (ttext t) (32 :: rest) (fun b r e => by cases e; rfl)
  have hn := ttext_ne t
  have hl := hat.le
  have r1 : Rn (tx (pre ++ ttext t ++ 32 :: rest)) pre.length (pre.length + (ttext t).length) [t] := Rn.step (by omega) (by omega) (step_tok ht hat)
  have r2 := Rn.space (pre ++ ttext t) rest
  rw [List.length_append] at r2
  have := r1.trans r2
  have e : pre ++ (ttext t ++ [32]) ++ rest = pre ++ ttext t ++ 32 :: rest := by simp
  rw [e, List.length_append, ← Nat.add_assoc]
  exact this
theorem Tk.leaf {t : Int × Int} (ht : IsLeaf t) : Tk (ttext t) [t] := fun pre rest hr => Rn.leaf pre rest hr ht
/-- A word that ends in a sign. -/
theorem Tl.kwp (b : UInt8) (w : List UInt8) (k : Int) (hL : isL (b.toNat : Int) = true) (hw : (b :: w).all (fun c => wc (c.toNat : Int)) = true) (hk : kwOf (tx (b :: w)) = k) (h0 : k ≠ 0) : Tl (b :: w ++ [40]) [(k, 0), (15, 0)] := fun pre rest => by
  have r1 := Rn.kw pre (40 :: rest) (Brk.cons 40 _ (by decide)) b w k hL hw hk h0
  have r2 := Rn.lp (pre ++ (b :: w)) rest
  rw [List.length_append] at r2
  have := r1.trans r2
  have e : pre ++ (b :: w ++ [40]) ++ rest = pre ++ (b :: w) ++ 40 :: rest := by simp
  rw [e, List.length_append, ← Nat.add_assoc]
  exact this
theorem tokKw (k : Int) (h1 : 1 ≤ k) (h2 : k ≤ 26) (h13 : k ≠ 13) (h14 : k ≠ 14) : TokOK (k, 0) := ⟨h1, h2, fun h => absurd h h13, fun h => absurd h h14, fun _ _ => rfl⟩
end Go.Proofs.Ybyaaw
