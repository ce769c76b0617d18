/- Plain: an expression printed with all its parentheses: its text, its tokens, their parse. No Go here. -/
import Derived.Test.YbyaawPrnP2
import Derived.Test.YbyaawDepP7
namespace Go.Proofs.Ybyaaw
open Go.RowKit
set_option linter.unusedVariables false

def opTok (o : Int) : Int × Int := (if o = 4 then 19 else if o = 5 then 20 else if o = 6 then 18 else if o = 13 then 6 else if o = 14 then 7 else o + 14, 0)
def pn (nd : List Nd) : Nat → Nat → List UInt8
  | 0, _ => []
  | f + 1, x =>
    if (nd.getD x nd0).op = 1 then itoa (nd.getD x nd0).val.toNat
    else if (nd.getD x nd0).op = 2 then 99 :: itoa (nd.getD x nd0).val.toNat
    else if (nd.getD x nd0).op = 3 then [40] ++ ([45] ++ ([32] ++ (pn nd f (nd.getD x nd0).l.toNat ++ [41])))
    else if (nd.getD x nd0).op = 15 then [40] ++ (([78, 79, 84] ++ [32]) ++ (pn nd f (nd.getD x nd0).l.toNat ++ [41]))
    else [40] ++ (pn nd f (nd.getD x nd0).l.toNat ++ ([32] ++ ((opT (nd.getD x nd0).op ++ [32]) ++ (pn nd f (nd.getD x nd0).r.toNat ++ [41]))))
def tn (nd : List Nd) : Nat → Nat → List (Int × Int)
  | 0, _ => []
  | f + 1, x =>
    if (nd.getD x nd0).op = 1 then [(14, (nd.getD x nd0).val)]
    else if (nd.getD x nd0).op = 2 then [(13, (nd.getD x nd0).val)]
    else if (nd.getD x nd0).op = 3 then [(15, 0)] ++ ([(20, 0)] ++ ([] ++ (tn nd f (nd.getD x nd0).l.toNat ++ [(16, 0)])))
    else if (nd.getD x nd0).op = 15 then [(15, 0)] ++ ([(8, 0)] ++ (tn nd f (nd.getD x nd0).l.toNat ++ [(16, 0)]))
    else [(15, 0)] ++ (tn nd f (nd.getD x nd0).l.toNat ++ ([] ++ ([opTok (nd.getD x nd0).op] ++ (tn nd f (nd.getD x nd0).r.toNat ++ [(16, 0)]))))
section
variable {nd : List Nd} {f x y z : Nat} {o v : Int}
theorem pn_lit (h : nd.getD x nd0 = ⟨1, v, -1, -1⟩) : pn nd (f + 1) x = itoa v.toNat := by rw [pn, h]; rfl
theorem pn_col (h : nd.getD x nd0 = ⟨2, v, -1, -1⟩) : pn nd (f + 1) x = 99 :: itoa v.toNat := by rw [pn, h]; rfl
theorem pn_neg (h : nd.getD x nd0 = ⟨3, 0, (y : Int), -1⟩) : pn nd (f + 1) x = [40] ++ ([45] ++ ([32] ++ (pn nd f y ++ [41]))) := by rw [pn, h]; rfl
theorem pn_not (h : nd.getD x nd0 = ⟨15, 0, (y : Int), -1⟩) : pn nd (f + 1) x = [40] ++ (([78, 79, 84] ++ [32]) ++ (pn nd f y ++ [41])) := by rw [pn, h]; rfl
theorem pn_bin (h : nd.getD x nd0 = ⟨o, 0, (y : Int), (z : Int)⟩) (h4 : 4 ≤ o) (h14 : o ≤ 14) : pn nd (f + 1) x = [40] ++ (pn nd f y ++ ([32] ++ ((opT o ++ [32]) ++ (pn nd f z ++ [41])))) := by
  rw [pn, h]
  simp only
  rw [if_neg (by omega), if_neg (by omega), if_neg (by omega), if_neg (by omega)]
  rfl
theorem tn_lit (h : nd.getD x nd0 = ⟨1, v, -1, -1⟩) : tn nd (f + 1) x = [(14, v)] := by rw [tn, h]; rfl
theorem tn_col (h : nd.getD x nd0 = ⟨2, v, -1, -1⟩) : tn nd (f + 1) x = [(13, v)] := by rw [tn, h]; rfl
theorem tn_neg (h : nd.getD x nd0 = ⟨3, 0, (y : Int), -1⟩) : tn nd (f + 1) x = [(15, 0)] ++ ([(20, 0)] ++ ([] ++ (tn nd f y ++ [(16, 0)]))) := by rw [tn, h]; rfl
theorem tn_not (h : nd.getD x nd0 = ⟨15, 0, (y : Int), -1⟩) : tn nd (f + 1) x = [(15, 0)] ++ ([(8, 0)] ++ (tn nd f y ++ [(16, 0)])) := by rw [tn, h]; rfl
theorem tn_bin (h : nd.getD x nd0 = ⟨o, 0, (y : Int), (z : Int)⟩) (h4 : 4 ≤ o) (h14 : o ≤ 14) : tn nd (f + 1) x = [(15, 0)] ++ (tn nd f y ++ ([] ++ ([opTok o] ++ (tn nd f z ++ [(16, 0)])))) := by
  rw [tn, h]
  simp only
  rw [if_neg (by omega), if_neg (by omega), if_neg (by omega), if_neg (by omega)]
  rfl
end
theorem opT_tok (o : Int) (h1 : 4 ≤ o) (h2 : o ≤ 14) : opT o = ttext (opTok o) ∧ TokOK (opTok o) := by
  have hk : o = 4 ∨ o = 5 ∨ o = 6 ∨ o = 7 ∨ o = 8 ∨ o = 9 ∨ o = 10 ∨ o = 11 ∨ o = 12 ∨ o = 13 ∨ o = 14 := by omega
  rcases hk with rfl | rfl | rfl | rfl | rfl | rfl | rfl | rfl | rfl | rfl | rfl
  all_goals exact ⟨by decide, by unfold TokOK; decide⟩
theorem Brk.rp1 : Brk [41] := Brk.cons 41 [] (by decide)
theorem Brk.sp (m : List UInt8) : Brk ([32] ++ m) := Brk.cons 32 m (by decide)
theorem pn_run (nd : List Nd) : ∀ (f a x : Nat), NB nd f a x → Tk (pn nd f x) (tn nd f x) := by
  intro f
  induction f with
  | zero => intro a x h; exact h.elim
  | succ f ih =>
    intro a x h
    obtain ⟨h0, h | h | h | h⟩ := h
    · obtain ⟨v, h1, h2, h3, _⟩ := h
      rw [pn_lit h1, tn_lit h1]
      exact Tk.leaf (t := (14, v)) ⟨⟨by simp, by simp, fun h => by simp at h, fun _ => ⟨h2, h3⟩, fun _ h => absurd rfl h⟩, .inr rfl⟩
    · obtain ⟨v, h1, h2, h3, _⟩ := h
      rw [pn_col h1, tn_col h1]
      exact Tk.leaf (t := (13, v)) ⟨⟨by simp, by simp, fun _ => ⟨h2, h3⟩, fun h => by simp at h, fun h => absurd rfl h⟩, .inl rfl⟩
    · obtain ⟨o, y, h1, ho, _, h2⟩ := h
      have hy := ih _ _ h2
      rcases ho with rfl | rfl
      · rw [pn_neg h1, tn_neg h1]
        exact Tl.lp.then (Tl.neg.then (Tl.sp.then (hy.then Brk.rp1 Tl.rp.tk)))
      · rw [pn_not h1, tn_not h1]
        exact Tl.lp.then ((Tl.tok (tokKw 8 (by decide) (by decide) (by decide) (by decide))).then (hy.then Brk.rp1 Tl.rp.tk))
    · obtain ⟨o, y, z, h1, h4, h14, _, h2, h3⟩ := h
      have hy := ih _ _ h2
      have hz := ih _ _ h3
      rw [pn_bin h1 h4 h14, tn_bin h1 h4 h14]
      obtain ⟨e, ht⟩ := opT_tok o h4 h14
      rw [e]
      exact Tl.lp.then (hy.then (Brk.sp _) (Tl.sp.then ((Tl.tok ht).then (hz.then Brk.rp1 Tl.rp.tk))))
theorem pn_len (nd : List Nd) : ∀ (f a x : Nat), NB nd f a x → (pn nd f x).length + 32 * a ≤ 32 * (x + 1) := by
  intro f
  induction f with
  | zero => intro a x h; exact h.elim
  | succ f ih =>
    intro a x h
    obtain ⟨h0, h | h | h | h⟩ := h
    · obtain ⟨v, h1, h2, h3, h4⟩ := h
      rw [pn_lit h1]
      have := itoa_len 20 v.toNat (by omega) (by omega)
      omega
    · obtain ⟨v, h1, h2, h3, h4⟩ := h
      rw [pn_col h1]
      have := itoa_len 5 v.toNat (by omega) (by omega)
      simp only [List.length_cons]
      omega
    · obtain ⟨o, y, h1, ho, _, h2⟩ := h
      have hy := ih _ _ h2
      rcases ho with rfl | rfl
      · rw [pn_neg h1]
        simp only [List.length_cons, List.length_append, List.length_nil]
        omega
      · rw [pn_not h1]
        simp only [List.length_cons, List.length_append, List.length_nil]
        omega
    · obtain ⟨o, y, z, h1, h4, h14, _, h2, h3⟩ := h
      have hy := ih _ _ h2
      have hz := ih _ _ h3
      have ho := opT_len o h4 h14
      rw [pn_bin h1 h4 h14]
      simp only [List.length_cons, List.length_append, List.length_nil]
      omega

section
variable {ts : List (Int × Int)} {s s1 : PS} {l x : Int} {r : Option (Int × PS)}
/-- Which tokens end an expression of level c. -/
def Calm (c : Nat) (t : Int) : Prop := (2 ≤ c → t ≠ 18) ∧ (3 ≤ c → t ≠ 19 ∧ t ≠ 20) ∧ (4 ≤ c → ¬ (21 ≤ t ∧ t ≤ 26)) ∧ (6 ≤ c → t ≠ 6) ∧ (7 ≤ c → t ≠ 7)
theorem Calm.le {c c' : Nat} {t : Int} (h : Calm c t) (hc : c' ≤ c) : Calm c' t :=
  ⟨fun h1 => h.1 (by omega), fun h1 => h.2.1 (by omega), fun h1 => h.2.2.1 (by omega), fun h1 => h.2.2.2.1 (by omega), fun h1 => h.2.2.2.2 (by omega)⟩
def Calms (c : Nat) (ts : List (Int × Int)) (r : Option (Int × PS)) : Prop := ∀ x s1, r = some (x, s1) → Calm c (pk ts s1.pos)
theorem Pr.up1 {c : Nat} (h : Pr ts c 0 s r) (hc : c < 7) (h8 : c = 4 → pk ts s.pos ≠ 8) (h20 : c = 0 → pk ts s.pos ≠ 20) (hr : Calms (c + 1) ts r) : Pr ts (c + 1) 0 s r := by
  have hcc : c = 0 ∨ c = 1 ∨ c = 2 ∨ c = 3 ∨ c = 4 ∨ c = 5 ∨ c = 6 := by omega
  rcases hcc with rfl | rfl | rfl | rfl | rfl | rfl | rfl
  · exact Pr.prE (u := 1) (by omega) (h20 rfl) h
  · rcases r with _ | ⟨x, s1⟩
    · exact Pr.chN (c := 2) isCh2 h
    · exact Pr.chS (c := 2) isCh2 h (Pr.lpE isCh2 (op2_none ((hr x s1 rfl).1 (by omega))))
  · rcases r with _ | ⟨x, s1⟩
    · exact Pr.chN (c := 3) isCh3 h
    · have := (hr x s1 rfl).2.1 (by omega)
      exact Pr.chS (c := 3) isCh3 h (Pr.lpE isCh3 (op3_none this.1 this.2))
  · rcases r with _ | ⟨x, s1⟩
    · exact Pr.cmN h
    · exact Pr.cmE h ((hr x s1 rfl).2.2.1 (by omega))
  · exact Pr.prE (u := 5) (by omega) (h8 rfl) h
  · rcases r with _ | ⟨x, s1⟩
    · exact Pr.chN (c := 6) isCh6 h
    · exact Pr.chS (c := 6) isCh6 h (Pr.lpE isCh6 (by have := (hr x s1 rfl).2.2.2.1 (by omega); simp [opOf, this]))
  · rcases r with _ | ⟨x, s1⟩
    · exact Pr.chN (c := 7) isCh7 h
    · exact Pr.chS (c := 7) isCh7 h (Pr.lpE isCh7 (by have := (hr x s1 rfl).2.2.2.2 (by omega); simp [opOf, this]))
theorem Pr.ups {c : Nat} (h : Pr ts c 0 s r) (k : Nat) (hk : c + k ≤ 7) (h8 : c ≤ 4 → pk ts s.pos ≠ 8) (h20 : c = 0 → pk ts s.pos ≠ 20) (hr : Calms (c + k) ts r) : Pr ts (c + k) 0 s r := by
  induction k with
  | zero => exact h
  | succ k ih =>
    have h1 := ih (by omega) (fun x s1 e => (hr x s1 e).le (by omega))
    exact h1.up1 (by omega) (fun _ => h8 (by omega)) (fun _ => h20 (by omega)) hr
theorem Pr.to {c : Nat} (h : Pr ts c 0 s r) (c' : Nat) (h1 : c ≤ c') (h7 : c' ≤ 7) (h8 : c ≤ 4 → pk ts s.pos ≠ 8) (h20 : c = 0 → pk ts s.pos ≠ 20) (hr : Calms c' ts r) : Pr ts c' 0 s r := by
  obtain ⟨k, rfl⟩ : ∃ k, c' = c + k := ⟨c' - c, by omega⟩
  exact h.ups k (by omega) h8 h20 hr
end
/-- A parse is refused, or it answers q. -/
def Pm (ts : List (Int × Int)) (lv : Nat) (s : PS) (q : Int × PS) : Prop := Pr ts lv 0 s none ∨ Pr ts lv 0 s (some q)
section
variable {ts : List (Int × Int)} {s : PS} {q : Int × PS}
theorem Pm.to {c : Nat} (h : Pm ts c s q) (c' : Nat) (h1 : c ≤ c') (h7 : c' ≤ 7) (h8 : c ≤ 4 → pk ts s.pos ≠ 8) (h20 : c = 0 → pk ts s.pos ≠ 20) (hr : Calm c' (pk ts q.2.pos)) : Pm ts c' s q := by
  rcases h with h | h
  · exact .inl (h.to c' h1 h7 h8 h20 (fun x s1 e => by cases e))
  · exact .inr (h.to c' h1 h7 h8 h20 (fun x s1 e => by cases e; exact hr))
end
theorem calm16 (c : Nat) : Calm c 16 := ⟨fun _ => by decide, fun _ => by decide, fun _ => by decide, fun _ => by decide, fun _ => by decide⟩
theorem take_succ_nd (nd : List Nd) (x : Nat) (h : x < nd.length) : nd.take (x + 1) = nd.take x ++ [nd.getD x nd0] := by
  rw [List.take_succ_eq_append_getElem h, List.getD_eq_getElem?_getD, List.getElem?_eq_getElem h]; rfl
theorem take_len (nd : List Nd) (x : Nat) (h : x ≤ nd.length) : (nd.take x).length = x := by simp; omega
/-- How the tokens of an expression open. -/
theorem tn_open (nd : List Nd) : ∀ (f a x : Nat), NB nd f a x → ∃ t r, tn nd f x = t :: r ∧ (t.1 = 13 ∨ t.1 = 14 ∨ t.1 = 15) := by
  intro f
  cases f with
  | zero => intro a x h; exact h.elim
  | succ f =>
    intro a x h
    obtain ⟨h0, h | h | h | h⟩ := h
    · obtain ⟨v, h1, _⟩ := h
      exact ⟨_, _, tn_lit h1, by simp⟩
    · obtain ⟨v, h1, _⟩ := h
      exact ⟨_, _, tn_col h1, by simp⟩
    · obtain ⟨o, y, h1, ho, _⟩ := h
      rcases ho with rfl | rfl
      · exact ⟨_, _, tn_neg h1, by simp⟩
      · exact ⟨_, _, tn_not h1, by simp⟩
    · obtain ⟨o, y, z, h1, h4, h14, _⟩ := h
      exact ⟨_, _, tn_bin h1 h4 h14, by simp⟩
theorem Stands.open {ts : List (Int × Int)} {p : Nat} {nd : List Nd} {f a x : Nat} (hb : NB nd f a x) {m : List (Int × Int)} (h : Stands ts p (tn nd f x ++ m)) : pk ts p = 13 ∨ pk ts p = 14 ∨ pk ts p = 15 := by
  obtain ⟨t, r, e, ht⟩ := tn_open nd f a x hb
  rw [e] at h
  rw [h.cons.1]
  exact ht
end Go.Proofs.Ybyaaw
