/- The tokens of a text and of the same text with ' LIMIT n' behind it. No Go here. -/
import Derived.Test.YbyabwGreatLimP1
import Derived.Test.YbyabwGreatDepP4
import Derived.Test.YbyabwGreatGenS0
import Derived.Test.YbyabwGreatPrsQ
namespace Go.Proofs.YbyabwGreat
open Go.RowKit
set_option linter.unusedVariables false
set_option linter.unusedSimpArgs false

theorem pun_2 (b nb : Int) : (pun b nb).2 ≤ 2 := by
  unfold pun
  repeat' split
  all_goals decide
theorem pun_1 (b : Int) : (pun b 0).2 ≤ 1 := by
  unfold pun
  repeat' split
  all_goals first | decide | omega
theorem pun_k (b nb : Int) : (pun b nb).1 ≠ 5 := by
  unfold pun
  repeat' split
  all_goals decide
/-- Empty, or it opens with a space. -/
def Hsp (m : List UInt8) : Prop := ∀ b r, m = b :: r → b = 32
section
variable {A m : List UInt8} {i : Nat}
theorem tbx (h : i < A.length) : tb (tx (A ++ m)) i = tb (tx A) i := by rw [tx_tb, tx_tb, List.getElem?_append_left h]
theorem tb_sp (hm : Hsp m) (h : A.length < (tx (A ++ m)).size) : tb (tx (A ++ m)) A.length = 32 := by
  rw [tx_size, List.length_append] at h
  cases m with
  | nil => simp at h
  | cons b r =>
    have := hm b r rfl
    subst this
    rw [tx_tb, List.getElem?_append_right (Nat.le_refl _), Nat.sub_self]
    rfl
theorem szx : (tx (A ++ m)).size = A.length + m.length := by rw [tx_size, List.length_append]
theorem wE_app (hm : Hsp m) : ∀ (f j g : Nat), j ≤ A.length → A.length - j ≤ f → (tx (A ++ m)).size - j ≤ g → wE (tx (A ++ m)) g j = wE (tx A) f j := by
  intro f
  induction f with
  | zero =>
    intro j g hj hf hg
    obtain rfl : j = A.length := by omega
    rw [wE_stop (s := tx A) (by rw [tx_size]; omega), wE_stop]
    rintro ⟨h1, h2⟩
    rw [tb_sp hm h1] at h2
    revert h2
    decide
  | succ f ih =>
    intro j g hj hf hg
    rcases Nat.lt_or_ge j A.length with h | h
    · by_cases hc : wc (tb (tx A) j) = true
      · obtain ⟨g', e, hg'⟩ := wE_go (s := tx (A ++ m)) (f := g) (j := j) ⟨by rw [szx]; omega, by rw [tbx h]; exact hc⟩ hg
        rw [e]
        simp only [wE]
        rw [if_pos ⟨by rw [tx_size]; exact h, hc⟩]
        exact ih (j + 1) g' h (by omega) hg'
      · rw [wE_stop (s := tx (A ++ m)) (by rw [tbx h]; exact fun hh => hc hh.2), wE_stop (s := tx A) (fun hh => hc hh.2)]
    · obtain rfl : j = A.length := by omega
      rw [wE_stop (s := tx A) (by rw [tx_size]; omega), wE_stop]
      rintro ⟨h1, h2⟩
      rw [tb_sp hm h1] at h2
      revert h2
      decide
theorem wE_le : ∀ (f j : Nat), j ≤ A.length → wE (tx A) f j ≤ A.length := by
  intro f
  induction f with
  | zero => intro j h; exact h
  | succ f ih =>
    intro j h
    simp only [wE]
    split
    · rename_i hc
      rw [tx_size] at hc
      exact ih (j + 1) hc.1
    · exact h
theorem nm_app (hm : Hsp m) : ∀ (f j g : Nat) (v : Int), j ≤ A.length → A.length - j ≤ f → (tx (A ++ m)).size - j ≤ g → nm (tx (A ++ m)) g j v = nm (tx A) f j v := by
  intro f
  induction f with
  | zero =>
    intro j g v hj hf hg
    obtain rfl : j = A.length := by omega
    rw [nm_stop (s := tx A) (by rw [tx_size]; omega), nm_stop]
    rintro ⟨h1, h2⟩
    rw [tb_sp hm h1] at h2
    revert h2
    decide
  | succ f ih =>
    intro j g v hj hf hg
    rcases Nat.lt_or_ge j A.length with h | h
    · by_cases hc : isD (tb (tx A) j) = true
      · have hc' : j < (tx (A ++ m)).size ∧ isD (tb (tx (A ++ m)) j) = true := ⟨by rw [szx]; omega, by rw [tbx h]; exact hc⟩
        by_cases hv : (9223372036854775807 - (tb (tx A) j - 48)) / 10 < v
        · rw [nm_none hc' hg (by rw [tbx h]; exact hv), nm_none (s := tx A) ⟨by rw [tx_size]; exact h, hc⟩ (by rw [tx_size]; omega) hv]
        · cases g with
          | zero => rw [szx] at hg; omega
          | succ g =>
            simp only [nm]
            rw [if_pos hc', tbx h, if_neg hv, if_pos (show j < (tx A).size ∧ isD (tb (tx A) j) = true from ⟨by rw [tx_size]; exact h, hc⟩), if_neg hv]
            exact ih (j + 1) g _ h (by omega) (by omega)
      · rw [nm_stop (s := tx (A ++ m)) (by rw [tbx h]; exact fun hh => hc hh.2), nm_stop (s := tx A) (fun hh => hc hh.2)]
    · obtain rfl : j = A.length := by omega
      rw [nm_stop (s := tx A) (by rw [tx_size]; omega), nm_stop]
      rintro ⟨h1, h2⟩
      rw [tb_sp hm h1] at h2
      revert h2
      decide
theorem nm_le : ∀ (f j : Nat) (v : Int) (q : Nat × Int), j ≤ A.length → nm (tx A) f j v = some q → q.1 ≤ A.length := by
  intro f
  induction f with
  | zero => intro j v q h e; cases e; exact h
  | succ f ih =>
    intro j v q h e
    simp only [nm] at e
    split at e
    · rename_i hc
      rw [tx_size] at hc
      split at e
      · cases e
      · exact ih (j + 1) _ q hc.1 e
    · cases e; exact h
theorem pun_sp (b : Int) : pun b 32 = pun b 0 := by unfold pun; simp (config := {decide := true}) only [if_false]
theorem nxt_app (hm : Hsp m) (h : i < A.length) : pun (tb (tx A) i) (nxt (tx (A ++ m)) i) = pun (tb (tx A) i) (nxt (tx A) i) := by
  rcases Nat.lt_or_ge (i + 1) A.length with h1 | h1
  · have : nxt (tx (A ++ m)) i = nxt (tx A) i := by
      unfold nxt
      rw [if_pos (by rw [szx]; omega), if_pos (by rw [tx_size]; exact h1), tbx h1]
    rw [this]
  · have e : i + 1 = A.length := by omega
    have h2 : nxt (tx A) i = 0 := by unfold nxt; rw [if_neg (by rw [tx_size]; omega)]
    rw [h2]
    unfold nxt
    split
    · rename_i hh
      rw [e] at hh ⊢
      rw [tb_sp hm hh, pun_sp]
    · rfl
theorem step_app (hm : Hsp m) (h : i < A.length) : step (tx (A ++ m)) i = step (tx A) i := by
  have hw : wE (tx (A ++ m)) (tx (A ++ m)).size i = wE (tx A) (tx A).size i := wE_app hm _ _ _ (by omega) (by rw [tx_size]; omega) (by omega)
  have hwl : wE (tx A) (tx A).size i ≤ A.length := wE_le _ _ (by omega)
  have hn : nm (tx (A ++ m)) (tx (A ++ m)).size i 0 = nm (tx A) (tx A).size i 0 := nm_app hm _ _ _ _ (by omega) (by rw [tx_size]; omega) (by omega)
  unfold step
  rw [tbx h, hw, hn, nxt_app hm h, tx_extract, tx_extract, List.take_append_of_le_length hwl]
  split
  · rfl
  · split
    · rfl
    · split
      · cases hq : nm (tx A) (tx A).size i 0 with
        | none => rfl
        | some q =>
          have hle := nm_le _ _ _ q (by omega) hq
          simp only [numTok]
          rcases Nat.lt_or_ge q.1 A.length with h1 | h1
          · rw [tbx h1]
            by_cases hc : (isL (tb (tx A) q.1) || (tb (tx A) q.1 == 95)) = true
            · rw [if_pos ⟨by rw [szx]; omega, hc⟩, if_pos ⟨by rw [tx_size]; exact h1, hc⟩]
            · rw [if_neg (fun hh => hc hh.2), if_neg (fun hh => hc hh.2)]
          · have e : q.1 = A.length := by omega
            have c1 : ¬ (A.length < (tx (A ++ m)).size ∧ (isL (tb (tx (A ++ m)) A.length) || (tb (tx (A ++ m)) A.length == 95)) = true) := by
              rintro ⟨h2, h3⟩
              rw [tb_sp hm h2] at h3
              revert h3
              decide
            have c2 : ¬ (A.length < (tx A).size ∧ (isL (tb (tx A) A.length) || (tb (tx A) A.length == 95)) = true) := fun hh => by
              have := hh.1
              rw [tx_size] at this
              omega
            rw [e, if_neg c1, if_neg c2]
      · rfl
theorem step_le {j : Nat} {o : List (Int × Int)} (h : i < A.length) (e : step (tx A) i = some (j, o)) : j ≤ A.length := by
  unfold step at e
  split at e
  · cases e; omega
  · split at e
    · split at e
      · cases e
      · cases e; exact wE_le _ _ (by omega)
    · split at e
      · split at e
        · cases e
        · rename_i q v hq
          have := nm_le _ _ _ _ (by omega) hq
          unfold numTok at e
          split at e
          · cases e
          · cases e; exact this
      · split at e
        · cases e
        · cases e
          have : (pun (tb (tx A) i) (nxt (tx A) i)).2 ≤ 1 ∨ i + 1 < A.length := by
            by_cases h1 : i + 1 < A.length
            · exact .inr h1
            · left
              have h2 : nxt (tx A) i = 0 := by unfold nxt; rw [if_neg (by rw [tx_size]; exact h1)]
              rw [h2]
              exact pun_1 _
          have h3 := pun_2 (tb (tx A) i) (nxt (tx A) i)
          omega
/-- A text up to what follows it. -/
theorem T_app (hm : Hsp m) : ∀ (k i : Nat) (out : List (Int × Int)), i ≤ A.length → A.length - i ≤ k → T (tx (A ++ m)) (A ++ m).length i out = (T (tx A) A.length i out).bind (fun o => T (tx (A ++ m)) (A ++ m).length A.length o) := by
  intro k
  induction k with
  | zero =>
    intro i out hi hk
    obtain rfl : i = A.length := by omega
    rw [T_end (s := tx A) (by rw [tx_size]; omega)]
    rfl
  | succ k ih =>
    intro i out hi hk
    rcases Nat.lt_or_ge i A.length with h | h
    · cases hs : step (tx A) i with
      | none =>
        rw [T_none (s := tx A) (by rw [tx_size]; exact h) (by rw [tx_size]; omega) hs, T_none (s := tx (A ++ m)) (by rw [szx]; omega) (by rw [szx, List.length_append]; omega) (by rw [step_app hm h]; exact hs)]
        rfl
      | some q =>
        obtain ⟨j, o⟩ := q
        have hj := step_adv (s := tx A) (by rw [tx_size]; exact h) hs
        have hjl := step_le h hs
        obtain ⟨f1, e1, hf1⟩ := T_some (s := tx A) (f := A.length) (out := out) (by rw [tx_size]; exact h) (by rw [tx_size]; omega) hj hs
        obtain ⟨f2, e2, hf2⟩ := T_some (s := tx (A ++ m)) (f := (A ++ m).length) (out := out) (by rw [szx]; omega) (by rw [szx, List.length_append]; omega) hj (by rw [step_app hm h]; exact hs)
        rw [e1, e2, T_more (tx A) f1 A.length j _ hf1 (by rw [tx_size]; omega), T_more (tx (A ++ m)) f2 (A ++ m).length j _ hf2 (by rw [szx, List.length_append]; omega)]
        exact ih j _ hjl (by omega)
    · obtain rfl : i = A.length := by omega
      rw [T_end (s := tx A) (by rw [tx_size]; omega)]
      rfl
theorem tail_sp (ts : List (Int × Int)) : Hsp (tail ts) := fun b r h => by
  cases ts with
  | nil => cases h
  | cons t ts =>
    simp only [tail, List.flatMap_cons, List.cons_append] at h
    injection h with h1 h2
    exact h1.symm
theorem tokens_tail (A : List UInt8) (ts : List (Int × Int)) (hok : ∀ t ∈ ts, TokOK t) : tokens (tx (A ++ tail ts)) = if 65536 < (A ++ tail ts).length then none else (tokM A).map (fun o => o ++ ts) := by
  unfold tokens
  rw [tx_size]
  by_cases h : 65536 < (A ++ tail ts).length
  · rw [if_pos h, if_pos h]
  · rw [if_neg h, if_neg h, T_app (tail_sp ts) A.length 0 [] (Nat.zero_le _) (by omega)]
    unfold tokM
    cases T (tx A) A.length 0 [] with
    | none => rfl
    | some o =>
      simp only [Option.bind_some, Option.map_some]
      exact T_tail ts A _ o hok (by omega)
/-- No LIMIT where no L is followed by an I. -/
theorem nli_at : ∀ (A : List UInt8) (i : Nat), nli A = true → ¬ (A[i]? = some 76 ∧ A[i + 1]? = some 73) := by
  intro A
  induction A with
  | nil => intro i _ h; simp at h
  | cons x A ih =>
    intro i hA h
    cases A with
    | nil => simp at h
    | cons y A =>
      have h2 : (!(x == 76 && y == 73) && nli (y :: A)) = true := hA
      rw [Bool.and_eq_true] at h2
      cases i with
      | zero =>
        obtain ⟨h3, h4⟩ := h
        simp at h3 h4
        have := h2.1
        rw [h3, h4] at this
        revert this
        decide
      | succ i => exact ih i h2.2 (by simpa using h)
theorem kw5 {l : List UInt8} (h : kwOf (tx l) = 5) : l = [76, 73, 77, 73, 84] := by
  have e : (tx l).toList = l := ByteArray.toList_mk _
  unfold kwOf at h
  rw [e] at h
  by_cases h5 : l = [76, 73, 77, 73, 84]
  · exact h5
  · exfalso
    have hb : (l == [76, 73, 77, 73, 84]) = false := by simpa using h5
    rw [hb] at h
    simp only [Bool.false_eq_true, if_false] at h
    repeat' (split at h)
    all_goals omega
theorem step_no5 (hA : nli A = true) {j : Nat} {o : List (Int × Int)} (e : step (tx A) i = some (j, o)) : ∀ t ∈ o, t.1 ≠ 5 := by
  intro t ht
  unfold step at e
  split at e
  · cases e; cases ht
  · split at e
    · split at e
      · cases e
      · rename_i tk hw
        cases e
        simp only [List.mem_singleton] at ht
        subst ht
        intro h5
        unfold word at hw
        rw [tx_extract] at hw
        split at hw
        · split at hw
          · cases hw
          · cases hw; simp at h5
        · cases hw
          have := kw5 h5
          have h0 : A[i]? = some 76 := by
            have h1 : ((A.take (wE (tx A) (tx A).size i)).drop i)[0]? = some 76 := by rw [this]; rfl
            rw [List.getElem?_drop, Nat.add_zero] at h1
            rw [List.getElem?_take] at h1
            split at h1
            · exact h1
            · cases h1
          have h2 : A[i + 1]? = some 73 := by
            have h1 : ((A.take (wE (tx A) (tx A).size i)).drop i)[1]? = some 73 := by rw [this]; rfl
            rw [List.getElem?_drop] at h1
            rw [List.getElem?_take] at h1
            split at h1
            · exact h1
            · cases h1
          exact nli_at A i hA ⟨h0, h2⟩
    · split at e
      · split at e
        · cases e
        · unfold numTok at e
          split at e
          · cases e
          · cases e
            simp only [List.mem_singleton] at ht
            subst ht
            show (14 : Int) ≠ 5
            decide
      · split at e
        · cases e
        · cases e
          simp only [List.mem_singleton] at ht
          subst ht
          exact pun_k _ _
theorem T_no5 (hA : nli A = true) : ∀ (f i : Nat) (out r : List (Int × Int)), (∀ t ∈ out, t.1 ≠ 5) → T (tx A) f i out = some r → ∀ t ∈ r, t.1 ≠ 5 := by
  intro f
  induction f with
  | zero => intro i out r h e; cases e; exact h
  | succ f ih =>
    intro i out r h e
    simp only [T] at e
    split at e
    · cases hs : step (tx A) i with
      | none => rw [hs] at e; cases e
      | some q =>
        rw [hs] at e
        refine ih q.1 _ r (fun t ht => ?_) e
        rcases List.mem_append.1 ht with ht | ht
        · exact h t ht
        · exact step_no5 hA hs t ht
    · cases e; exact h
theorem tokM_no5 (hA : nli A = true) {ts : List (Int × Int)} (h : tokM A = some ts) : ∀ p, pk ts p ≠ 5 := by
  have := T_no5 hA _ _ _ ts (fun t ht => by cases ht) h
  intro p
  unfold pk
  split
  · rename_i hp
    refine this _ ?_
    rw [List.getD_eq_getElem?_getD, List.getElem?_eq_getElem hp]
    exact List.getElem_mem hp
  · decide
end
section
variable {ts Y : List (Int × Int)} {v : Int}
theorem q0_ext (hno : ∀ p, pk ts p ≠ 5) (hY : Y = [] ∨ (∃ n, Y = [(14, n)]) ∨ ∃ a r, Y = (5, a) :: r) (f : Nat) : q0 (ts ++ (5, v) :: Y) f = mapH Y (q0 ts f) := by
  unfold q0
  by_cases c : pk ts 0 = 1
  · have hl := pk_pos (by decide) c
    rw [if_pos c, if_pos ((pk_test (Nat.zero_le _) (by decide) (by decide)).2 c), q1_ext hno hY f _ _ (by simp only; omega)]
  · rw [if_neg c, if_neg (fun hh => c ((pk_test (Nat.zero_le _) (by decide) (by decide)).1 hh))]
    rfl
/-- Without LIMIT the limit is -1. -/
def LiOK (r : Option (Option Qy)) : Prop := ∀ q, r = some (some q) → q.li = -1
theorem q4_li (hno : ∀ p, pk ts p ≠ 5) (its : List (Int × Int)) (wh : Int) (gr : List Int) (s : PS) : LiOK (some (q4 ts its wh gr s)) := fun q h => by
  unfold q4 at h
  rw [if_neg (hno s.pos)] at h
  unfold q5 at h
  split at h
  · cases h; rfl
  · cases h
theorem li_none : LiOK (some none) := fun q h => by cases h
theorem g3_li (hno : ∀ p, pk ts p ≠ 5) (its : List (Int × Int)) (wh : Int) : ∀ (f : Nat) (acc : List Int) (s : PS), LiOK (g3 ts its wh f acc s) := by
  intro f
  induction f with
  | zero => intro acc s q h; cases h
  | succ f ih =>
    intro acc s
    rw [g3]
    split
    · split
      · exact ih _ _
      · exact q4_li hno _ _ _ _
    · exact li_none
theorem q3_li (hno : ∀ p, pk ts p ≠ 5) (f : Nat) (its : List (Int × Int)) (wh : Int) (s : PS) : LiOK (q3 ts f its wh s) := by
  unfold q3
  split
  · split
    · exact g3_li hno _ _ _ _ _
    · exact li_none
  · exact q4_li hno _ _ _ _
theorem bn_li {α : Type} {x : Option (Option α)} {k : α → Option (Option Qy)} (hk : ∀ a, LiOK (k a)) : LiOK (bn x k) := by
  cases x with
  | none => intro q h; cases h
  | some y =>
    cases y with
    | none => intro q h; cases h
    | some a => exact hk a
theorem q2_li (hno : ∀ p, pk ts p ≠ 5) (f : Nat) (its : List (Int × Int)) (s : PS) : LiOK (q2 ts f its s) := by
  unfold q2
  split
  · exact bn_li (fun a => q3_li hno _ _ _ _)
  · exact q3_li hno _ _ _ _
theorem q1_li (hno : ∀ p, pk ts p ≠ 5) : ∀ (f : Nat) (acc : List (Int × Int)) (s : PS), LiOK (q1 ts f acc s) := by
  intro f
  induction f with
  | zero => intro acc s q h; cases h
  | succ f ih =>
    intro acc s
    rw [q1]
    refine bn_li (fun a => ?_)
    split
    · exact ih _ _
    · exact q2_li hno _ _ _
theorem q0_li (hno : ∀ p, pk ts p ≠ 5) (f : Nat) : LiOK (q0 ts f) := by
  unfold q0
  split
  · exact q1_li hno _ _ _
  · exact li_none
end
def limR (n : Nat) : List UInt8 := [32, 76, 73, 77, 73, 84, 32] ++ itoa n
theorem limR_tail (n : Nat) : limR n = tail [(5, 0), (14, (n : Int))] := by
  simp [limR, tail, ttext]
theorem tok5 : TokOK (5, 0) := ⟨by decide, by decide, fun h => by simp at h, fun h => by simp at h, fun _ _ => rfl⟩
def setLi (n : Nat) (q : Qy) : Qy := ⟨q.its, q.nd, q.wh, q.gr, n⟩
/-- A text whose only LIMIT may be its last word. -/
def LimT (L : List UInt8) : Prop := ∃ A, nli A = true ∧ (L = A ∨ L = A ++ [32, 76, 73, 77, 73, 84])
theorem lim_parse {l : List UInt8} (hl : LimT l) (n : Nat) (hn : n ≤ 65535) {r : Option Qy} (h : Pq (tx l) r) :
    (∀ q, r = some q → q.li = -1) ∧ Pq (tx (l ++ limR n)) (if 65536 < (l ++ limR n).length then none else r.map (setLi n)) := by
  have ht14 : TokOK (14, (n : Int)) := tok14 (n : Int) (by omega) (by omega)
  obtain ⟨A, hA, hcase⟩ := hl
  have key : ∃ J : List (Int × Int), (J = [] ∨ J = [(5, 0)]) ∧ l = A ++ tail J := by
    rcases hcase with h1 | h1
    · exact ⟨[], .inl rfl, by rw [h1]; simp [tail]⟩
    · exact ⟨[(5, 0)], .inr rfl, by rw [h1]; simp [tail, ttext]⟩
  obtain ⟨J, hJ, rfl⟩ := key
  have hJok : ∀ t ∈ J, TokOK t := fun t ht => by
    rcases hJ with rfl | rfl
    · cases ht
    · simp only [List.mem_singleton] at ht; subst ht; exact tok5
  have hlt : A ++ tail J ++ limR n = A ++ tail (J ++ [(5, 0), (14, (n : Int))]) := by
    rw [limR_tail, List.append_assoc]
    simp [tail]
  have t1 := tokens_tail A J hJok
  have t2 := tokens_tail A (J ++ [(5, 0), (14, (n : Int))]) (fun t ht => by
    rcases List.mem_append.1 ht with ht | ht
    · exact hJok t ht
    · simp only [List.mem_cons, List.not_mem_nil, or_false] at ht
      rcases ht with rfl | rfl
      · exact tok5
      · exact ht14)
  rw [hlt]
  have hlen : (A ++ tail J).length ≤ (A ++ tail (J ++ [(5, 0), (14, (n : Int))])).length := by
    simp only [List.length_append, tail, List.flatMap_append]
    omega
  cases hM : tokM A with
  | none =>
    rw [hM] at t1 t2
    have hr : r = none := by
      rcases h with ⟨_, h⟩ | ⟨ts, h1, _⟩
      · exact h
      · rw [t1] at h1
        split at h1 <;> cases h1
    subst hr
    refine ⟨(fun q h => by cases h), .inl ⟨?_, by split <;> rfl⟩⟩
    rw [t2]
    split <;> rfl
  | some ts =>
    have hno := tokM_no5 hA hM
    rw [hM] at t1 t2
    simp only [Option.map_some] at t1 t2
    by_cases hb : 65536 < (A ++ tail (J ++ [(5, 0), (14, (n : Int))])).length
    · rw [if_pos hb] at t2 ⊢
      refine ⟨?_, .inl ⟨t2, rfl⟩⟩
      intro q hq
      rcases h with ⟨_, h⟩ | ⟨ts', h1, f, h2⟩
      · rw [h] at hq; cases hq
      · rw [t1] at h1
        split at h1
        · cases h1
        · cases h1
          rcases hJ with rfl | rfl
          · rw [List.append_nil] at h2
            rw [hq] at h2
            exact q0_li hno f q h2
          · rw [q0_ext hno (.inl rfl)] at h2
            rw [hq] at h2
            unfold mapH at h2
            cases hq0 : q0 ts f with
            | none => rw [hq0] at h2; cases h2
            | some o =>
              rw [hq0] at h2
              simp only [Option.map_some] at h2
              injection h2 with h2
              cases o with
              | none => cases h2
              | some q' => simp [limH] at h2
    · rw [if_neg hb] at t2 ⊢
      rw [if_neg (by omega)] at t1
      rcases h with ⟨h1, _⟩ | ⟨ts', h1, f, h2⟩
      · rw [t1] at h1; cases h1
      · rw [t1] at h1
        cases h1
        rcases hJ with rfl | rfl
        · rw [List.append_nil] at h2
          refine ⟨fun q hq => by rw [hq] at h2; exact q0_li hno f q h2, .inr ⟨_, t2, f, ?_⟩⟩
          rw [List.nil_append, q0_ext hno (.inr (.inl ⟨_, rfl⟩)), h2]
          cases r with
          | none => rfl
          | some q => simp [mapH, limH, setLi, nu]
        · rw [q0_ext hno (.inl rfl)] at h2
          cases hq0 : q0 ts f with
          | none => rw [hq0] at h2; cases h2
          | some o =>
            rw [hq0] at h2
            have hr : r = none := by
              unfold mapH at h2
              simp only [Option.map_some] at h2
              injection h2 with h2
              rw [← h2]
              cases o with
              | none => rfl
              | some q' => simp [limH]
            subst hr
            refine ⟨(fun q h => by cases h), .inr ⟨_, t2, f, ?_⟩⟩
            have e : ts ++ ([(5, 0)] ++ [(5, 0), (14, (n : Int))]) = ts ++ (5, 0) :: [(5, 0), (14, (n : Int))] := rfl
            rw [e, q0_ext hno (.inr (.inr ⟨_, _, rfl⟩)), hq0]
            cases o with
            | none => rfl
            | some q' => simp [mapH, limH]
end Go.Proofs.YbyabwGreat
