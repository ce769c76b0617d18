/- The text of a token, of a list of tokens; reading it again gives the tokens. No Go here. -/
import Derived.Test.YbyabwGreatLexP
import Derived.Laws.Strings
namespace Go.Proofs.YbyabwGreat
open Go.RowKit
set_option linter.unusedVariables false

def tx (l : List UInt8) : ByteArray := ⟨l.toArray⟩
theorem tx_size (l : List UInt8) : (tx l).size = l.length := by simp [tx, ByteArray.size]
theorem tx_tb (l : List UInt8) (i : Nat) : tb (tx l) i = ((l[i]?.getD 0).toNat : Int) := by simp [tb, tx]
theorem tx_extract (l : List UInt8) (i j : Nat) : (tx l).extract i j = tx ((l.take j).drop i) := by
  apply ByteArray.ext
  simp [tx, ByteArray.data_extract, List.drop_take]
theorem tx_append (l m : List UInt8) : tx l ++ tx m = tx (l ++ m) := by
  apply ByteArray.ext
  simp [tx]

/-- A number's decimal digits, the greatest first; none for zero. -/
def ndigF : Nat → Nat → List UInt8
  | 0, _ => []
  | f + 1, u => if u = 0 then [] else ndigF f (u / 10) ++ [UInt8.ofNat (48 + u % 10)]
theorem ndigF_eq : ∀ (f g u : Nat), u ≤ f → u ≤ g → ndigF f u = ndigF g u := by
  intro f
  induction f with
  | zero =>
    intro g u h1 h2
    obtain rfl : u = 0 := by omega
    cases g <;> simp [ndigF]
  | succ f ih =>
    intro g u h1 h2
    cases g with
    | zero =>
      obtain rfl : u = 0 := by omega
      simp [ndigF]
    | succ g =>
      simp only [ndigF]
      split
      · rfl
      · rw [ih g (u / 10) (by omega) (by omega)]
def ndig (u : Nat) : List UInt8 := ndigF u u
theorem ndig_zero : ndig 0 = [] := rfl
theorem ndig_pos (u : Nat) (h : u ≠ 0) : ndig u = ndig (u / 10) ++ [UInt8.ofNat (48 + u % 10)] := by
  unfold ndig
  cases u with
  | zero => exact absurd rfl h
  | succ n =>
    rw [ndigF, if_neg h, ndigF_eq n ((n + 1) / 10) ((n + 1) / 10) (by omega) (by omega)]
def itoa (u : Nat) : List UInt8 := if u = 0 then [48] else ndig u
theorem dig_toNat (u : Nat) : (UInt8.ofNat (48 + u % 10)).toNat = 48 + u % 10 := by
  rw [UInt8.toNat_ofNat']
  omega
theorem ndig_len (k : Nat) : ∀ u, u < 10 ^ k → (ndig u).length ≤ k := by
  induction k with
  | zero => intro u hu; have : u = 0 := by simpa using hu
            subst this; simp [ndig_zero]
  | succ k ih =>
    intro u hu
    by_cases h0 : u = 0
    · subst h0; simp [ndig_zero]
    · rw [ndig_pos u h0]
      have := ih (u / 10) (by rw [Nat.pow_succ] at hu; omega)
      simp; omega
theorem ndig_ne (u : Nat) (h : u ≠ 0) : ndig u ≠ [] := by rw [ndig_pos u h]; simp
theorem ndig_dig (u : Nat) : ∀ b ∈ ndig u, 48 ≤ b.toNat ∧ b.toNat ≤ 57 := by
  induction u using Nat.strongRecOn with
  | ind u ih =>
    by_cases h0 : u = 0
    · subst h0; simp [ndig_zero]
    · rw [ndig_pos u h0]
      intro b hb
      rcases List.mem_append.1 hb with hb | hb
      · exact ih (u / 10) (by omega) b hb
      · have h1 := dig_toNat u
        have h2 : b = UInt8.ofNat (48 + u % 10) := by simpa using hb
        rw [h2, h1]
        omega
theorem ndig_head (u : Nat) : u ≠ 0 → ((ndig u)[0]?.getD 0).toNat ≠ 48 := by
  induction u using Nat.strongRecOn with
  | ind u ih =>
    intro h0
    rw [ndig_pos u h0]
    by_cases h1 : u / 10 = 0
    · rw [h1, ndig_zero]
      have := dig_toNat u
      simp at this ⊢
      omega
    · have hne := ndig_ne (u / 10) h1
      have hl : 0 < (ndig (u / 10)).length := List.length_pos_iff.2 hne
      rw [List.getElem?_append_left hl]
      exact ih (u / 10) (by omega) h1
def fv (v : Int) (l : List UInt8) : Int := l.foldl (fun v b => v * 10 + ((b.toNat : Int) - 48)) v
theorem fv_append (v : Int) (l m : List UInt8) : fv v (l ++ m) = fv (fv v l) m := by simp [fv, List.foldl_append]
theorem fv_cons (v : Int) (b : UInt8) (l : List UInt8) : fv v (b :: l) = fv (v * 10 + ((b.toNat : Int) - 48)) l := rfl
theorem fv_ge (l : List UInt8) : ∀ v, 0 ≤ v → (∀ b ∈ l, 48 ≤ b.toNat ∧ b.toNat ≤ 57) → v ≤ fv v l := by
  induction l with
  | nil => intro v _ _; exact Int.le_refl _
  | cons b l ih =>
    intro v h0 hd
    have hb := hd b (by simp)
    rw [fv_cons]
    have := ih (v * 10 + ((b.toNat : Int) - 48)) (by omega) (fun c hc => hd c (by simp [hc]))
    omega
theorem ndig_val (u : Nat) : fv 0 (ndig u) = u := by
  induction u using Nat.strongRecOn with
  | ind u ih =>
    by_cases h0 : u = 0
    · subst h0; simp [ndig_zero, fv]
    · rw [ndig_pos u h0, fv_append, ih (u / 10) (by omega)]
      have := dig_toNat u
      rw [fv_cons, this]
      simp only [fv, List.foldl_nil]
      omega
theorem itoa_dig (u : Nat) : ∀ b ∈ itoa u, 48 ≤ b.toNat ∧ b.toNat ≤ 57 := by
  unfold itoa
  split
  · intro b hb; simp at hb; subst hb; decide
  · exact ndig_dig u
theorem itoa_val (u : Nat) : fv 0 (itoa u) = u := by
  unfold itoa
  split
  · rename_i h; subst h; rfl
  · exact ndig_val u
theorem itoa_ne (u : Nat) : 0 < (itoa u).length := by
  unfold itoa
  split
  · simp
  · exact List.length_pos_iff.2 (ndig_ne u (by assumption))
theorem itoa_len (k u : Nat) (hk : 1 ≤ k) (h : u < 10 ^ k) : (itoa u).length ≤ k := by
  unfold itoa
  split
  · simpa using hk
  · exact ndig_len k u h
theorem itoa_lead (u : Nat) : ¬ (1 < (itoa u).length ∧ ((itoa u)[0]?.getD 0).toNat = 48) := by
  unfold itoa
  split
  · simp
  · rintro ⟨_, h⟩
    exact ndig_head u (by assumption) h

def ttext (t : Int × Int) : List UInt8 :=
  if t.1 = 1 then [83, 69, 76, 69, 67, 84]
  else if t.1 = 2 then [87, 72, 69, 82, 69]
  else if t.1 = 3 then [71, 82, 79, 85, 80]
  else if t.1 = 4 then [66, 89]
  else if t.1 = 5 then [76, 73, 77, 73, 84]
  else if t.1 = 6 then [65, 78, 68]
  else if t.1 = 7 then [79, 82]
  else if t.1 = 8 then [78, 79, 84]
  else if t.1 = 9 then [83, 85, 77]
  else if t.1 = 10 then [77, 73, 78]
  else if t.1 = 11 then [77, 65, 88]
  else if t.1 = 12 then [67, 79, 85, 78, 84]
  else if t.1 = 13 then 99 :: itoa t.2.toNat
  else if t.1 = 14 then itoa t.2.toNat
  else if t.1 = 15 then [40]
  else if t.1 = 16 then [41]
  else if t.1 = 17 then [44]
  else if t.1 = 18 then [42]
  else if t.1 = 19 then [43]
  else if t.1 = 20 then [45]
  else if t.1 = 21 then [61]
  else if t.1 = 22 then [60, 62]
  else if t.1 = 23 then [60]
  else if t.1 = 24 then [60, 61]
  else if t.1 = 25 then [62]
  else if t.1 = 26 then [62, 61]
  else [63]
def TokOK (t : Int × Int) : Prop := 1 ≤ t.1 ∧ t.1 ≤ 26 ∧ (t.1 = 13 → 0 ≤ t.2 ∧ t.2 ≤ 65535) ∧ (t.1 = 14 → 0 ≤ t.2 ∧ t.2 ≤ 9223372036854775807) ∧ (t.1 ≠ 13 → t.1 ≠ 14 → t.2 = 0)

def tail (ts : List (Int × Int)) : List UInt8 := ts.flatMap (fun t => 32 :: ttext t)
def render : List (Int × Int) → List UInt8
  | [] => []
  | t :: ts => ttext t ++ tail ts
theorem render_one (t : Int × Int) : render [t] = ttext t := by simp [render, tail]
theorem render_snoc (ts : List (Int × Int)) (t : Int × Int) (h : ts ≠ []) : render (ts ++ [t]) = render ts ++ [32] ++ ttext t := by
  cases ts with
  | nil => exact absurd rfl h
  | cons u us => simp [render, tail, List.flatMap_append]

/-- The bytes w stand in s at i, and then comes the end or a space. -/
structure At (s : ByteArray) (i : Nat) (w : List UInt8) : Prop where
  b : ∀ k, k < w.length → tb s (i + k) = ((w[k]?.getD 0).toNat : Int)
  le : i + w.length ≤ s.size
  ex : s.extract i (i + w.length) = tx w
  nx : i + w.length < s.size → tb s (i + w.length) = 32

theorem At.of (pre w rest : List UInt8) (hr : ∀ b r, rest = b :: r → b = 32) : At (tx (pre ++ w ++ rest)) pre.length w := by
  refine ⟨fun k hk => ?_, ?_, ?_, fun h => ?_⟩
  · rw [tx_tb, List.getElem?_append_left (by simp; omega), List.getElem?_append_right (by omega)]
    simp
  · rw [tx_size]; simp
  · rw [tx_extract]
    congr 1
    rw [← List.length_append, List.take_left]
    simp
  · rw [tx_tb, ← List.length_append, List.getElem?_append_right (by omega)]
    rw [tx_size] at h
    simp only [Nat.sub_self]
    cases rest with
    | nil => simp at h
    | cons b r => rw [hr b r rfl]; rfl

theorem wE_run (s : ByteArray) : ∀ (n i f : Nat), (∀ k, k < n → wc (tb s (i + k)) = true) → i + n ≤ s.size → ¬ (i + n < s.size ∧ wc (tb s (i + n)) = true) → s.size - i ≤ f → wE s f i = i + n := by
  intro n
  induction n with
  | zero => intro i f _ _ h _; exact wE_stop h
  | succ n ih =>
    intro i f hk hle hs hf
    obtain ⟨f', e, hf'⟩ := wE_go (s := s) (f := f) (j := i) ⟨by omega, by have := hk 0 (by omega); simpa using this⟩ hf
    rw [e, ih (i + 1) f' (fun k hk' => by have := hk (k + 1) (by omega); rwa [show i + 1 + k = i + (k + 1) by omega]) (by omega) (by rwa [show i + 1 + n = i + (n + 1) by omega]) hf']
    omega
theorem nm_run (s : ByteArray) : ∀ (l : List UInt8) (i f : Nat) (v : Int), (∀ k, k < l.length → tb s (i + k) = ((l[k]?.getD 0).toNat : Int)) → (∀ b ∈ l, 48 ≤ b.toNat ∧ b.toNat ≤ 57) → i + l.length ≤ s.size →
    ¬ (i + l.length < s.size ∧ isD (tb s (i + l.length)) = true) → 0 ≤ v → fv v l ≤ 9223372036854775807 → s.size - i ≤ f → nm s f i v = some (i + l.length, fv v l) := by
  intro l
  induction l with
  | nil => intro i f v _ _ _ h _ _ _; exact nm_stop h
  | cons b l ih =>
    intro i f v hk hd hle hs hv hm hf
    have hb := hd b (by simp)
    have h0 : tb s i = (b.toNat : Int) := by have := hk 0 (by simp); simpa using this
    have hD : isD (tb s i) = true := by rw [h0]; simp [isD]; omega
    rw [fv_cons] at hm ⊢
    have hg := fv_ge l (v * 10 + ((b.toNat : Int) - 48)) (by omega) (fun c hc => hd c (by simp [hc]))
    simp only [List.length_cons] at hle hs ⊢
    obtain ⟨f', e, hf'⟩ := nm_go (s := s) (f := f) (j := i) (v := v) ⟨by omega, hD⟩ hf (by rw [h0]; omega)
    rw [e, h0, ih (i + 1) f' _ (fun k hk' => by
      have := hk (k + 1) (by simp; omega)
      rw [show i + 1 + k = i + (k + 1) by omega, this]
      simp) (fun c hc => hd c (by simp [hc])) (by omega) (by rwa [show i + 1 + l.length = i + (l.length + 1) by omega]) (by omega) hm hf']
    congr 2
    omega

theorem At.nwc {s : ByteArray} {i : Nat} {w : List UInt8} (h : At s i w) : ¬ (i + w.length < s.size ∧ wc (tb s (i + w.length)) = true) := by
  rintro ⟨h1, h2⟩
  rw [h.nx h1] at h2
  revert h2
  decide
theorem At.nd {s : ByteArray} {i : Nat} {w : List UInt8} (h : At s i w) : ¬ (i + w.length < s.size ∧ isD (tb s (i + w.length)) = true) := by
  rintro ⟨h1, h2⟩
  rw [h.nx h1] at h2
  revert h2
  decide
theorem At.first {s : ByteArray} {i : Nat} {b : UInt8} {w : List UInt8} (h : At s i (b :: w)) : tb s i = (b.toNat : Int) := by
  have := h.b 0 (by simp)
  simpa using this
theorem At.word {s : ByteArray} {i : Nat} {b : UInt8} {w : List UInt8} (h : At s i (b :: w)) (hL : isL (b.toNat : Int) = true) (hw : ∀ c ∈ b :: w, wc (c.toNat : Int) = true) (t : Int × Int) (ht : Go.Proofs.YbyabwGreat.word (tx (b :: w)) = some t) :
    step s i = some (i + (b :: w).length, [t]) := by
  have hl := h.le
  have e : wE s s.size i = i + (b :: w).length := wE_run s _ i s.size (fun k hk => by
    rw [h.b k hk, List.getElem?_eq_getElem hk]
    exact hw _ (List.getElem_mem hk)) h.le h.nwc (by omega)
  rw [step_word (by rw [h.first]; exact hL), e, h.ex, ht]
theorem At.kw {s : ByteArray} {i : Nat} {b : UInt8} {w : List UInt8} (h : At s i (b :: w)) (k : Int) (hL : isL (b.toNat : Int) = true) (hw : (b :: w).all (fun c => wc (c.toNat : Int)) = true) (hk : kwOf (tx (b :: w)) = k) (h0 : k ≠ 0) :
    step s i = some (i + (b :: w).length, [(k, 0)]) := by
  refine h.word hL (fun c hc => List.all_eq_true.1 hw c hc) _ ?_
  simp only [Go.Proofs.YbyabwGreat.word, hk, h0, if_false]
theorem At.p1 {s : ByteArray} {i : Nat} {b : UInt8} (h : At s i [b]) (k : Int) (h1 : isS (b.toNat : Int) = false) (h2 : isL (b.toNat : Int) = false) (h3 : isD (b.toNat : Int) = false) (hp : pun b.toNat 32 = (k, 1)) (hq : pun b.toNat 0 = (k, 1)) (h0 : k ≠ 0) :
    step s i = some (i + [b].length, [(k, 0)]) := by
  have e := h.first
  have hn : pun (tb s i) (nxt s i) = (k, 1) := by
    rw [e]
    unfold nxt
    split
    · rename_i hh
      have := h.nx (by simpa using hh)
      simp only [List.length_singleton] at this
      rw [this, hp]
    · exact hq
  rw [step_pun (by rw [e]; exact h1) (by rw [e]; exact h2) (by rw [e]; exact h3), hn]
  simp [h0]
theorem At.p2 {s : ByteArray} {i : Nat} {b c : UInt8} (h : At s i [b, c]) (k : Int) (h1 : isS (b.toNat : Int) = false) (h2 : isL (b.toNat : Int) = false) (h3 : isD (b.toNat : Int) = false) (hp : pun b.toNat c.toNat = (k, 2)) (h0 : k ≠ 0) :
    step s i = some (i + [b, c].length, [(k, 0)]) := by
  have e := h.first
  have hl := h.le
  simp only [List.length_cons, List.length_nil] at hl
  have hn : pun (tb s i) (nxt s i) = (k, 2) := by
    rw [e]
    unfold nxt
    rw [if_pos (by omega)]
    have := h.b 1 (by simp)
    rw [this]
    exact hp
  rw [step_pun (by rw [e]; exact h1) (by rw [e]; exact h2) (by rw [e]; exact h3), hn]
  simp [h0]

theorem dv_take (l : List UInt8) : ∀ x, x ≤ l.length → dv (tx l) x = fv 0 (l.take x) := by
  intro x
  induction x with
  | zero => intro _; simp [dv, fv]
  | succ x ih =>
    intro hx
    rw [dv, ih (by omega), List.take_succ_eq_append_getElem (by omega), fv_append, tx_tb, List.getElem?_eq_getElem (by omega)]
    rfl
theorem dv_all (l : List UInt8) : dv (tx l) (tx l).size = fv 0 l := by
  rw [tx_size, dv_take l _ (Nat.le_refl _), List.take_length]
theorem itoa_wc (u : Nat) : ∀ b ∈ itoa u, wc (b.toNat : Int) = true := fun b hb => by
  have := itoa_dig u b hb
  exact isD_wc (by simp [isD]; omega)
theorem kw_c (l : List UInt8) : kwOf (tx (99 :: l)) = 0 := by
  have e : (tx (99 :: l)).toList = 99 :: l := ByteArray.toList_mk _
  simp [kwOf, e]
theorem word_col (n : Nat) (h : n ≤ 65535) : word (tx (99 :: itoa n)) = some (13, (n : Int)) := by
  have hl := itoa_len 5 n (by omega) (by omega)
  have hn := itoa_ne n
  have hex : (tx (99 :: itoa n)).extract 1 (tx (99 :: itoa n)).size = tx (itoa n) := by
    rw [tx_extract, tx_size, List.take_length]; rfl
  have hc : colOf (tx (99 :: itoa n)) = some (n : Int) := by
    unfold colOf
    rw [hex]
    rw [if_pos]
    · rw [dv_all, itoa_val]
    · refine ⟨by rw [tx_size]; simp; omega, by rw [tx_size]; simp; omega, by rw [tx_tb]; rfl, fun x hx => ?_, ?_, by rw [dv_all, itoa_val]; omega⟩
      · rw [tx_size] at hx
        rw [tx_tb, List.getElem?_eq_getElem hx]
        have := itoa_dig n _ (List.getElem_mem hx)
        simp [isD]
        omega
      · rw [tx_size, tx_tb]
        rintro ⟨h1, h2⟩
        exact itoa_lead n ⟨h1, by omega⟩
  unfold word
  rw [if_pos (kw_c _), hc]
theorem At.num {s : ByteArray} {i : Nat} (n : Nat) (h : At s i (itoa n)) (hn : (n : Int) ≤ 9223372036854775807) : step s i = some (i + (itoa n).length, [(14, (n : Int))]) := by
  have hl := h.le
  have h0 := itoa_ne n
  have hd := itoa_dig n
  have e0 : isD (tb s i) = true := by
    have := h.b 0 h0
    rw [Nat.add_zero] at this
    rw [this, List.getElem?_eq_getElem h0]
    have := hd _ (List.getElem_mem h0)
    simp [isD]
    omega
  rw [step_num e0, nm_run s (itoa n) i s.size 0 h.b hd h.le h.nd (by omega) (by rw [itoa_val]; exact hn) (by omega), itoa_val]
  simp only [numTok]
  rw [if_neg]
  rintro ⟨h1, h2⟩
  rw [h.nx h1] at h2
  revert h2
  decide

theorem step_tok {s : ByteArray} {i : Nat} {t : Int × Int} (ht : TokOK t) (h : At s i (ttext t)) : step s i = some (i + (ttext t).length, [t]) := by
  obtain ⟨k, n⟩ := t
  obtain ⟨h1, h2, h13, h14, h0⟩ := ht
  simp only at h1 h2 h13 h14 h0
  by_cases e13 : k = 13
  · subst e13
    obtain ⟨a, b⟩ := h13 rfl
    have e : ttext (13, n) = 99 :: itoa n.toNat := rfl
    rw [e] at h ⊢
    refine h.word (by decide) (fun c hc => ?_) _ ?_
    · rcases List.mem_cons.1 hc with rfl | hc
      · decide
      · exact itoa_wc _ c hc
    · rw [word_col n.toNat (by omega)]
      congr 2
      omega
  · by_cases e14 : k = 14
    · subst e14
      obtain ⟨a, b⟩ := h14 rfl
      have e : ttext (14, n) = itoa n.toNat := rfl
      rw [e] at h ⊢
      rw [h.num n.toNat (by omega)]
      congr 4
      omega
    · obtain rfl := h0 e13 e14
      have hk : k = 1 ∨ k = 2 ∨ k = 3 ∨ k = 4 ∨ k = 5 ∨ k = 6 ∨ k = 7 ∨ k = 8 ∨ k = 9 ∨ k = 10 ∨ k = 11 ∨ k = 12 ∨ k = 15 ∨ k = 16 ∨ k = 17 ∨ k = 18 ∨ k = 19 ∨ k = 20 ∨ k = 21 ∨ k = 22 ∨ k = 23 ∨ k = 24 ∨ k = 25 ∨ k = 26 := by omega
      clear h1 h2 h13 h14 h0 e13 e14
      rcases hk with rfl | rfl | rfl | rfl | rfl | rfl | rfl | rfl | rfl | rfl | rfl | rfl | rfl | rfl | rfl | rfl | rfl | rfl | rfl | rfl | rfl | rfl | rfl | rfl
      all_goals first
        | exact At.kw h _ (by decide) (by decide) (by simp only [kwOf, tx, ByteArray.toList_mk]; rfl) (by decide)
        | exact At.p1 h _ (by decide) (by decide) (by decide) (by decide) (by decide) (by decide)
        | exact At.p2 h _ (by decide) (by decide) (by decide) (by decide) (by decide)

theorem ite_len {c : Prop} [Decidable c] {a b : List UInt8} (ha : 0 < a.length) (hb : 0 < b.length) : 0 < (if c then a else b).length := by split <;> assumption
theorem ttext_ne (t : Int × Int) : 0 < (ttext t).length := by
  have := itoa_ne t.2.toNat
  unfold ttext
  generalize itoa t.2.toNat = l at *
  repeat' refine ite_len ?_ ?_
  all_goals first
    | exact this
    | exact Nat.succ_pos _
theorem T_tail (ts : List (Int × Int)) : ∀ (pre : List UInt8) (f : Nat) (out : List (Int × Int)), (∀ t ∈ ts, TokOK t) → (pre ++ tail ts).length - pre.length ≤ f → T (tx (pre ++ tail ts)) f pre.length out = some (out ++ ts) := by
  induction ts with
  | nil =>
    intro pre f out _ _
    rw [T_end (by rw [tx_size]; simp [tail])]
    simp
  | cons t ts ih =>
    intro pre f out hok hf
    have e : tail (t :: ts) = 32 :: (ttext t ++ tail ts) := by simp [tail]
    have hz := ttext_ne t
    have hrest : ∀ b r, tail ts = b :: r → b = 32 := by
      intro b r hbr
      cases ts with
      | nil => simp [tail] at hbr
      | cons u us => simp [tail] at hbr; exact hbr.1.symm
    have hsz : (tx (pre ++ tail (t :: ts))).size = pre.length + 1 + (ttext t).length + (tail ts).length := by rw [tx_size, e]; simp; omega
    have hsp : tb (tx (pre ++ tail (t :: ts))) pre.length = 32 := by
      rw [tx_tb, e, List.getElem?_append_right (by omega)]
      simp
    have hl : (pre ++ tail (t :: ts)).length = pre.length + 1 + (ttext t).length + (tail ts).length := by rw [e]; simp; omega
    obtain ⟨f1, e1, hf1⟩ := T_some (s := tx (pre ++ tail (t :: ts))) (f := f) (i := pre.length) (j := pre.length + 1) (out := out) (o := []) (by omega) (by omega) (by omega) (step_space (by rw [hsp]; decide))
    rw [e1, List.append_nil]
    have hat : At (tx (pre ++ tail (t :: ts))) (pre.length + 1) (ttext t) := by
      have := At.of (pre ++ [32]) (ttext t) (tail ts) hrest
      rw [List.length_append, List.length_singleton] at this
      rw [e]
      simpa using this
    obtain ⟨f2, e2, hf2⟩ := T_some (s := tx (pre ++ tail (t :: ts))) (f := f1) (i := pre.length + 1) (j := pre.length + 1 + (ttext t).length) (out := out) (o := [t]) (by omega) (by omega) (by omega) (step_tok (hok t (by simp)) hat)
    rw [e2]
    have := ih (pre ++ [32] ++ ttext t) f2 (out ++ [t]) (fun u hu => hok u (by simp [hu])) (by
      simp only [List.length_append, List.length_singleton]
      omega)
    have e3 : pre ++ [32] ++ ttext t ++ tail ts = pre ++ tail (t :: ts) := by rw [e]; simp
    have e4 : (pre ++ [32] ++ ttext t).length = pre.length + 1 + (ttext t).length := by simp; omega
    rw [e3, e4] at this
    rw [this]
    simp
theorem tokens_render (ts : List (Int × Int)) (hok : ∀ t ∈ ts, TokOK t) (h : (render ts).length ≤ 65536) : tokens (tx (render ts)) = some ts := by
  unfold tokens
  rw [if_neg (by rw [tx_size]; omega)]
  cases ts with
  | nil => rfl
  | cons t ts =>
    have hz := ttext_ne t
    have hrest : ∀ b r, tail ts = b :: r → b = 32 := by
      intro b r hbr
      cases ts with
      | nil => simp [tail] at hbr
      | cons u us => simp [tail] at hbr; exact hbr.1.symm
    have hat : At (tx (render (t :: ts))) 0 (ttext t) := by
      have := At.of [] (ttext t) (tail ts) hrest
      simpa [render] using this
    have hsz : (tx (render (t :: ts))).size = (ttext t).length + (tail ts).length := by rw [tx_size]; simp [render]
    obtain ⟨f1, e1, hf1⟩ := T_some (s := tx (render (t :: ts))) (f := (tx (render (t :: ts))).size) (i := 0) (j := 0 + (ttext t).length) (out := []) (o := [t]) (by omega) (by omega) (by omega) (step_tok (hok t (by simp)) hat)
    rw [e1]
    have := T_tail ts (ttext t) f1 [t] (fun u hu => hok u (by simp [hu])) (by simp; omega)
    rw [Nat.zero_add]
    exact this
end Go.Proofs.YbyabwGreat
