/- Plain: the tokens of DepthText's texts. No Go here. -/
import Derived.Test.YbyabwGreatDepP1
import Derived.Test.YbyabwGreatDep1
namespace Go.Proofs.YbyabwGreat
open Go.RowKit
set_option linter.unusedVariables false

/-- The tokenizer runs from i to j and gives o. -/
def Rn (s : ByteArray) (i j : Nat) (o : List (Int × Int)) : Prop := ∀ f out, s.size - i ≤ f → ∃ f', T s f i out = T s f' j (out ++ o) ∧ s.size - j ≤ f'
theorem Rn.refl (s : ByteArray) (i : Nat) : Rn s i i [] := fun f out h => ⟨f, by rw [List.append_nil], h⟩
theorem Rn.trans {s : ByteArray} {i j k : Nat} {o p : List (Int × Int)} (h : Rn s i j o) (h' : Rn s j k p) : Rn s i k (o ++ p) := fun f out hf => by
  obtain ⟨f1, e1, g1⟩ := h f out hf
  obtain ⟨f2, e2, g2⟩ := h' f1 (out ++ o) g1
  exact ⟨f2, by rw [e1, e2, List.append_assoc], g2⟩
theorem Rn.step {s : ByteArray} {i j : Nat} {o : List (Int × Int)} (h0 : i < s.size) (h1 : i < j) (h : Go.Proofs.YbyabwGreat.step s i = some (j, o)) : Rn s i j o := fun f out hf => T_some h0 hf h1 h

/-- The bytes w stand in s at i; what follows is no byte of a word. -/
structure AtW (s : ByteArray) (i : Nat) (w : List UInt8) : Prop where
  b : ∀ k, k < w.length → tb s (i + k) = ((w[k]?.getD 0).toNat : Int)
  le : i + w.length ≤ s.size
  ex : s.extract i (i + w.length) = tx w
  nwc : ¬ (i + w.length < s.size ∧ wc (tb s (i + w.length)) = true)
def Brk (rest : List UInt8) : Prop := ∀ b r, rest = b :: r → wc (b.toNat : Int) = false
theorem AtW.of (pre w rest : List UInt8) (hr : Brk rest) : AtW (tx (pre ++ w ++ rest)) pre.length w := by
  refine ⟨fun k hk => ?_, ?_, ?_, ?_⟩
  · rw [tx_tb, List.getElem?_append_left (by simp; omega), List.getElem?_append_right (by omega)]
    simp
  · rw [tx_size]; simp
  · rw [tx_extract]
    congr 1
    rw [← List.length_append, List.take_left]
    simp
  · rintro ⟨h, h2⟩
    rw [tx_tb, ← List.length_append, List.getElem?_append_right (by omega)] at h2
    rw [tx_size] at h
    simp only [Nat.sub_self] at h2
    cases rest with
    | nil => simp at h
    | cons b r =>
      have := hr b r rfl
      simp at h2
      rw [this] at h2
      cases h2
theorem AtW.word {s : ByteArray} {i : Nat} {b : UInt8} {w : List UInt8} (h : AtW s i (b :: w)) (hL : isL (b.toNat : Int) = true) (hw : ∀ c ∈ b :: w, wc (c.toNat : Int) = true) (t : Int × Int) (ht : Go.Proofs.YbyabwGreat.word (tx (b :: w)) = some t) :
    step s i = some (i + (b :: w).length, [t]) := by
  have hl := h.le
  have h0 : tb s i = (b.toNat : Int) := by have := h.b 0 (by simp); simpa using this
  have e : wE s s.size i = i + (b :: w).length := wE_run s _ i s.size (fun k hk => by
    rw [h.b k hk, List.getElem?_eq_getElem hk]
    exact hw _ (List.getElem_mem hk)) h.le h.nwc (by omega)
  rw [step_word (by rw [h0]; exact hL), e, h.ex, ht]
theorem AtW.num {s : ByteArray} {i : Nat} (n : Nat) (h : AtW s i (itoa n)) (hn : (n : Int) ≤ 9223372036854775807) : step s i = some (i + (itoa n).length, [(14, (n : Int))]) := by
  have hl := h.le
  have h0 := itoa_ne n
  have hd := itoa_dig n
  have e0 : isD (tb s i) = true := by
    have := h.b 0 h0
    rw [Nat.add_zero] at this
    rw [this, List.getElem?_eq_getElem h0]
    have := hd _ (List.getElem_mem h0)
    simp [isD]
    omega
  rw [step_num e0, nm_run s (itoa n) i s.size 0 h.b hd h.le (fun hh => h.nwc ⟨hh.1, isD_wc hh.2⟩) (by omega) (by rw [itoa_val]; exact hn) (by omega), itoa_val]
  simp only [numTok]
  rw [if_neg]
  rintro ⟨h1, h2⟩
  refine h.nwc ⟨h1, ?_⟩
  unfold wc
  simp only [Bool.or_eq_true] at h2 ⊢
  rcases h2 with h2 | h2
  · exact .inl (.inl h2)
  · exact .inr h2
theorem AtW.leaf {s : ByteArray} {i : Nat} {t : Int × Int} (ht : IsLeaf t) (h : AtW s i (ttext t)) : step s i = some (i + (ttext t).length, [t]) := by
  obtain ⟨k, n⟩ := t
  obtain ⟨⟨h1, h2, h13, h14, h0⟩, hk⟩ := ht
  simp only at h1 h2 h13 h14 h0 hk
  rcases hk with rfl | rfl
  · obtain ⟨a, b⟩ := h13 rfl
    have e : ttext (13, n) = 99 :: itoa n.toNat := rfl
    rw [e] at h ⊢
    refine h.word (by decide) (fun c hc => ?_) _ ?_
    · rcases List.mem_cons.1 hc with rfl | hc
      · decide
      · exact itoa_wc _ c hc
    · rw [word_col n.toNat (by omega)]
      congr 2
      omega
  · obtain ⟨a, b⟩ := h14 rfl
    have e : ttext (14, n) = itoa n.toNat := rfl
    rw [e] at h ⊢
    rw [h.num n.toNat (by omega)]
    congr 4
    omega
theorem tb_at0 (pre rest : List UInt8) (b : UInt8) : tb (tx (pre ++ b :: rest)) pre.length = (b.toNat : Int) := by
  rw [tx_tb, List.getElem?_append_right (by omega)]
  simp
theorem pos_lt (pre rest : List UInt8) (b : UInt8) : pre.length < (tx (pre ++ b :: rest)).size := by rw [tx_size]; simp
/-- A sign of one byte. -/
theorem Rn.sign (pre rest : List UInt8) (b : UInt8) (k : Int) (h1 : isS (b.toNat : Int) = false) (h2 : isL (b.toNat : Int) = false) (h3 : isD (b.toNat : Int) = false) (hp : ∀ nb, pun (b.toNat : Int) nb = (k, 1)) (hk : k ≠ 0) :
    Rn (tx (pre ++ b :: rest)) pre.length (pre.length + 1) [(k, 0)] := by
  refine Rn.step (pos_lt _ _ _) (by omega) ?_
  have e := tb_at0 pre rest b
  rw [step_pun (by rw [e]; exact h1) (by rw [e]; exact h2) (by rw [e]; exact h3), e, hp]
  simp [hk]
theorem Rn.space (pre rest : List UInt8) : Rn (tx (pre ++ 32 :: rest)) pre.length (pre.length + 1) [] :=
  Rn.step (pos_lt _ _ _) (by omega) (step_space (by rw [tb_at0]; decide))
theorem Rn.lp (pre rest : List UInt8) : Rn (tx (pre ++ 40 :: rest)) pre.length (pre.length + 1) [(15, 0)] := Rn.sign pre rest 40 15 (by decide) (by decide) (by decide) (fun nb => rfl) (by decide)
theorem Rn.rp (pre rest : List UInt8) : Rn (tx (pre ++ 41 :: rest)) pre.length (pre.length + 1) [(16, 0)] := Rn.sign pre rest 41 16 (by decide) (by decide) (by decide) (fun nb => rfl) (by decide)
theorem Rn.neg (pre rest : List UInt8) : Rn (tx (pre ++ 45 :: rest)) pre.length (pre.length + 1) [(20, 0)] := Rn.sign pre rest 45 20 (by decide) (by decide) (by decide) (fun nb => rfl) (by decide)
theorem Rn.op3 (pre rest : List UInt8) {o : Int × Int} (ho : IsOp3 o) : Rn (tx (pre ++ ttext o ++ rest)) pre.length (pre.length + (ttext o).length) [o] := by
  rcases ho with rfl | rfl | rfl
  · have := Rn.sign pre rest 43 19 (by decide) (by decide) (by decide) (fun nb => rfl) (by decide)
    rw [List.append_assoc]; exact this
  · have := Rn.neg pre rest
    rw [List.append_assoc]; exact this
  · have := Rn.sign pre rest 42 18 (by decide) (by decide) (by decide) (fun nb => rfl) (by decide)
    rw [List.append_assoc]; exact this
theorem Rn.leaf (pre rest : List UInt8) (hr : Brk rest) {t : Int × Int} (ht : IsLeaf t) : Rn (tx (pre ++ ttext t ++ rest)) pre.length (pre.length + (ttext t).length) [t] := by
  have h := AtW.of pre (ttext t) rest hr
  have hn := ttext_ne t
  have hl := h.le
  exact Rn.step (by omega) (by omega) (h.leaf ht)
theorem Rn.not (pre rest : List UInt8) (hr : Brk rest) : Rn (tx (pre ++ [78, 79, 84] ++ rest)) pre.length (pre.length + 3) [(8, 0)] := by
  have h := AtW.of pre [78, 79, 84] rest hr
  have hl := h.le
  simp only [List.length_cons, List.length_nil] at hl
  refine Rn.step (by omega) (by omega) (h.word (by decide) (fun c hc => by revert c; decide) _ ?_)
  simp only [word, kwOf, tx, ByteArray.toList_mk]
  rfl
theorem Rn.select (pre rest : List UInt8) (hr : Brk rest) : Rn (tx (pre ++ [83, 69, 76, 69, 67, 84] ++ rest)) pre.length (pre.length + 6) [(1, 0)] := by
  have h := AtW.of pre [83, 69, 76, 69, 67, 84] rest hr
  have hl := h.le
  simp only [List.length_cons, List.length_nil] at hl
  refine Rn.step (by omega) (by omega) (h.word (by decide) (fun c hc => by revert c; decide) _ ?_)
  simp only [word, kwOf, tx, ByteArray.toList_mk]
  rfl
end Go.Proofs.YbyabwGreat
