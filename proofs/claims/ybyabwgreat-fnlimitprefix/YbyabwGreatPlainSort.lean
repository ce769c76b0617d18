/- Merging, without Go: what the bottom-up merge sort keeps. Seat-independent. -/
import Derived.Test.YbyabwGreatPlainEnc2
namespace Go.Proofs.YbyabwGreat
set_option linter.unusedVariables false

/-- The places from lo up to hi rise (not strictly). -/
def SegUp (xs : List Int) (lo hi : Nat) : Prop := ∀ p q, lo ≤ p → p < q → q < hi → xs.getD p 0 ≤ xs.getD q 0
/-- v stands at a place from lo up to hi. -/
def In (xs : List Int) (lo hi : Nat) (v : Int) : Prop := ∃ p, lo ≤ p ∧ p < hi ∧ xs.getD p 0 = v

theorem getD_set (xs : List Int) (k : Nat) (x : Int) (hk : k < xs.length) (p : Nat) : (xs.set k x).getD p 0 = if p = k then x else xs.getD p 0 := by
  simp only [List.getD_eq_getElem?_getD, List.getElem?_set]
  by_cases h : k = p
  · subst h; simp [hk]
  · rw [if_neg h, if_neg (fun e => h e.symm)]

/-- The inner loop: S[lo..i) and S[mid..j) are merged into D[lo..k). -/
structure MInv (S D : List Int) (lo mid hi i j k : Nat) : Prop where
  i0 : lo ≤ i
  i1 : i ≤ mid
  j0 : mid ≤ j
  j1 : j ≤ hi
  kk : k + mid = i + j
  up : SegUp D lo k
  le1 : ∀ p, lo ≤ p → p < k → i < mid → D.getD p 0 ≤ S.getD i 0
  le2 : ∀ p, lo ≤ p → p < k → j < hi → D.getD p 0 ≤ S.getD j 0
  mem : ∀ v, In D lo k v ↔ In S lo i v ∨ In S mid j v

theorem MInv.start (S D : List Int) (lo mid hi : Nat) (h1 : lo ≤ mid) (h2 : mid ≤ hi) : MInv S D lo mid hi lo mid lo :=
  ⟨Nat.le_refl _, h1, Nat.le_refl _, h2, by omega, fun p q h1 h2 h3 => by omega, fun p h1 h2 => by omega, fun p h1 h2 => by omega,
    fun v => ⟨fun ⟨p, h1, h2, _⟩ => by omega, fun h => by rcases h with ⟨p, h1, h2, _⟩ | ⟨p, h1, h2, _⟩ <;> omega⟩⟩

theorem In.snoc {S : List Int} {lo i : Nat} (h : lo ≤ i) (v : Int) : In S lo (i + 1) v ↔ In S lo i v ∨ S.getD i 0 = v := by
  constructor
  · rintro ⟨p, h1, h2, h3⟩
    by_cases hp : p = i
    · subst hp; exact .inr h3
    · exact .inl ⟨p, h1, by omega, h3⟩
  · rintro (⟨p, h1, h2, h3⟩ | h3)
    · exact ⟨p, h1, by omega, h3⟩
    · exact ⟨i, h, by omega, h3⟩
theorem In.set {D : List Int} {lo k : Nat} {x : Int} (hk : k < D.length) (h : lo ≤ k) (v : Int) : In (D.set k x) lo (k + 1) v ↔ In D lo k v ∨ x = v := by
  rw [In.snoc h, getD_set D k x hk k, if_pos rfl]
  refine or_congr_left ⟨?_, ?_⟩
  · rintro ⟨p, h1, h2, h3⟩
    rw [getD_set D k x hk, if_neg (by omega)] at h3
    exact ⟨p, h1, h2, h3⟩
  · rintro ⟨p, h1, h2, h3⟩
    exact ⟨p, h1, h2, by rw [getD_set D k x hk, if_neg (by omega)]; exact h3⟩
theorem SegUp.put {D : List Int} {lo k : Nat} {x : Int} (hk : k < D.length) (h : SegUp D lo k) (hle : ∀ p, lo ≤ p → p < k → D.getD p 0 ≤ x) : SegUp (D.set k x) lo (k + 1) := by
  intro p q h1 h2 h3
  rw [getD_set D k x hk, getD_set D k x hk, if_neg (by omega)]
  by_cases hq : q = k
  · rw [if_pos hq]; exact hle p h1 (by omega)
  · rw [if_neg hq]; exact h p q h1 h2 (by omega)

theorem MInv.left {S D : List Int} {lo mid hi i j k : Nat} (h : MInv S D lo mid hi i j k) (hk : k < D.length) (hi' : i < mid) (hS : SegUp S lo mid) (hc : hi ≤ j ∨ S.getD i 0 ≤ S.getD j 0) : MInv S (D.set k (S.getD i 0)) lo mid hi (i + 1) j (k + 1) := by
  have hk0 : lo ≤ k := by have := h.kk; have := h.i0; have := h.j0; omega
  refine ⟨by have := h.i0; omega, by omega, h.j0, h.j1, by have := h.kk; omega, h.up.put hk fun p h1 h2 => h.le1 p h1 h2 hi', ?_, ?_, ?_⟩
  · intro p h1 h2 h3
    rw [getD_set D k _ hk]
    by_cases hp : p = k
    · rw [if_pos hp]; exact hS i (i + 1) h.i0 (by omega) h3
    · rw [if_neg hp]; exact Int.le_trans (h.le1 p h1 (by omega) hi') (hS i (i + 1) h.i0 (by omega) h3)
  · intro p h1 h2 h3
    rw [getD_set D k _ hk]
    by_cases hp : p = k
    · rw [if_pos hp]
      rcases hc with hc | hc
      · omega
      · exact hc
    · rw [if_neg hp]; exact h.le2 p h1 (by omega) h3
  · intro v
    rw [In.set hk hk0, h.mem, In.snoc h.i0, or_right_comm]

theorem MInv.right {S D : List Int} {lo mid hi i j k : Nat} (h : MInv S D lo mid hi i j k) (hk : k < D.length) (hj : j < hi) (hS : SegUp S mid hi) (hc : mid ≤ i ∨ S.getD j 0 ≤ S.getD i 0) : MInv S (D.set k (S.getD j 0)) lo mid hi i (j + 1) (k + 1) := by
  have hk0 : lo ≤ k := by have := h.kk; have := h.i0; have := h.j0; omega
  refine ⟨h.i0, h.i1, by have := h.j0; omega, by omega, by have := h.kk; omega, h.up.put hk fun p h1 h2 => h.le2 p h1 h2 hj, ?_, ?_, ?_⟩
  · intro p h1 h2 h3
    rw [getD_set D k _ hk]
    by_cases hp : p = k
    · rw [if_pos hp]
      rcases hc with hc | hc
      · omega
      · exact hc
    · rw [if_neg hp]; exact h.le1 p h1 (by omega) h3
  · intro p h1 h2 h3
    rw [getD_set D k _ hk]
    by_cases hp : p = k
    · rw [if_pos hp]; exact hS j (j + 1) h.j0 (by omega) h3
    · rw [if_neg hp]; exact Int.le_trans (h.le2 p h1 (by omega) hj) (hS j (j + 1) h.j0 (by omega) h3)
  · intro v
    rw [In.set hk hk0, h.mem, In.snoc h.j0, or_assoc]

/-- All runs of w places rise. -/
def RunsUp (xs : List Int) (w : Nat) : Prop := ∀ b, SegUp xs (b * w) (min (b * w + w) xs.length)

/-- The middle loop, at lo = b * (2 * w). -/
structure PInv (S D : List Int) (w b : Nat) : Prop where
  len : D.length = S.length
  up : ∀ b', b' < b → SegUp D (b' * (2 * w)) (min (b' * (2 * w) + 2 * w) S.length)
  mem : ∀ v, In D 0 (min (b * (2 * w)) S.length) v ↔ In S 0 (min (b * (2 * w)) S.length) v

theorem PInv.start (S D : List Int) (w : Nat) (h : D.length = S.length) : PInv S D w 0 :=
  ⟨h, fun b hb => by omega, fun v => by simp [In]⟩

theorem In.join {S : List Int} {a b c : Nat} (h1 : a ≤ b) (h2 : b ≤ c) (v : Int) : In S a c v ↔ In S a b v ∨ In S b c v := by
  constructor
  · rintro ⟨p, h3, h4, h5⟩
    rcases Nat.lt_or_ge p b with h | h
    · exact .inl ⟨p, h3, h, h5⟩
    · exact .inr ⟨p, h, h4, h5⟩
  · rintro (⟨p, h3, h4, h5⟩ | ⟨p, h3, h4, h5⟩)
    · exact ⟨p, h3, by omega, h5⟩
    · exact ⟨p, by omega, h4, h5⟩

theorem PInv.step {S D D' : List Int} {w b lo mid hi : Nat} (h : PInv S D w b) (hlo : lo = b * (2 * w)) (hn : lo < S.length) (hmid : mid = min (lo + w) S.length) (hhi : hi = min (lo + 2 * w) S.length) (hl : D'.length = D.length)
    (hold : ∀ p, p < lo → D'.getD p 0 = D.getD p 0) (hm : MInv S D' lo mid hi mid hi hi) : PInv S D' w (b + 1) := by
  have e1 : (b + 1) * (2 * w) = lo + 2 * w := by rw [hlo, Nat.add_mul, Nat.one_mul]
  refine ⟨hl.trans h.len, fun b' hb' => ?_, fun v => ?_⟩
  · rcases Nat.lt_or_ge b' b with hb | hb
    · have hle : b' * (2 * w) + 2 * w ≤ lo := by
        rw [hlo]
        calc b' * (2 * w) + 2 * w = (b' + 1) * (2 * w) := by rw [Nat.add_mul, Nat.one_mul]
          _ ≤ b * (2 * w) := Nat.mul_le_mul_right _ hb
      intro p q h1 h2 h3
      rw [hold p (by omega), hold q (by omega)]
      exact h.up b' hb p q h1 h2 h3
    · obtain rfl : b' = b := by omega
      rw [← hlo, ← hhi]
      exact hm.up
  · have hmem := h.mem v
    rw [e1, ← hhi]
    rw [← hlo, Nat.min_eq_left (by omega)] at hmem
    have hle : lo ≤ hi := by omega
    rw [In.join (Nat.zero_le lo) hle, In.join (S := S) (Nat.zero_le lo) hle, hm.mem v, ← In.join (by omega) (by omega), ← hmem]
    refine or_congr_left ⟨?_, ?_⟩
    · rintro ⟨p, h1, h2, h3⟩
      exact ⟨p, h1, h2, by rw [← hold p h2]; exact h3⟩
    · rintro ⟨p, h1, h2, h3⟩
      exact ⟨p, h1, h2, by rw [hold p h2]; exact h3⟩

theorem PInv.done {S D : List Int} {w b : Nat} (h : PInv S D w b) (hw : 0 < w) (hb : S.length ≤ b * (2 * w)) : RunsUp D (w * 2) ∧ D.length = S.length ∧ ∀ v, In D 0 S.length v ↔ In S 0 S.length v := by
  refine ⟨fun b' => ?_, h.len, fun v => ?_⟩
  · rw [Nat.mul_comm w 2, h.len]
    rcases Nat.lt_or_ge b' b with hb' | hb'
    · exact h.up b' hb'
    · have : b * (2 * w) ≤ b' * (2 * w) := Nat.mul_le_mul_right _ hb'
      intro p q h1 h2 h3
      omega
  · have := h.mem v
    rwa [Nat.min_eq_right hb] at this

/-- The outer loop. -/
structure SInv (xs S : List Int) (w : Nat) : Prop where
  len : S.length = xs.length
  runs : RunsUp S w
  mem : ∀ v, In S 0 S.length v ↔ In xs 0 xs.length v
theorem SInv.start (xs : List Int) : SInv xs xs 1 := ⟨rfl, fun b p q h1 h2 h3 => by omega, fun v => Iff.rfl⟩
theorem SInv.next {xs S D : List Int} {w b : Nat} (h : SInv xs S w) (hp : PInv S D w b) (hw : 0 < w) (hb : S.length ≤ b * (2 * w)) : SInv xs D (w * 2) := by
  obtain ⟨h1, h2, h3⟩ := hp.done hw hb
  exact ⟨h2.trans h.len, h1, fun v => by rw [h2, h3, h.mem]⟩
theorem SInv.segs {xs S : List Int} {w b lo mid hi : Nat} (h : SInv xs S w) (hlo : lo = b * (2 * w)) (hmid : mid = min (lo + w) S.length) (hhi : hi = min (lo + 2 * w) S.length) : SegUp S lo mid ∧ SegUp S mid hi := by
  have e1 : (2 * b) * w = lo := by rw [hlo, Nat.mul_comm 2 b, Nat.mul_assoc]
  have h1 := h.runs (2 * b)
  have h2 := h.runs (2 * b + 1)
  rw [Nat.add_mul, Nat.one_mul, e1] at h2
  rw [e1] at h1
  refine ⟨by rw [hmid]; exact h1, fun p q k1 k2 k3 => h2 p q ?_ k2 ?_⟩ <;> omega
/-- In the end the whole row rises, and holds the numbers that came in. -/
structure SortedOf (xs S : List Int) : Prop where
  len : S.length = xs.length
  up : SegUp S 0 S.length
  mem : ∀ v, v ∈ S ↔ v ∈ xs
theorem in_mem (xs : List Int) (v : Int) : In xs 0 xs.length v ↔ v ∈ xs := by
  constructor
  · rintro ⟨p, _, h2, rfl⟩; exact mem_of_getD h2
  · intro h
    obtain ⟨m, h1, h2⟩ := exists_at h
    exact ⟨m, Nat.zero_le _, h1, h2⟩
theorem SInv.sorted {xs S : List Int} {w : Nat} (h : SInv xs S w) (hw : S.length ≤ w) : SortedOf xs S := by
  refine ⟨h.len, ?_, fun v => ?_⟩
  · have := h.runs 0
    rw [Nat.zero_mul, Nat.zero_add, Nat.min_eq_right hw] at this
    exact this
  · rw [← in_mem, ← in_mem, h.mem]

/-! ### the sorted row without its doubles is the dictionary -/
/-- The first k places without doubles. -/
def dedupTo (S : List Int) : Nat → List Int
  | 0 => []
  | k + 1 => if k = 0 ∨ S.getD k 0 ≠ S.getD (k - 1) 0 then dedupTo S k ++ [S.getD k 0] else dedupTo S k
theorem dedupTo_len (S : List Int) : ∀ k, (dedupTo S k).length ≤ k
  | 0 => by simp [dedupTo]
  | k + 1 => by
    have := dedupTo_len S k
    unfold dedupTo
    split
    · simp; omega
    · omega
theorem dedupTo_mem (S : List Int) : ∀ k v, v ∈ dedupTo S k ↔ In S 0 k v
  | 0, v => by simp [dedupTo, In]
  | k + 1, v => by
    have ih := dedupTo_mem S k
    rw [In.snoc (Nat.zero_le k), ← ih v]
    show v ∈ (if k = 0 ∨ S.getD k 0 ≠ S.getD (k - 1) 0 then dedupTo S k ++ [S.getD k 0] else dedupTo S k) ↔ _
    split
    · rw [List.mem_append, List.mem_singleton, eq_comm (a := v)]
    · rename_i h
      simp only [not_or, Decidable.not_not] at h
      refine ⟨.inl, fun hh => ?_⟩
      rcases hh with hh | rfl
      · exact hh
      · rw [ih, h.2]
        exact ⟨k - 1, Nat.zero_le _, by omega, rfl⟩
theorem up_snoc : ∀ {d : List Int} {v : Int}, Up d → (∀ x ∈ d, x < v) → Up (d ++ [v]) := by
  intro d v h hv
  unfold Up at *
  rw [List.pairwise_append]
  exact ⟨h, by simp, fun a ha b hb => by simp at hb; subst hb; exact hv a ha⟩
theorem dedupTo_up {S : List Int} (h : SegUp S 0 S.length) : ∀ k, k ≤ S.length → Up (dedupTo S k)
  | 0, _ => by simp [dedupTo, Up]
  | k + 1, hk => by
    unfold dedupTo
    split
    · rename_i hc
      refine up_snoc (dedupTo_up h k (by omega)) fun x hx => ?_
      obtain ⟨p, _, hp, rfl⟩ := (dedupTo_mem S k x).1 hx
      rcases hc with rfl | hc
      · omega
      · have h1 : S.getD (k - 1) 0 ≤ S.getD k 0 := h (k - 1) k (by omega) (by omega) (by omega)
        by_cases hp2 : p = k - 1
        · subst hp2; omega
        · have := h p (k - 1) (by omega) (by omega) (by omega)
          omega
    · exact dedupTo_up h k (by omega)
theorem dedup_dict {xs S : List Int} (h : SortedOf xs S) : dedupTo S S.length = dictOf xs := by
  obtain ⟨h1, h2⟩ := dictOf_spec xs
  refine up_unique (dedupTo_up h.up _ (Nat.le_refl _)) h1 fun v => ?_
  rw [dedupTo_mem, in_mem, h.mem, h2]
end Go.Proofs.YbyabwGreat
