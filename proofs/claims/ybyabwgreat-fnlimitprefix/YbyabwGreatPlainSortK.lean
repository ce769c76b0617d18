/- Merging by a relation, without Go. -/
import Derived.Test.YbyabwGreatPlainSort
namespace Go.Proofs.YbyabwGreat.KS
set_option linter.unusedVariables false

/-- The places from lo up to hi rise (not strictly). -/
def SegUp (R : Int → Int → Prop) (xs : List Int) (lo hi : Nat) : Prop := ∀ p q, lo ≤ p → p < q → q < hi → R (xs.getD p 0) (xs.getD q 0)
/-- The inner loop: S[lo..i) and S[mid..j) are merged into D[lo..k). -/
structure MInv (R : Int → Int → Prop) (S D : List Int) (lo mid hi i j k : Nat) : Prop where
  i0 : lo ≤ i
  i1 : i ≤ mid
  j0 : mid ≤ j
  j1 : j ≤ hi
  kk : k + mid = i + j
  up : SegUp R D lo k
  le1 : ∀ p, lo ≤ p → p < k → i < mid → R (D.getD p 0) (S.getD i 0)
  le2 : ∀ p, lo ≤ p → p < k → j < hi → R (D.getD p 0) (S.getD j 0)
  mem : ∀ v, In D lo k v ↔ In S lo i v ∨ In S mid j v

theorem MInv.start {R : Int → Int → Prop} (S D : List Int) (lo mid hi : Nat) (h1 : lo ≤ mid) (h2 : mid ≤ hi) : MInv R S D lo mid hi lo mid lo :=
  ⟨Nat.le_refl _, h1, Nat.le_refl _, h2, by omega, fun p q h1 h2 h3 => by omega, fun p h1 h2 => by omega, fun p h1 h2 => by omega,
    fun v => ⟨fun ⟨p, h1, h2, _⟩ => by omega, fun h => by rcases h with ⟨p, h1, h2, _⟩ | ⟨p, h1, h2, _⟩ <;> omega⟩⟩

theorem SegUp.put {R : Int → Int → Prop} {D : List Int} {lo k : Nat} {x : Int} (hk : k < D.length) (h : SegUp R D lo k) (hle : ∀ p, lo ≤ p → p < k → R (D.getD p 0) x) : SegUp R (D.set k x) lo (k + 1) := by
  intro p q h1 h2 h3
  rw [getD_set D k x hk, getD_set D k x hk, if_neg (by omega)]
  by_cases hq : q = k
  · rw [if_pos hq]; exact hle p h1 (by omega)
  · rw [if_neg hq]; exact h p q h1 h2 (by omega)

theorem MInv.left {R : Int → Int → Prop} (htr : ∀ a b c, R a b → R b c → R a c) {S D : List Int} {lo mid hi i j k : Nat} (h : MInv R S D lo mid hi i j k) (hk : k < D.length) (hi' : i < mid) (hS : SegUp R S lo mid) (hc : hi ≤ j ∨ R (S.getD i 0) (S.getD j 0)) : MInv R S (D.set k (S.getD i 0)) lo mid hi (i + 1) j (k + 1) := by
  have hk0 : lo ≤ k := by have := h.kk; have := h.i0; have := h.j0; omega
  refine ⟨by have := h.i0; omega, by omega, h.j0, h.j1, by have := h.kk; omega, h.up.put hk fun p h1 h2 => h.le1 p h1 h2 hi', ?_, ?_, ?_⟩
  · intro p h1 h2 h3
    rw [getD_set D k _ hk]
    by_cases hp : p = k
    · rw [if_pos hp]; exact hS i (i + 1) h.i0 (by omega) h3
    · rw [if_neg hp]; exact htr _ _ _ (h.le1 p h1 (by omega) hi') (hS i (i + 1) h.i0 (by omega) h3)
  · intro p h1 h2 h3
    rw [getD_set D k _ hk]
    by_cases hp : p = k
    · rw [if_pos hp]
      rcases hc with hc | hc
      · omega
      · exact hc
    · rw [if_neg hp]; exact h.le2 p h1 (by omega) h3
  · intro v
    rw [In.set hk hk0, h.mem, In.snoc h.i0, or_right_comm]

theorem MInv.right {R : Int → Int → Prop} (htr : ∀ a b c, R a b → R b c → R a c) {S D : List Int} {lo mid hi i j k : Nat} (h : MInv R S D lo mid hi i j k) (hk : k < D.length) (hj : j < hi) (hS : SegUp R S mid hi) (hc : mid ≤ i ∨ R (S.getD j 0) (S.getD i 0)) : MInv R S (D.set k (S.getD j 0)) lo mid hi i (j + 1) (k + 1) := by
  have hk0 : lo ≤ k := by have := h.kk; have := h.i0; have := h.j0; omega
  refine ⟨h.i0, h.i1, by have := h.j0; omega, by omega, by have := h.kk; omega, h.up.put hk fun p h1 h2 => h.le2 p h1 h2 hj, ?_, ?_, ?_⟩
  · intro p h1 h2 h3
    rw [getD_set D k _ hk]
    by_cases hp : p = k
    · rw [if_pos hp]
      rcases hc with hc | hc
      · omega
      · exact hc
    · rw [if_neg hp]; exact h.le1 p h1 (by omega) h3
  · intro p h1 h2 h3
    rw [getD_set D k _ hk]
    by_cases hp : p = k
    · rw [if_pos hp]; exact hS j (j + 1) h.j0 (by omega) h3
    · rw [if_neg hp]; exact htr _ _ _ (h.le2 p h1 (by omega) hj) (hS j (j + 1) h.j0 (by omega) h3)
  · intro v
    rw [In.set hk hk0, h.mem, In.snoc h.j0, or_assoc]

/-- All runs of w places rise. -/
def RunsUp (R : Int → Int → Prop) (xs : List Int) (w : Nat) : Prop := ∀ b, SegUp R xs (b * w) (min (b * w + w) xs.length)

/-- The middle loop, at lo = b * (2 * w). -/
structure PInv (R : Int → Int → Prop) (S D : List Int) (w b : Nat) : Prop where
  len : D.length = S.length
  up : ∀ b', b' < b → SegUp R D (b' * (2 * w)) (min (b' * (2 * w) + 2 * w) S.length)
  mem : ∀ v, In D 0 (min (b * (2 * w)) S.length) v ↔ In S 0 (min (b * (2 * w)) S.length) v

theorem PInv.start {R : Int → Int → Prop} (S D : List Int) (w : Nat) (h : D.length = S.length) : PInv R S D w 0 :=
  ⟨h, fun b hb => by omega, fun v => by simp [In]⟩

theorem PInv.step {R : Int → Int → Prop} {S D D' : List Int} {w b lo mid hi : Nat} (h : PInv R S D w b) (hlo : lo = b * (2 * w)) (hn : lo < S.length) (hmid : mid = min (lo + w) S.length) (hhi : hi = min (lo + 2 * w) S.length) (hl : D'.length = D.length)
    (hold : ∀ p, p < lo → D'.getD p 0 = D.getD p 0) (hm : MInv R S D' lo mid hi mid hi hi) : PInv R S D' w (b + 1) := by
  have e1 : (b + 1) * (2 * w) = lo + 2 * w := by rw [hlo, Nat.add_mul, Nat.one_mul]
  refine ⟨hl.trans h.len, fun b' hb' => ?_, fun v => ?_⟩
  · rcases Nat.lt_or_ge b' b with hb | hb
    · have hle : b' * (2 * w) + 2 * w ≤ lo := by
        rw [hlo]
        calc b' * (2 * w) + 2 * w = (b' + 1) * (2 * w) := by rw [Nat.add_mul, Nat.one_mul]
          _ ≤ b * (2 * w) := Nat.mul_le_mul_right _ hb
      intro p q h1 h2 h3
      rw [hold p (by omega), hold q (by omega)]
      exact h.up b' hb p q h1 h2 h3
    · obtain rfl : b' = b := by omega
      rw [← hlo, ← hhi]
      exact hm.up
  · have hmem := h.mem v
    rw [e1, ← hhi]
    rw [← hlo, Nat.min_eq_left (by omega)] at hmem
    have hle : lo ≤ hi := by omega
    rw [In.join (Nat.zero_le lo) hle, In.join (S := S) (Nat.zero_le lo) hle, hm.mem v, ← In.join (by omega) (by omega), ← hmem]
    refine or_congr_left ⟨?_, ?_⟩
    · rintro ⟨p, h1, h2, h3⟩
      exact ⟨p, h1, h2, by rw [← hold p h2]; exact h3⟩
    · rintro ⟨p, h1, h2, h3⟩
      exact ⟨p, h1, h2, by rw [hold p h2]; exact h3⟩

theorem PInv.done {R : Int → Int → Prop} {S D : List Int} {w b : Nat} (h : PInv R S D w b) (hw : 0 < w) (hb : S.length ≤ b * (2 * w)) : RunsUp R D (w * 2) ∧ D.length = S.length ∧ ∀ v, In D 0 S.length v ↔ In S 0 S.length v := by
  refine ⟨fun b' => ?_, h.len, fun v => ?_⟩
  · rw [Nat.mul_comm w 2, h.len]
    rcases Nat.lt_or_ge b' b with hb' | hb'
    · exact h.up b' hb'
    · have : b * (2 * w) ≤ b' * (2 * w) := Nat.mul_le_mul_right _ hb'
      intro p q h1 h2 h3
      omega
  · have := h.mem v
    rwa [Nat.min_eq_right hb] at this

/-- The outer loop. -/
structure SInv (R : Int → Int → Prop) (xs S : List Int) (w : Nat) : Prop where
  len : S.length = xs.length
  runs : RunsUp R S w
  mem : ∀ v, In S 0 S.length v ↔ In xs 0 xs.length v
theorem SInv.start {R : Int → Int → Prop} (xs : List Int) : SInv R xs xs 1 := ⟨rfl, fun b p q h1 h2 h3 => by omega, fun v => Iff.rfl⟩
theorem SInv.next {R : Int → Int → Prop} {xs S D : List Int} {w b : Nat} (h : SInv R xs S w) (hp : PInv R S D w b) (hw : 0 < w) (hb : S.length ≤ b * (2 * w)) : SInv R xs D (w * 2) := by
  obtain ⟨h1, h2, h3⟩ := hp.done hw hb
  exact ⟨h2.trans h.len, h1, fun v => by rw [h2, h3, h.mem]⟩
theorem SInv.segs {R : Int → Int → Prop} {xs S : List Int} {w b lo mid hi : Nat} (h : SInv R xs S w) (hlo : lo = b * (2 * w)) (hmid : mid = min (lo + w) S.length) (hhi : hi = min (lo + 2 * w) S.length) : SegUp R S lo mid ∧ SegUp R S mid hi := by
  have e1 : (2 * b) * w = lo := by rw [hlo, Nat.mul_comm 2 b, Nat.mul_assoc]
  have h1 := h.runs (2 * b)
  have h2 := h.runs (2 * b + 1)
  rw [Nat.add_mul, Nat.one_mul, e1] at h2
  rw [e1] at h1
  refine ⟨by rw [hmid]; exact h1, fun p q k1 k2 k3 => h2 p q ?_ k2 ?_⟩ <;> omega
/-- In the end the whole row rises, and holds the numbers that came in. -/
structure SortedOf (R : Int → Int → Prop) (xs S : List Int) : Prop where
  len : S.length = xs.length
  up : SegUp R S 0 S.length
  mem : ∀ v, v ∈ S ↔ v ∈ xs
theorem SInv.sorted {R : Int → Int → Prop} {xs S : List Int} {w : Nat} (h : SInv R xs S w) (hw : S.length ≤ w) : SortedOf R xs S := by
  refine ⟨h.len, ?_, fun v => ?_⟩
  · have := h.runs 0
    rw [Nat.zero_mul, Nat.zero_add, Nat.min_eq_right hw] at this
    exact this
  · rw [← in_mem, ← in_mem, h.mem]

end Go.Proofs.YbyabwGreat.KS
