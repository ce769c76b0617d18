/- Plain laws: insertion into a row. Seat-independent. -/
import Derived.Test.YbyabwGreatPlainEnc
namespace Go.Proofs.YbyabwGreat

/-- d with its place m doubled (0 beyond the end). -/
def shiftL (d : List Int) (m : Nat) : List Int := d.take m ++ d.getD m 0 :: d.drop m

theorem length_shiftL (d : List Int) (m : Nat) (h : m ≤ d.length) : (shiftL d m).length = d.length + 1 := by simp [shiftL]; omega
theorem shiftL_end (d : List Int) : d ++ [0] = shiftL d d.length := by simp [shiftL]
theorem shiftL_get (d : List Int) (m : Nat) (h : m < d.length) : (shiftL d (m + 1)).getD m 0 = d.getD m 0 := by
  have : m < min (m + 1) d.length := by omega
  simp [shiftL, List.getElem?_append, h, this]
theorem shiftL_step (d : List Int) (m : Nat) (h : m < d.length) : (shiftL d (m + 1)).set (m + 1) (d.getD m 0) = shiftL d m := by
  unfold shiftL
  have hlen : (d.take (m + 1)).length = m + 1 := by simp; omega
  rw [List.set_append_right _ _ (by omega), hlen, Nat.sub_self, List.set_cons_zero, List.take_succ_eq_append_getElem h, List.append_assoc]
  rw [List.drop_eq_getElem_cons h]
  simp [List.getElem?_eq_getElem h]
theorem shiftL_set (d : List Int) (m : Nat) (h : m ≤ d.length) (v : Int) : (shiftL d m).set m v = d.take m ++ v :: d.drop m := by
  unfold shiftL
  have hlen : (d.take m).length = m := by simp; omega
  rw [List.set_append_right _ _ (by omega), hlen, Nat.sub_self, List.set_cons_zero]

/-- Binary search keeps the place between lo and hi. -/
theorem up_lt_of {d : List Int} (h : Up d) {i j : Nat} (hi : i < d.length) (hj : j < d.length) : d.getD i 0 < d.getD j 0 ↔ i < j := by
  constructor
  · intro hlt
    rcases Nat.lt_trichotomy i j with h' | h' | h'
    · exact h'
    · subst h'; omega
    · have := h.getD_lt h' hi; omega
  · intro hij; exact h.getD_lt hij hj

theorem mem_of_getD {d : List Int} {j : Nat} (h : j < d.length) : d.getD j 0 ∈ d := by simp [List.getElem?_eq_getElem h]

/-- Of a rising list: v lies in d iff it lies among the first p, where what follows is greater. -/
theorem mem_of_prefix {d : List Int} (h : Up d) {v : Int} {p : Nat} (hp : p ≤ d.length) (hgt : p < d.length → v < d.getD p 0) : v ∈ d ↔ ∃ j, j < p ∧ d.getD j 0 = v := by
  constructor
  · intro hv
    obtain ⟨m, hm, he⟩ := exists_at hv
    refine ⟨m, ?_, he⟩
    rcases Nat.lt_or_ge m p with h' | h'
    · exact h'
    · exfalso
      have hpl : p < d.length := by omega
      have := hgt hpl
      rcases Nat.lt_or_ge p m with h2 | h2
      · have := h.getD_lt h2 hm; omega
      · have : m = p := by omega
        subst this
        omega
  · rintro ⟨j, hj, he⟩
    rw [← he]
    exact mem_of_getD (by omega)
end Go.Proofs.YbyabwGreat
