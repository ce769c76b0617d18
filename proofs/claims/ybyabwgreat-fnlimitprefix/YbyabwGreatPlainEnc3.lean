/- Plain laws: the encodings are valid. Seat-independent. -/
import Derived.Test.YbyabwGreatPlainEnc2
namespace Go.Proofs.YbyabwGreat

theorem Valid.unique {c : Col} {m n : Int} (h : Valid c m) (k : Valid c n) : m = n := by
  obtain ⟨_, _, h⟩ := h
  obtain ⟨_, _, k⟩ := k
  rcases h with h | h | h <;> rcases k with k | k | k
  · omega
  · have := h.1; have := k.1; omega
  · have := h.1; have := k.1; omega
  · have := h.1; have := k.1; omega
  · have := h.2.2.2.1; have := k.2.2.2.1; omega
  · have := h.1; have := k.1; omega
  · have := h.1; have := k.1; omega
  · have := h.1; have := k.1; omega
  · have := h.2.2; have := k.2.2; omega

theorem encP_valid (xs : List Int) (h : xs.length ≤ 65536) : Valid (encP xs) xs.length := ⟨by omega, by omega, .inl ⟨rfl, rfl⟩⟩
theorem encD_valid (xs : List Int) (h : xs.length ≤ 65536) : Valid (encD xs) xs.length := by
  have hs := dictOf_spec xs
  have hl := dictOf_len xs
  refine ⟨by omega, by omega, .inr (.inl ⟨rfl, by simp only [encD]; omega, rising_of_up hs.1, by simp [encD], fun i hi => ?_⟩)⟩
  simp only [encD, List.length_map] at hi ⊢
  have hm : xs.getD i 0 ∈ dictOf xs := (hs.2 _).2 (mem_of_getD hi)
  obtain ⟨t, ht, he⟩ := exists_at hm
  have := idx_eq hs.1 ht he
  have e : (xs.map (idx (dictOf xs))).getD i 0 = idx (dictOf xs) (xs.getD i 0) := by simp [List.getElem?_eq_getElem hi]
  rw [e, this]
  omega
theorem sumTo_all (rs : List (Int × Int)) : sumTo rs rs.length = (rs.map (·.2)).sum := by simp [sumTo]
theorem encR_valid (xs : List Int) (h : xs.length ≤ 65536) : Valid (encR xs) xs.length := by
  have ho := rle_ok xs
  refine ⟨by omega, by omega, .inr (.inr ⟨rfl, ⟨by simp only [encR]; have := ho.len; omega, fun i hi => ?_⟩, ?_⟩)⟩
  · have := ho.pos i hi
    simp only [encR]
    omega
  · simp only [encR]
    rw [sumTo_all, ho.sum]

end Go.Proofs.YbyabwGreat
