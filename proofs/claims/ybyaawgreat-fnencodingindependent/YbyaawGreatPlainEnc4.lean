/- Decoding an encoded row, without Go. Seat-independent. -/
import Derived.Test.YbyaawGreatPlainEnc3
import Derived.Test.YbyaawGreatPlainEnc2
namespace Go.Proofs.YbyaawGreat
set_option linter.unusedVariables false

theorem dec_encP (xs : List Int) : dec (encP xs) = xs := rfl
theorem dec_encD (xs : List Int) : dec (encD xs) = xs := by
  have hup := (dictOf_spec xs).1
  have hmem := (dictOf_spec xs).2
  have e : dec (encD xs) = (xs.map (idx (dictOf xs))).map fun k => (dictOf xs).getD k.toNat 0 := by simp [dec, encD]
  rw [e, List.map_map]
  conv => rhs; rw [← List.map_id xs]
  refine List.map_congr_left fun x hx => ?_
  obtain ⟨m, h1, h2⟩ := exists_at ((hmem x).2 hx)
  simp only [Function.comp, idx_eq hup h1 h2, Int.toNat_natCast, id, h2]

theorem decRuns_snoc (rs : List (Int × Int)) (p : Int × Int) : decRuns (rs ++ [p]) = decRuns rs ++ List.replicate p.2.toNat p.1 := by simp [decRuns]
theorem decRuns_step {rs : List (Int × Int)} {n : Nat} (h : RleOK rs n) (v : Int) : decRuns (rleStep rs v) = decRuns rs ++ [v] := by
  unfold rleStep
  split
  · rename_i hc
    obtain ⟨init, p, rfl⟩ : ∃ init p, rs = init ++ [p] := ⟨rs.dropLast, rs.getLast hc.1, (List.dropLast_concat_getLast hc.1).symm⟩
    have hp := h.pos init.length (by simp)
    have hg : (init ++ [p]).getD ((init ++ [p]).length - 1) (0, 0) = p := by simp
    have hg2 : (init ++ [p]).getD init.length (0, 0) = p := by simp
    have hs : (init ++ [p]).set ((init ++ [p]).length - 1) (v, p.2 + 1) = init ++ [(v, p.2 + 1)] := by
      simp [List.set_append_right]
    rw [hg2] at hp
    rw [hg] at hc
    rw [hg, hs, decRuns_snoc, decRuns_snoc, hc.2]
    have e : (p.2 + 1).toNat = p.2.toNat + 1 := by omega
    simp only [e, List.replicate_succ', List.append_assoc]
  · rw [decRuns_snoc]
    rfl
theorem decRuns_rle (xs : List Int) : decRuns (rle xs) = xs := by
  suffices h : ∀ (vals pre : List Int), decRuns (rle pre) = pre → decRuns (rle (pre ++ vals)) = pre ++ vals from h xs [] rfl
  intro vals
  induction vals with
  | nil => intro pre h; simpa using h
  | cons v vals ih =>
    intro pre h
    have := ih (pre ++ [v]) (by rw [rle_snoc, decRuns_step (rle_ok pre), h])
    simpa using this
theorem dec_encR (xs : List Int) : dec (encR xs) = xs := by
  have e : dec (encR xs) = decRuns (rle xs) := by simp [dec, encR, decRuns]
  rw [e, decRuns_rle]
end Go.Proofs.YbyaawGreat
