/- Plain data and laws of layer 1: columns. Seat-independent. -/
namespace Go.Proofs.YbyabwGreat

structure Col where
  kind : Int
  plain : List Int
  dict : List Int
  codes : List Int
  runs : List (Int × Int)

/-- strictly rising -/
def Rising (xs : List Int) : Prop := ∀ i, i + 1 < xs.length → xs.getD i 0 < xs.getD (i + 1) 0

def sumTo (xs : List (Int × Int)) (k : Nat) : Int := ((xs.take k).map (·.2)).sum

def RunsOK (xs : List (Int × Int)) : Prop := xs.length ≤ 65536 ∧ ∀ i, i < xs.length → 1 ≤ (xs.getD i (0, 0)).2 ∧ (xs.getD i (0, 0)).2 ≤ 65536

def CodesOK (c : Col) : Prop := ∀ i, i < c.codes.length → 0 ≤ c.codes.getD i 0 ∧ c.codes.getD i 0 < c.dict.length

/-- A column is valid for n rows. -/
def Valid (c : Col) (n : Int) : Prop := 0 ≤ n ∧ n ≤ 65536 ∧
  ((c.kind = 0 ∧ (c.plain.length : Int) = n) ∨
   (c.kind = 1 ∧ c.dict.length ≤ 65536 ∧ Rising c.dict ∧ (c.codes.length : Int) = n ∧ CodesOK c) ∨
   (c.kind = 2 ∧ RunsOK c.runs ∧ sumTo c.runs c.runs.length = n))

theorem sumTo_zero (xs : List (Int × Int)) : sumTo xs 0 = 0 := rfl
theorem sumTo_succ (xs : List (Int × Int)) (k : Nat) (h : k < xs.length) : sumTo xs (k + 1) = sumTo xs k + (xs.getD k (0, 0)).2 := by
  unfold sumTo
  rw [List.take_succ_eq_append_getElem h, List.map_append, List.sum_append]
  simp [List.getD, List.getElem?_eq_getElem h]
theorem sumTo_bd (xs : List (Int × Int)) : ∀ (k : Nat), k ≤ xs.length → (∀ i, i < k → 1 ≤ (xs.getD i (0, 0)).2 ∧ (xs.getD i (0, 0)).2 ≤ 65536) → (k : Int) ≤ sumTo xs k ∧ sumTo xs k ≤ k * 65536
  | 0, _, _ => by simp [sumTo_zero]
  | k + 1, hk, h => by
    have ih := sumTo_bd xs k (by omega) (fun i hik => h i (by omega))
    have hs := sumTo_succ xs k (by omega)
    have hb := h k (by omega)
    constructor
    · omega
    · push_cast; omega

/-- What a valid column decodes to. -/
def dec (c : Col) : List Int :=
  if c.kind = 0 then c.plain
  else if c.kind = 1 then c.codes.map fun k => c.dict.getD k.toNat 0
  else c.runs.flatMap fun r => List.replicate r.2.toNat r.1

/-- The first k of xs, zeros behind, n in all. -/
def fillTo (xs : List Int) (n k : Nat) : List Int := xs.take k ++ List.replicate (n - k) 0

theorem fillTo_zero (xs : List Int) (n : Nat) : fillTo xs n 0 = List.replicate n 0 := by simp [fillTo]
theorem fillTo_all (xs : List Int) (n : Nat) (h : xs.length = n) : fillTo xs n n = xs := by
  unfold fillTo
  rw [List.take_of_length_le (by omega)]
  simp
theorem length_fillTo (xs : List Int) (n k : Nat) (h : xs.length = n) (hk : k ≤ n) : (fillTo xs n k).length = n := by simp [fillTo]; omega
theorem fillTo_set (xs : List Int) (n k : Nat) (h : xs.length = n) (hk : k < n) : (fillTo xs n k).set k (xs.getD k 0) = fillTo xs n (k + 1) := by
  have hk' : k < xs.length := by omega
  apply List.ext_getElem
  · rw [List.length_set, length_fillTo xs n k h (by omega), length_fillTo xs n (k + 1) h (by omega)]
  · intro i h1 h2
    rw [List.getElem_set]
    simp only [fillTo, List.getElem_append, List.length_take, List.getElem_take, List.getElem_replicate]
    by_cases hik : k = i
    · subst hik
      have a2 : k < min (k + 1) xs.length := by omega
      simp [hk', a2]
    · simp only [hik, if_false]
      by_cases hik2 : i < k
      · have a1 : i < min k xs.length := by omega
        have a2 : i < min (k + 1) xs.length := by omega
        simp [a1, a2]
      · have a1 : ¬ i < min k xs.length := by omega
        have a2 : ¬ i < min (k + 1) xs.length := by omega
        simp [a1, a2]

def decRuns (ru : List (Int × Int)) : List Int := ru.flatMap fun r => List.replicate r.2.toNat r.1

theorem decRuns_append (a b : List (Int × Int)) : decRuns (a ++ b) = decRuns a ++ decRuns b := by simp [decRuns]

theorem decRuns_len (ru : List (Int × Int)) : ∀ k, k ≤ ru.length → (∀ i, i < k → 1 ≤ (ru.getD i (0, 0)).2 ∧ (ru.getD i (0, 0)).2 ≤ 65536) → ((decRuns (ru.take k)).length : Int) = sumTo ru k
  | 0, _, _ => by simp [decRuns, sumTo_zero]
  | k + 1, hk, h => by
    have ih := decRuns_len ru k (by omega) (fun i hi => h i (by omega))
    have hb := h k (by omega)
    rw [sumTo_succ ru k (by omega), List.take_succ_eq_append_getElem (by omega), decRuns_append, List.length_append]
    have hg : ru.getD k (0, 0) = ru[k] := by simp [List.getElem?_eq_getElem (show k < ru.length by omega)]
    rw [hg] at hb ⊢
    have h1 : decRuns [ru[k]] = List.replicate ru[k].2.toNat ru[k].1 := by simp [decRuns]
    rw [h1, List.length_replicate]
    push_cast
    rw [ih]
    omega

theorem decRuns_at (ru : List (Int × Int)) (k j : Nat) (hk : k < ru.length) (h : ∀ i, i < ru.length → 1 ≤ (ru.getD i (0, 0)).2 ∧ (ru.getD i (0, 0)).2 ≤ 65536) (hj : (j : Int) < (ru.getD k (0, 0)).2) :
    (decRuns ru).getD ((sumTo ru k).toNat + j) 0 = (ru.getD k (0, 0)).1 := by
  have hl := decRuns_len ru k (by omega) (fun i hi => h i (by omega))
  have hg : ru.getD k (0, 0) = ru[k] := by simp [List.getElem?_eq_getElem hk]
  rw [hg] at hj ⊢
  have e : decRuns ru = decRuns (ru.take k) ++ (List.replicate ru[k].2.toNat ru[k].1 ++ decRuns (ru.drop (k + 1))) := by
    conv => lhs; rw [← List.take_append_drop k ru, decRuns_append, List.drop_eq_getElem_cons hk]
    rfl
  have hn : (sumTo ru k).toNat = (decRuns (ru.take k)).length := by omega
  have hj' : j < ru[k].2.toNat := by omega
  rw [hn, e, List.getD_eq_getElem?_getD, List.getElem?_append_right (by omega), Nat.add_sub_cancel_left, List.getElem?_append_left (by simpa using hj')]
  simp [hj']

theorem dec_len (c : Col) (n : Int) (h : Valid c n) : ((dec c).length : Int) = n := by
  obtain ⟨h0, h1, ⟨k0, hp⟩ | ⟨k1, hd, hri, hl, hco⟩ | ⟨k2, hr, hs⟩⟩ := h
  · simp [dec, k0]; exact hp
  · simp [dec, k1]; exact hl
  · have := decRuns_len c.runs c.runs.length (Nat.le_refl _) (fun i hi => hr.2 i hi)
    rw [List.take_length, hs] at this
    have e : dec c = decRuns c.runs := by simp [dec, k2, decRuns]
    rw [e]; exact this

end Go.Proofs.YbyabwGreat
