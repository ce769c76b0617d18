/- Plain laws: the encodings. Seat-independent. -/
import Derived.Test.YbyabwGreatPlain1
namespace Go.Proofs.YbyabwGreat

/-! ### strictly rising lists -/
abbrev Up (d : List Int) : Prop := d.Pairwise (· < ·)

theorem Up.getD_lt {d : List Int} (h : Up d) {i j : Nat} (hij : i < j) (hj : j < d.length) : d.getD i 0 < d.getD j 0 := by
  have := List.pairwise_iff_getElem.1 h i j (by omega) hj hij
  simpa [List.getElem?_eq_getElem hj, List.getElem?_eq_getElem (show i < d.length by omega)] using this

theorem up_of_rising {d : List Int} (h : Rising d) : Up d := by
  rw [Up, List.pairwise_iff_getElem]
  intro i j hi hj hij
  have key : ∀ m, i + 1 + m < d.length → d.getD i 0 < d.getD (i + 1 + m) 0 := by
    intro m
    induction m with
    | zero => intro hm; exact h i hm
    | succ m ih =>
      intro hm
      have a := ih (by omega)
      have b := h (i + 1 + m) (by omega)
      rw [show i + 1 + (m + 1) = i + 1 + m + 1 from by omega]
      omega
  have := key (j - (i + 1)) (by omega)
  rw [show i + 1 + (j - (i + 1)) = j from by omega] at this
  simpa [List.getElem?_eq_getElem hj, List.getElem?_eq_getElem hi] using this

theorem rising_of_up {d : List Int} (h : Up d) : Rising d := fun i hi => h.getD_lt (by omega) hi

/-- Rising lists with the same members are one. -/
theorem up_unique : ∀ {d e : List Int}, Up d → Up e → (∀ x, x ∈ d ↔ x ∈ e) → d = e
  | [], [], _, _, _ => rfl
  | [], y :: e, _, _, h => by have := (h y).2 (by simp); simp at this
  | x :: d, [], _, _, h => by have := (h x).1 (by simp); simp at this
  | x :: d, y :: e, hd, he, h => by
    rw [Up, List.pairwise_cons] at hd he
    have hxy : x = y := by
      have h1 := (h x).1 (by simp)
      have h2 := (h y).2 (by simp)
      rcases List.mem_cons.1 h1 with h1 | h1
      · exact h1
      · rcases List.mem_cons.1 h2 with h2 | h2
        · exact h2.symm
        · have a := he.1 x h1
          have b := hd.1 y h2
          omega
    subst hxy
    have := up_unique hd.2 he.2 (fun z => by
      constructor
      · intro hz
        have := (h z).1 (by simp [hz])
        rcases List.mem_cons.1 this with e' | e'
        · subst e'; have := hd.1 z hz; omega
        · exact e'
      · intro hz
        have := (h z).2 (by simp [hz])
        rcases List.mem_cons.1 this with e' | e'
        · subst e'; have := he.1 z hz; omega
        · exact e')
    rw [this]

/-- v put into its place. -/
def insD (v : Int) : List Int → List Int
  | [] => [v]
  | x :: d => if v < x then v :: x :: d else if v = x then x :: d else x :: insD v d

theorem mem_insD (v x : Int) : ∀ d, x ∈ insD v d ↔ x = v ∨ x ∈ d
  | [] => by simp [insD]
  | y :: d => by
    unfold insD
    split
    · simp
    · split
      · rename_i h; subst h; simp
      · simp [mem_insD v x d, or_left_comm]

theorem up_insD (v : Int) : ∀ d, Up d → Up (insD v d)
  | [], _ => by simp [insD]
  | y :: d, h => by
    have h' := List.pairwise_cons.1 h
    unfold insD
    split
    · rename_i hv
      refine List.pairwise_cons.2 ⟨fun z hz => ?_, h⟩
      rcases List.mem_cons.1 hz with rfl | hz
      · exact hv
      · have := h'.1 z hz; omega
    · split
      · exact h
      · refine List.pairwise_cons.2 ⟨fun z hz => ?_, up_insD v d h'.2⟩
        rcases (mem_insD v z d).1 hz with rfl | hz
        · omega
        · exact h'.1 z hz

def dictOf (vals : List Int) : List Int := vals.foldl (fun d v => insD v d) []

theorem dictOf_snoc (vals : List Int) (v : Int) : dictOf (vals ++ [v]) = insD v (dictOf vals) := by simp [dictOf]

theorem dictOf_spec (vals : List Int) : Up (dictOf vals) ∧ ∀ x, x ∈ dictOf vals ↔ x ∈ vals := by
  suffices h : ∀ (vals d : List Int), Up d → Up (vals.foldl (fun d v => insD v d) d) ∧ ∀ x, x ∈ vals.foldl (fun d v => insD v d) d ↔ x ∈ d ∨ x ∈ vals by
    have := h vals [] (by simp)
    exact ⟨this.1, fun x => by rw [dictOf, this.2]; simp⟩
  intro vals
  induction vals with
  | nil => intro d hd; exact ⟨hd, fun x => by simp⟩
  | cons v vals ih =>
    intro d hd
    have := ih (insD v d) (up_insD v d hd)
    refine ⟨this.1, fun x => ?_⟩
    rw [List.foldl_cons, this.2, mem_insD, List.mem_cons]
    constructor
    · rintro ((h | h) | h)
      · exact .inr (.inl h)
      · exact .inl h
      · exact .inr (.inr h)
    · rintro (h | h | h)
      · exact .inl (.inr h)
      · exact .inl (.inl h)
      · exact .inr h

theorem insD_len (v : Int) : ∀ d, (insD v d).length ≤ d.length + 1
  | [] => by simp [insD]
  | y :: d => by
    unfold insD
    have := insD_len v d
    split
    · simp
    · split <;> simp <;> omega

theorem dictOf_len (vals : List Int) : (dictOf vals).length ≤ vals.length := by
  suffices h : ∀ (vals d : List Int), (vals.foldl (fun d v => insD v d) d).length ≤ d.length + vals.length by
    have := h vals []; simpa [dictOf] using this
  intro vals
  induction vals with
  | nil => intro d; simp
  | cons v vals ih =>
    intro d
    have h1 := ih (insD v d)
    have h2 := insD_len v d
    rw [List.foldl_cons, List.length_cons]
    omega

/-- How the insertion goes: p is the first place whose element is greater. -/
theorem insD_at (v : Int) : ∀ (d : List Int) (p : Nat), Up d → p ≤ d.length → (∀ j, j < p → d.getD j 0 < v) → (p < d.length → v < d.getD p 0) → insD v d = d.take p ++ v :: d.drop p
  | [], p, _, hp, _, _ => by simp at hp; subst hp; rfl
  | x :: d, 0, _, _, _, h2 => by
    have := h2 (by simp)
    simp at this
    simp [insD, this]
  | x :: d, p + 1, hu, hp, h1, h2 => by
    have hx := h1 0 (by omega)
    simp at hx
    have ih := insD_at v d p (List.pairwise_cons.1 hu).2 (by simpa using hp) (fun j hj => by have := h1 (j + 1) (by omega); simpa using this) (fun hp' => by have := h2 (by simpa using hp'); simpa using this)
    unfold insD
    rw [if_neg (by omega), if_neg (by omega), ih]
    simp

theorem insD_mem (v : Int) : ∀ (d : List Int), Up d → v ∈ d → insD v d = d
  | [], _, h => by simp at h
  | x :: d, hu, h => by
    have h' := List.pairwise_cons.1 hu
    unfold insD
    rcases List.mem_cons.1 h with rfl | h
    · simp
    · have := h'.1 v h
      rw [if_neg (by omega), if_neg (by omega), insD_mem v d h'.2 h]

/-- The place of v in a rising list. -/
def idx (d : List Int) (v : Int) : Int := ((d.takeWhile (· < v)).length : Nat)

theorem idx_eq {d : List Int} (h : Up d) {v : Int} {m : Nat} (hm : m < d.length) (he : d.getD m 0 = v) : idx d v = m := by
  induction d generalizing m with
  | nil => simp at hm
  | cons x d ih =>
    have h' := List.pairwise_cons.1 h
    cases m with
    | zero =>
      simp at he
      subst he
      simp [idx]
    | succ m =>
      have hm' : m < d.length := by simpa using hm
      have he' : d.getD m 0 = v := by simpa using he
      have hmem : v ∈ d := by
        rw [← he']
        simp [List.getElem?_eq_getElem hm']
      have hxv := h'.1 v hmem
      have := ih h'.2 hm' he'
      unfold idx at this ⊢
      rw [List.takeWhile_cons_of_pos (by simpa using hxv)]
      simp only [List.length_cons]
      push_cast
      omega

theorem exists_at {d : List Int} {v : Int} (h : v ∈ d) : ∃ m, m < d.length ∧ d.getD m 0 = v := by
  obtain ⟨m, hm, he⟩ := List.getElem_of_mem h
  exact ⟨m, hm, by simp [List.getElem?_eq_getElem hm, he]⟩

/-! ### runs -/
def rleStep (rs : List (Int × Int)) (v : Int) : List (Int × Int) :=
  if rs ≠ [] ∧ (rs.getD (rs.length - 1) (0, 0)).1 = v then rs.set (rs.length - 1) (v, (rs.getD (rs.length - 1) (0, 0)).2 + 1) else rs ++ [(v, 1)]

def rle (vals : List Int) : List (Int × Int) := vals.foldl rleStep []

theorem rle_snoc (vals : List Int) (v : Int) : rle (vals ++ [v]) = rleStep (rle vals) v := by simp [rle]

theorem rleStep_len (rs : List (Int × Int)) (v : Int) : (rleStep rs v).length ≤ rs.length + 1 := by
  unfold rleStep
  split <;> simp

theorem sum_map_set : ∀ (rs : List (Int × Int)) (i : Nat) (p : Int × Int), i < rs.length → ((rs.set i p).map (·.2)).sum = (rs.map (·.2)).sum - (rs.getD i (0, 0)).2 + p.2
  | [], i, p, h => by simp at h
  | x :: rs, 0, p, _ => by simp; omega
  | x :: rs, i + 1, p, h => by
    have := sum_map_set rs i p (by simpa using h)
    simp only [List.set_cons_succ, List.map_cons, List.sum_cons, List.getD_cons_succ]
    omega

/-- What is kept of the runs. -/
structure RleOK (rs : List (Int × Int)) (n : Nat) : Prop where
  len : rs.length ≤ n
  sum : (rs.map (·.2)).sum = n
  pos : ∀ i, i < rs.length → 1 ≤ (rs.getD i (0, 0)).2 ∧ (rs.getD i (0, 0)).2 ≤ n

theorem rleStep_ok {rs : List (Int × Int)} {n : Nat} (h : RleOK rs n) (v : Int) : RleOK (rleStep rs v) (n + 1) := by
  unfold rleStep
  split
  · rename_i hc
    have hl : 0 < rs.length := List.length_pos_iff.2 hc.1
    have hb := h.pos (rs.length - 1) (by omega)
    refine ⟨by simp; have := h.len; omega, ?_, fun i hi => ?_⟩
    · rw [sum_map_set rs _ _ (by omega), h.sum]; push_cast; omega
    · rw [List.length_set] at hi
      by_cases hi' : i = rs.length - 1
      · subst hi'
        simp only [List.getD_eq_getElem?_getD, List.getElem?_set_self (show rs.length - 1 < rs.length by omega), Option.getD_some]
        push_cast
        have hb' : 1 ≤ (rs[rs.length - 1]?.getD (0, 0)).2 ∧ (rs[rs.length - 1]?.getD (0, 0)).2 ≤ n := by simpa using hb
        omega
      · have := h.pos i hi
        simp only [List.getD_eq_getElem?_getD, List.getElem?_set_ne (Ne.symm hi')] at this ⊢
        push_cast
        omega
  · refine ⟨by simp; exact h.len, by simp [h.sum], fun i hi => ?_⟩
    simp only [List.getD_eq_getElem?_getD]
    by_cases hi' : i < rs.length
    · rw [List.getElem?_append_left hi']
      have := h.pos i hi'
      simp only [List.getD_eq_getElem?_getD] at this
      push_cast
      omega
    · have : i = rs.length := by simp at hi; omega
      subst this
      simp
      omega

theorem rle_ok (vals : List Int) : RleOK (rle vals) vals.length := by
  suffices h : ∀ (vals : List Int) (rs : List (Int × Int)) (n : Nat), RleOK rs n → RleOK (vals.foldl rleStep rs) (n + vals.length) by
    have := h vals [] 0 ⟨by simp, by simp, fun i hi => by simp at hi⟩
    simpa [rle] using this
  intro vals
  induction vals with
  | nil => intro rs n h; simpa using h
  | cons v vals ih =>
    intro rs n h
    have := ih (rleStep rs v) (n + 1) (rleStep_ok h v)
    rw [List.foldl_cons, List.length_cons]
    rw [show n + (vals.length + 1) = n + 1 + vals.length from by omega]
    exact this

/-- the three encodings -/
def encP (vals : List Int) : Col := ⟨0, vals, [], [], []⟩
def encD (vals : List Int) : Col := ⟨1, [], dictOf vals, vals.map (idx (dictOf vals)), []⟩
def encR (vals : List Int) : Col := ⟨2, [], [], [], rle vals⟩

end Go.Proofs.YbyabwGreat
