/- Plain: keys and their order; the sorted keys without doubles. No Go here. -/
import Derived.Test.YbyabwGreatPlainSortK
namespace Go.Proofs.YbyabwGreat
set_option linter.unusedVariables false

def cmpL : List Int → List Int → Int
  | a :: l, b :: m => if a < b then -1 else if b < a then 1 else cmpL l m
  | _, _ => 0
theorem cmpL_cons (a b : Int) (l m : List Int) : cmpL (a :: l) (b :: m) = if a < b then -1 else if b < a then 1 else cmpL l m := rfl
theorem cmpL_range : ∀ (l m : List Int), -1 ≤ cmpL l m ∧ cmpL l m ≤ 1 := by
  intro l
  induction l with
  | nil => intro m; simp [cmpL]
  | cons a l ih =>
    intro m
    cases m with
    | nil => simp [cmpL]
    | cons b m =>
      rw [cmpL_cons]
      split
      · omega
      · split
        · omega
        · exact ih m
theorem cmpL_neg : ∀ (l m : List Int), cmpL m l = - cmpL l m := by
  intro l
  induction l with
  | nil => intro m; cases m <;> simp [cmpL]
  | cons a l ih =>
    intro m
    cases m with
    | nil => simp [cmpL]
    | cons b m =>
      rw [cmpL_cons, cmpL_cons]
      by_cases h1 : a < b
      · rw [if_pos h1, if_neg (by omega), if_pos h1]
        omega
      · rw [if_neg h1]
        by_cases h2 : b < a
        · rw [if_pos h2, if_neg h1, if_pos h2]
        · rw [if_neg h2, if_neg h1, if_neg h2, ih m]
theorem cmpL_self (l : List Int) : cmpL l l = 0 := by
  have := cmpL_neg l l
  omega
theorem cmpL_eq : ∀ (l m : List Int), l.length = m.length → (cmpL l m = 0 ↔ l = m) := by
  intro l
  induction l with
  | nil =>
    intro m h
    cases m with
    | nil => simp [cmpL]
    | cons b m => simp at h
  | cons a l ih =>
    intro m h
    cases m with
    | nil => simp at h
    | cons b m =>
      rw [cmpL_cons]
      by_cases h1 : a < b
      · rw [if_pos h1]
        constructor
        · intro h; omega
        · intro h; cases h; omega
      · rw [if_neg h1]
        by_cases h2 : b < a
        · rw [if_pos h2]
          constructor
          · intro h; omega
          · intro h; cases h; omega
        · rw [if_neg h2, ih m (by simpa using h)]
          have : a = b := by omega
          subst this
          simp
/-- Lists of one length: the order carries over. -/
theorem cmpL_trans : ∀ (l m k : List Int), l.length = m.length → m.length = k.length → cmpL l m ≤ 0 → cmpL m k ≤ 0 → cmpL l k ≤ 0 ∧ (cmpL l k = 0 → cmpL l m = 0 ∧ cmpL m k = 0) := by
  intro l
  induction l with
  | nil =>
    intro m k h1 h2 _ _
    cases m with
    | nil => simp [cmpL]
    | cons b m => simp at h1
  | cons a l ih =>
    intro m k h1 h2 h3 h4
    cases m with
    | nil => simp at h1
    | cons b m =>
      cases k with
      | nil => simp at h2
      | cons c k =>
        rw [cmpL_cons] at h3 h4 ⊢
        by_cases hab : a < b
        · have hbc : ¬ c < b := fun h => by rw [if_neg (by omega), if_pos h] at h4; omega
          rw [if_pos (by omega)]
          exact ⟨by omega, fun h => by omega⟩
        · rw [if_neg hab] at h3
          by_cases hba : b < a
          · rw [if_pos hba] at h3; omega
          · rw [if_neg hba] at h3
            obtain rfl : a = b := by omega
            by_cases hac : a < c
            · rw [if_pos hac]
              exact ⟨by omega, fun h => by omega⟩
            · rw [if_neg hac] at h4
              by_cases hca : c < a
              · rw [if_pos hca] at h4; omega
              · rw [if_neg hca] at h4
                obtain rfl : a = c := by omega
                have := ih m k (by simpa using h1) (by simpa using h2) h3 h4
                simp only [cmpL_cons, Int.lt_irrefl, if_false]
                exact this
/-- Strictly rising keys, all of length w. -/
structure UpK (w : Nat) (D : List (List Int)) : Prop where
  len : ∀ d ∈ D, d.length = w
  up : ∀ i j, i < j → j < D.length → cmpL (D.getD i []) (D.getD j []) < 0
theorem getD_memL {D : List (List Int)} {i : Nat} (h : i < D.length) : D.getD i [] ∈ D := by
  rw [List.getD_eq_getElem?_getD, List.getElem?_eq_getElem h]; exact List.getElem_mem h
theorem mem_getDL {D : List (List Int)} {x : List Int} (h : x ∈ D) : ∃ i, i < D.length ∧ D.getD i [] = x := by
  obtain ⟨i, hi, e⟩ := List.getElem_of_mem h
  exact ⟨i, hi, by rw [List.getD_eq_getElem?_getD, List.getElem?_eq_getElem hi]; exact e⟩
theorem UpK.inj {w : Nat} {D : List (List Int)} (h : UpK w D) {i j : Nat} (hi : i < D.length) (hj : j < D.length) (e : D.getD i [] = D.getD j []) : i = j := by
  rcases Nat.lt_trichotomy i j with h1 | h1 | h1
  · have := h.up i j h1 hj; rw [e, cmpL_self] at this; omega
  · exact h1
  · have := h.up j i h1 hi; rw [e, cmpL_self] at this; omega
theorem UpK.tail {w : Nat} {d : List Int} {D : List (List Int)} (h : UpK w (d :: D)) : UpK w D :=
  ⟨fun x hx => h.len x (by simp [hx]), fun i j hij hj => by
    have := h.up (i + 1) (j + 1) (by omega) (by simp; omega)
    simpa using this⟩
theorem UpK.head {w : Nat} {d : List Int} {D : List (List Int)} (h : UpK w (d :: D)) {x : List Int} (hx : x ∈ D) : cmpL d x < 0 := by
  obtain ⟨i, hi, rfl⟩ := mem_getDL hx
  have := h.up 0 (i + 1) (by omega) (by simp; omega)
  simpa using this
/-- Strictly rising lists with the same members are the same. -/
theorem UpK.ext {w : Nat} : ∀ {D E : List (List Int)}, UpK w D → UpK w E → (∀ x, x ∈ D ↔ x ∈ E) → D = E := by
  intro D
  induction D with
  | nil =>
    intro E _ _ h
    cases E with
    | nil => rfl
    | cons e E => have := (h e).2 (by simp); cases this
  | cons d D ih =>
    intro E hD hE h
    cases E with
    | nil => have := (h d).1 (by simp); cases this
    | cons e E =>
      have hde : d = e := by
        have h1 := (h d).1 (by simp)
        have h2 := (h e).2 (by simp)
        rcases List.mem_cons.1 h1 with h1 | h1
        · exact h1
        · rcases List.mem_cons.1 h2 with h2 | h2
          · exact h2.symm
          · have a1 := hE.head h1
            have a2 := hD.head h2
            have := cmpL_neg d e
            omega
      subst hde
      have : D = E := ih hD.tail hE.tail (fun x => by
        have hx := h x
        simp only [List.mem_cons] at hx
        constructor
        · intro hm
          rcases hx.1 (.inr hm) with e1 | e1
          · subst e1; have := hD.head hm; rw [cmpL_self] at this; omega
          · exact e1
        · intro hm
          rcases hx.2 (.inr hm) with e1 | e1
          · subst e1; have := hE.head hm; rw [cmpL_self] at this; omega
          · exact e1)
      rw [this]
theorem getD_snocL (D : List (List Int)) (x : List Int) (i : Nat) : (D ++ [x]).getD i [] = if i < D.length then D.getD i [] else if i = D.length then x else [] := by
  rw [List.getD_eq_getElem?_getD, List.getD_eq_getElem?_getD]
  by_cases h : i < D.length
  · rw [List.getElem?_append_left h, if_pos h]
  · rw [List.getElem?_append_right (by omega), if_neg h]
    by_cases h2 : i = D.length
    · subst h2; simp
    · rw [if_neg h2, List.getElem?_eq_none (by simp; omega)]; rfl
theorem UpK.snoc {w : Nat} {D : List (List Int)} (h : UpK w D) {x : List Int} (hx : x.length = w) (hl : ∀ d ∈ D, cmpL d x < 0) : UpK w (D ++ [x]) :=
  ⟨fun d hd => by
    rcases List.mem_append.1 hd with hd | hd
    · exact h.len d hd
    · rw [List.mem_singleton] at hd; subst hd; exact hx, fun i j hij hj => by
    rw [List.length_append, List.length_singleton] at hj
    rw [getD_snocL, getD_snocL, if_pos (by omega)]
    by_cases hjl : j < D.length
    · rw [if_pos hjl]; exact h.up i j hij hjl
    · rw [if_neg hjl, if_pos (by omega)]
      exact hl _ (getD_memL (by omega))⟩
/-! ### the sorted row of numbers, without doubles of keys -/
section
variable (K : Nat → List Int) (w : Nat)
def ddK (ord : List Int) : Nat → List (List Int)
  | 0 => []
  | x + 1 => if x = 0 ∨ cmpL (K (ord.getD (x - 1) 0).toNat) (K (ord.getD x 0).toNat) ≠ 0 then ddK ord x ++ [K (ord.getD x 0).toNat] else ddK ord x
def RK (a b : Int) : Prop := cmpL (K a.toNat) (K b.toNat) ≤ 0
variable {K w}
theorem RK_trans (hK : ∀ j, (K j).length = w) (a b c : Int) (h1 : RK K a b) (h2 : RK K b c) : RK K a c := (cmpL_trans _ _ _ (by rw [hK, hK]) (by rw [hK, hK]) h1 h2).1
structure DdK (K : Nat → List Int) (w : Nat) (ord : List Int) (x : Nat) : Prop where
  up : UpK w (ddK K ord x)
  mem : ∀ k, k ∈ ddK K ord x ↔ ∃ y, y < x ∧ K (ord.getD y 0).toNat = k
  last : 0 < x → 0 < (ddK K ord x).length ∧ (ddK K ord x).getD ((ddK K ord x).length - 1) [] = K (ord.getD (x - 1) 0).toNat
  len : (ddK K ord x).length ≤ x
theorem ddK_law (hK : ∀ j, (K j).length = w) (ord : List Int) (hs : KS.SegUp (RK K) ord 0 ord.length) : ∀ x, x ≤ ord.length → DdK K w ord x := by
  intro x
  induction x with
  | zero => intro _; exact ⟨⟨fun d hd => (by cases hd), fun i j _ hj => (by simp [ddK] at hj)⟩, fun k => ⟨fun h => (by cases h), fun ⟨y, h, _⟩ => (by omega)⟩, fun h => (by omega), Nat.le_refl _⟩
  | succ x ih =>
    intro hx
    have h := ih (by omega)
    by_cases hc : x = 0 ∨ cmpL (K (ord.getD (x - 1) 0).toNat) (K (ord.getD x 0).toNat) ≠ 0
    · have e : ddK K ord (x + 1) = ddK K ord x ++ [K (ord.getD x 0).toNat] := by rw [ddK, if_pos hc]
      have hlt : ∀ d ∈ ddK K ord x, cmpL d (K (ord.getD x 0).toNat) < 0 := fun d hd => by
        obtain ⟨y, hy, rfl⟩ := (h.mem d).1 hd
        have h1 := hs y x (Nat.zero_le _) hy (by omega)
        have hle : cmpL (K (ord.getD y 0).toNat) (K (ord.getD x 0).toNat) ≤ 0 := h1
        rcases hc with hc | hc
        · omega
        · have h2 : cmpL (K (ord.getD (x - 1) 0).toNat) (K (ord.getD x 0).toNat) ≤ 0 := hs (x - 1) x (Nat.zero_le _) (by omega) (by omega)
          by_cases hyx : y = x - 1
          · subst hyx; omega
          · have h3 : cmpL (K (ord.getD y 0).toNat) (K (ord.getD (x - 1) 0).toNat) ≤ 0 := hs y (x - 1) (Nat.zero_le _) (by omega) (by omega)
            have := (cmpL_trans _ _ _ (by rw [hK, hK]) (by rw [hK, hK]) h3 h2).2
            by_cases h0 : cmpL (K (ord.getD y 0).toNat) (K (ord.getD x 0).toNat) = 0
            · exact absurd (this h0).2 hc
            · omega
      rw [show DdK K w ord (x + 1) = DdK K w ord (x + 1) from rfl]
      refine ⟨by rw [e]; exact h.up.snoc (hK _) hlt, fun k => ?_, fun _ => ?_, ?_⟩
      · rw [e, List.mem_append, List.mem_singleton, h.mem]
        constructor
        · rintro (⟨y, hy, e1⟩ | e1)
          · exact ⟨y, by omega, e1⟩
          · exact ⟨x, by omega, e1.symm⟩
        · rintro ⟨y, hy, e1⟩
          by_cases hyx : y = x
          · subst hyx; exact .inr e1.symm
          · exact .inl ⟨y, by omega, e1⟩
      · rw [e, List.length_append, List.length_singleton]
        refine ⟨by omega, ?_⟩
        rw [getD_snocL, if_neg (by omega), if_pos (by omega)]
        rfl
      · rw [e, List.length_append, List.length_singleton]; have := h.len; omega
    · have hx0 : 0 < x := by omega
      have hc0 : cmpL (K (ord.getD (x - 1) 0).toNat) (K (ord.getD x 0).toNat) = 0 := by
        by_cases h0 : cmpL (K (ord.getD (x - 1) 0).toNat) (K (ord.getD x 0).toNat) = 0
        · exact h0
        · exact absurd (.inr h0) hc
      have hkk := (cmpL_eq _ _ (by rw [hK, hK])).1 hc0
      have e : ddK K ord (x + 1) = ddK K ord x := by rw [ddK, if_neg hc]
      refine ⟨by rw [e]; exact h.up, fun k => ?_, fun _ => ?_, by rw [e]; have := h.len; omega⟩
      · rw [e, h.mem]
        constructor
        · rintro ⟨y, hy, e1⟩; exact ⟨y, by omega, e1⟩
        · rintro ⟨y, hy, e1⟩
          by_cases hyx : y = x
          · subst hyx; exact ⟨y - 1, by omega, by rw [hkk]; exact e1⟩
          · exact ⟨y, by omega, e1⟩
      · rw [e]
        obtain ⟨h1, h2⟩ := h.last hx0
        exact ⟨h1, by rw [h2]; exact hkk⟩
theorem ddK_pre (ord : List Int) (x : Nat) : ∀ y, x ≤ y → ∃ E, ddK K ord y = ddK K ord x ++ E := by
  intro y
  induction y with
  | zero =>
    intro h
    obtain rfl : x = 0 := by omega
    exact ⟨[], by simp⟩
  | succ y ih =>
    intro h
    by_cases hxy : x = y + 1
    · subst hxy; exact ⟨[], by simp⟩
    · obtain ⟨E, e⟩ := ih (by omega)
      rw [ddK]
      split
      · exact ⟨E ++ [K (ord.getD y 0).toNat], by rw [e, List.append_assoc]⟩
      · exact ⟨E, e⟩
end
/-! ### insertion -/
def insK : List (List Int) → List Int → List (List Int)
  | [], k => [k]
  | d :: D, k => if cmpL d k = 0 then d :: D else if 0 < cmpL d k then k :: d :: D else d :: insK D k
theorem insK_mem {w : Nat} : ∀ {D : List (List Int)}, UpK w D → ∀ {k : List Int}, k.length = w → ∀ x, x ∈ insK D k ↔ x ∈ D ∨ x = k := by
  intro D
  induction D with
  | nil => intro _ k _ x; simp [insK]
  | cons d D ih =>
    intro h k hk x
    rw [insK]
    split
    · rename_i h0
      have := (cmpL_eq d k (by rw [h.len d (by simp), hk])).1 h0
      subst this
      simp only [List.mem_cons]
      constructor
      · intro h; exact .inl h
      · rintro (h | h)
        · exact h
        · exact .inl h
    · split
      · simp only [List.mem_cons]
        constructor
        · rintro (h | h)
          · exact .inr h
          · exact .inl h
        · rintro (h | h)
          · exact .inr h
          · exact .inl h
      · simp only [List.mem_cons, ih h.tail hk x]
        constructor
        · rintro (h | h | h)
          · exact .inl (.inl h)
          · exact .inl (.inr h)
          · exact .inr h
        · rintro ((h | h) | h)
          · exact .inl h
          · exact .inr (.inl h)
          · exact .inr (.inr h)
theorem UpK.cons {w : Nat} {d : List Int} {D : List (List Int)} (h : UpK w D) (hd : d.length = w) (hl : ∀ x ∈ D, cmpL d x < 0) : UpK w (d :: D) :=
  ⟨fun x hx => by rcases List.mem_cons.1 hx with rfl | hx; exact hd; exact h.len x hx, fun i j hij hj => by
    cases j with
    | zero => omega
    | succ j =>
      cases i with
      | zero =>
        simp only [List.getD_cons_zero, List.getD_cons_succ]
        exact hl _ (getD_memL (by simpa using hj))
      | succ i =>
        simp only [List.getD_cons_succ]
        exact h.up i j (by omega) (by simpa using hj)⟩
theorem insK_up {w : Nat} : ∀ {D : List (List Int)}, UpK w D → ∀ {k : List Int}, k.length = w → UpK w (insK D k) := by
  intro D
  induction D with
  | nil => intro h k hk; exact h.cons hk (fun x hx => by cases hx)
  | cons d D ih =>
    intro h k hk
    rw [insK]
    split
    · exact h
    · rename_i h0
      split
      · rename_i h1
        refine h.cons hk (fun x hx => ?_)
        have hkd : cmpL k d < 0 := by have := cmpL_neg d k; omega
        rcases List.mem_cons.1 hx with rfl | hx
        · exact hkd
        · have hdx := h.head hx
          have hd := h.len d (by simp)
          have hxw := h.len x (by simp [hx])
          have := cmpL_trans k d x (by rw [hk, hd]) (by rw [hd, hxw]) (by omega) (by omega)
          by_cases hz : cmpL k x = 0
          · have := (this.2 hz).1; omega
          · omega
      · rename_i h1
        refine (ih h.tail hk).cons (h.len d (by simp)) (fun x hx => ?_)
        rcases (insK_mem h.tail hk x).1 hx with hx | rfl
        · exact h.head hx
        · omega
/-- Where k is put. -/
def posK : List (List Int) → List Int → Nat
  | [], _ => 0
  | d :: D, k => if cmpL d k < 0 then posK D k + 1 else 0
theorem posK_le (D : List (List Int)) (k : List Int) : posK D k ≤ D.length := by
  induction D with
  | nil => simp [posK]
  | cons d D ih => rw [posK]; split <;> simp <;> omega
theorem posK_lt (D : List (List Int)) (k : List Int) : ∀ i, i < posK D k → cmpL (D.getD i []) k < 0 := by
  induction D with
  | nil => intro i h; simp [posK] at h
  | cons d D ih =>
    intro i h
    rw [posK] at h
    split at h
    · cases i with
      | zero => simpa using (by assumption : cmpL d k < 0)
      | succ i => simpa using ih i (by omega)
    · omega
theorem posK_at (D : List (List Int)) (k : List Int) (h : posK D k < D.length) : 0 ≤ cmpL (D.getD (posK D k) []) k := by
  induction D with
  | nil => simp at h
  | cons d D ih =>
    rw [posK] at h ⊢
    split at h
    · rename_i h0
      rw [if_pos h0]
      simpa using ih (by simpa using h)
    · rename_i h0
      rw [if_neg h0]
      simp only [List.getD_cons_zero]
      omega
theorem posK_eq (D : List (List Int)) (k : List Int) (p : Nat) (hp : p ≤ D.length) (h1 : ∀ i, i < p → cmpL (D.getD i []) k < 0) (h2 : p < D.length → 0 ≤ cmpL (D.getD p []) k) : posK D k = p := by
  rcases Nat.lt_trichotomy (posK D k) p with h | h | h
  · have a := h1 _ h
    have b := posK_at D k (by omega)
    omega
  · exact h
  · have a := posK_lt D k p h
    have b := h2 (by have := posK_le D k; omega)
    omega
theorem insK_found (D : List (List Int)) (k : List Int) (h : posK D k < D.length) (h0 : cmpL (D.getD (posK D k) []) k = 0) : insK D k = D := by
  induction D with
  | nil => simp at h
  | cons d D ih =>
    rw [insK]
    by_cases hd : cmpL d k < 0
    · rw [posK, if_pos hd] at h h0
      rw [if_neg (by omega), if_neg (by omega), ih (by simpa using h) (by simpa using h0)]
    · rw [posK, if_neg hd] at h0
      simp only [List.getD_cons_zero] at h0
      rw [if_pos h0]
theorem insK_new (D : List (List Int)) (k : List Int) (h0 : posK D k < D.length → cmpL (D.getD (posK D k) []) k ≠ 0) : insK D k = D.take (posK D k) ++ k :: D.drop (posK D k) := by
  induction D with
  | nil => simp [insK, posK]
  | cons d D ih =>
    rw [insK]
    by_cases hd : cmpL d k < 0
    · rw [posK, if_pos hd] at h0 ⊢
      rw [if_neg (by omega), if_neg (by omega), ih (fun h => by simpa using h0 (by simpa using h))]
      simp
    · rw [posK, if_neg hd] at h0 ⊢
      have := h0 (by simp)
      simp only [List.getD_cons_zero] at this
      rw [if_neg this, if_pos (by omega)]
      simp
def grK (K : Nat → List Int) : Nat → List (List Int)
  | 0 => []
  | m + 1 => insK (grK K m) (K m)
theorem grK_law {K : Nat → List Int} {w : Nat} (hK : ∀ j, (K j).length = w) : ∀ m, UpK w (grK K m) ∧ (∀ x, x ∈ grK K m ↔ ∃ j, j < m ∧ K j = x) ∧ (grK K m).length ≤ m := by
  intro m
  induction m with
  | zero => exact ⟨⟨fun d hd => (by cases hd), fun i j _ hj => (by simp [grK] at hj)⟩, fun x => ⟨fun h => (by cases h), fun ⟨j, h, _⟩ => (by omega)⟩, Nat.le_refl _⟩
  | succ m ih =>
    obtain ⟨h1, h2, h3⟩ := ih
    refine ⟨insK_up h1 (hK m), fun x => ?_, ?_⟩
    · rw [grK, insK_mem h1 (hK m), h2]
      constructor
      · rintro (⟨j, hj, e⟩ | e)
        · exact ⟨j, by omega, e⟩
        · exact ⟨m, by omega, e.symm⟩
      · rintro ⟨j, hj, e⟩
        by_cases hjm : j = m
        · subst hjm; exact .inr e.symm
        · exact .inl ⟨j, by omega, e⟩
    · rw [grK]
      by_cases hp : posK (grK K m) (K m) < (grK K m).length ∧ cmpL ((grK K m).getD (posK (grK K m) (K m)) []) (K m) = 0
      · rw [insK_found _ _ hp.1 hp.2]; omega
      · rw [insK_new _ _ (fun h hh => hp ⟨h, hh⟩)]
        have := posK_le (grK K m) (K m)
        simp
        omega
/-- The two ways to the keys come to the same. -/
theorem ddK_grK {K : Nat → List Int} {w m : Nat} (hK : ∀ j, (K j).length = w) (ord : List Int) (hl : ord.length = m) (hs : KS.SegUp (RK K) ord 0 ord.length) (hm : ∀ v, v ∈ ord ↔ ∃ j : Nat, j < m ∧ (j : Int) = v) : ddK K ord m = grK K m := by
  have h := ddK_law hK ord hs m (by omega)
  obtain ⟨h1, h2, _⟩ := grK_law hK m
  refine UpK.ext h.up h1 (fun x => ?_)
  rw [h.mem, h2]
  constructor
  · rintro ⟨y, hy, e⟩
    have hmem : ord.getD y 0 ∈ ord := by rw [List.getD_eq_getElem?_getD, List.getElem?_eq_getElem (by omega)]; exact List.getElem_mem _
    obtain ⟨j, hj, e2⟩ := (hm _).1 hmem
    rw [← e2, Int.toNat_natCast] at e
    exact ⟨j, hj, e⟩
  · rintro ⟨j, hj, e⟩
    obtain ⟨y, hy, e2⟩ := List.getElem_of_mem ((hm (j : Int)).2 ⟨j, hj, rfl⟩)
    refine ⟨y, by omega, ?_⟩
    rw [List.getD_eq_getElem?_getD, List.getElem?_eq_getElem hy]
    show K (ord[y]).toNat = x
    rw [e2, Int.toNat_natCast]
    exact e
/-- The group of a key. -/
def gidK (D : List (List Int)) (k : List Int) : Nat := (D.findIdx (fun d => cmpL d k == 0))
theorem gidK_of {w : Nat} {D : List (List Int)} (h : UpK w D) {k : List Int} {g : Nat} (hg : g < D.length) (e : D.getD g [] = k) : gidK D k = g := by
  unfold gidK
  have hk : k.length = w := by rw [← e]; exact h.len _ (getD_memL hg)
  have hex : ∃ x ∈ D, (fun d => cmpL d k == 0) x = true := ⟨D.getD g [], getD_memL hg, by rw [e]; simp [cmpL_self]⟩
  have hl := List.findIdx_lt_length_of_exists hex
  have hp := List.findIdx_getElem (w := hl)
  refine h.inj hl hg ?_
  rw [e, List.getD_eq_getElem?_getD, List.getElem?_eq_getElem hl]
  show D[List.findIdx (fun d => cmpL d k == 0) D] = k
  exact (cmpL_eq _ _ (by rw [h.len _ (List.getElem_mem hl), hk])).1 (by simpa using hp)
end Go.Proofs.YbyabwGreat
