/- What a plan answers, plainly. No Go here. -/
import Derived.Test.YbyabwGreatGrp3
namespace Go.Proofs.YbyabwGreat
open Go.RowKit
set_option linter.unusedVariables false
set_option linter.unusedSimpArgs false

/-- Rows of w cells, side by side. -/
def Cel {α : Type} (d : α) (L : List α) (m w : Nat) (F : Nat → Nat → α) : Prop := L.length = m * w ∧ ∀ g k, g < m → k < w → L.getD (g * w + k) d = F g k
theorem at_inj {w g k g' k' : Nat} (hk : k < w) (hk' : k' < w) (h : g * w + k = g' * w + k') : g = g' ∧ k = k' := by
  have e1 : (g * w + k) / w = g := by rw [Nat.mul_comm, Nat.mul_add_div (by omega), Nat.div_eq_of_lt hk]; omega
  have e2 : (g' * w + k') / w = g' := by rw [Nat.mul_comm, Nat.mul_add_div (by omega), Nat.div_eq_of_lt hk']; omega
  have e3 : (g * w + k) % w = k := by rw [Nat.mul_comm, Nat.mul_add_mod, Nat.mod_eq_of_lt hk]
  have e4 : (g' * w + k') % w = k' := by rw [Nat.mul_comm, Nat.mul_add_mod, Nat.mod_eq_of_lt hk']
  rw [h] at e1 e3
  exact ⟨by omega, by omega⟩
section
variable {α : Type} {d : α} {L : List α} {m w : Nat} {F F' : Nat → Nat → α}
theorem Cel.congr (h : Cel d L m w F) (he : ∀ g k, g < m → k < w → F g k = F' g k) : Cel d L m w F' := ⟨h.1, fun g k hg hk => by rw [h.2 g k hg hk, he g k hg hk]⟩
theorem Cel.lt (h : Cel d L m w F) {g k : Nat} (hg : g < m) (hk : k < w) : g * w + k < L.length := by rw [h.1]; exact at_lt hg hk
theorem getD_setA (L : List α) (i j : Nat) (x d : α) (hi : i < L.length) : (L.set i x).getD j d = if j = i then x else L.getD j d := by
  rw [List.getD_eq_getElem?_getD, List.getD_eq_getElem?_getD, List.getElem?_set]
  by_cases h : j = i
  · subst h; simp [hi]
  · rw [if_neg (fun e => h e.symm), if_neg h]
theorem Cel.set (h : Cel d L m w F) {g k : Nat} (hg : g < m) (hk : k < w) (x : α) (he : ∀ g' k', g' < m → k' < w → (g' ≠ g ∨ k' ≠ k) → F g' k' = F' g' k') (hx : F' g k = x) : Cel d (L.set (g * w + k) x) m w F' := by
  refine ⟨by rw [List.length_set]; exact h.1, fun g' k' hg' hk' => ?_⟩
  rw [getD_setA _ _ _ _ _ (h.lt hg hk)]
  by_cases e : g' * w + k' = g * w + k
  · rw [if_pos e]
    obtain ⟨rfl, rfl⟩ := at_inj hk' hk e
    exact hx.symm
  · rw [if_neg e, h.2 g' k' hg' hk']
    refine he g' k' hg' hk' ?_
    by_cases e2 : g' = g
    · right; intro e3; subst e2; subst e3; exact e rfl
    · exact .inl e2
/-- Nothing to store. -/
theorem Cel.same (h : Cel d L m w F) {g k : Nat} (hg : g < m) (hk : k < w) (he : ∀ g' k', g' < m → k' < w → (g' ≠ g ∨ k' ≠ k) → F g' k' = F' g' k') (hx : F' g k = L.getD (g * w + k) d) : Cel d L m w F' := by
  refine ⟨h.1, fun g' k' hg' hk' => ?_⟩
  by_cases e2 : g' = g ∧ k' = k
  · obtain ⟨rfl, rfl⟩ := e2; exact hx.symm
  · rw [h.2 g' k' hg' hk']
    refine he g' k' hg' hk' ?_
    by_cases e3 : g' = g
    · right; intro e4; exact e2 ⟨e3, e4⟩
    · exact .inl e3
end
def flC (F : Nat → Nat → Int) (w m : Nat) : List Int := (List.range (m * w)).map (fun t => F (t / w) (t % w))
theorem flC_len (F : Nat → Nat → Int) (w m : Nat) : (flC F w m).length = m * w := by simp [flC]
theorem flC_at (F : Nat → Nat → Int) (w m g k : Nat) (hg : g < m) (hk : k < w) : (flC F w m).getD (g * w + k) 0 = F g k := by
  have h := at_lt hg hk
  have e1 : (g * w + k) / w = g := by rw [Nat.mul_comm, Nat.mul_add_div (by omega), Nat.div_eq_of_lt hk]; omega
  have e2 : (g * w + k) % w = k := by rw [Nat.mul_comm, Nat.mul_add_mod, Nat.mod_eq_of_lt hk]
  unfold flC
  rw [List.getD_eq_getElem?_getD, List.getElem?_map, List.getElem?_range h]
  simp [e1, e2]
theorem flC_cel (F : Nat → Nat → Int) (w m : Nat) : Cel 0 (flC F w m) m w F := ⟨flC_len F w m, fun g k hg hk => flC_at F w m g k hg hk⟩
theorem Cel.eq {L : List Int} {m w : Nat} {F : Nat → Nat → Int} (h : Cel 0 L m w F) : L = flC F w m := by
  refine list_extI (by rw [h.1, flC_len]) (fun i hi => ?_)
  rw [h.1] at hi
  have hw : 0 < w := by
    rcases Nat.eq_zero_or_pos w with h0 | h0
    · rw [h0] at hi; simp at hi
    · exact h0
  have e : i = (i / w) * w + i % w := by rw [Nat.mul_comm]; exact (Nat.div_add_mod i w).symm
  have h1 : i / w < m := by rw [Nat.div_lt_iff_lt_mul hw]; exact hi
  have h2 : i % w < w := Nat.mod_lt _ hw
  rw [e, h.2 _ _ h1 h2, flC_at _ _ _ _ _ h1 h2]
theorem flC_congr {F F' : Nat → Nat → Int} {w m : Nat} (h : ∀ g k, g < m → k < w → F g k = F' g k) : flC F w m = flC F' w m := ((flC_cel F w m).congr h).eq
theorem flC_take (F : Nat → Nat → Int) (w m m' : Nat) (h : m' ≤ m) : (flC F w m).take (m' * w) = flC F w m' := by
  unfold flC
  rw [← List.map_take, List.take_range, Nat.min_eq_left (Nat.mul_le_mul_right w h)]
theorem flC_succ (F : Nat → Nat → Int) (w m : Nat) : flC F w (m + 1) = flC F w m ++ (List.range w).map (F m) := by
  symm
  refine Cel.eq ⟨by simp [flC_len, Nat.add_mul], fun g k hg hk => ?_⟩
  by_cases hgm : g < m
  · rw [List.getD_eq_getElem?_getD, List.getElem?_append_left (by rw [flC_len]; exact at_lt hgm hk), ← List.getD_eq_getElem?_getD, flC_at _ _ _ _ _ hgm hk]
  · obtain rfl : g = m := by omega
    rw [List.getD_eq_getElem?_getD, List.getElem?_append_right (by rw [flC_len]; omega), flC_len, Nat.add_sub_cancel_left]
    simp [hk]
/-- One value more for an aggregate. -/
def stepV (ag : Int) (s : Int × Bool) (x : Int) : Int :=
  if ag = 0 then (if s.2 = true then s.1 else x)
  else if ag = 1 then wrap64 (s.1 + x)
  else if ag = 2 then (if s.2 = true ∧ ¬ x < s.1 then s.1 else x)
  else if ag = 3 then (if s.2 = true ∧ ¬ s.1 < x then s.1 else x)
  else if ag = 4 then (if x = 0 then s.1 else wrap64 (s.1 + 1))
  else if ag = 5 then wrap64 (s.1 + 1) else s.1
def accL (ag : Int) (xs : List Int) : Int × Bool := xs.foldl (fun s x => (stepV ag s x, true)) (0, false)
theorem accL_nil (ag : Int) : accL ag [] = (0, false) := rfl
theorem accL_snoc (ag : Int) (xs : List Int) (x : Int) : accL ag (xs ++ [x]) = (stepV ag (accL ag xs) x, true) := by simp [accL]
theorem accL_seen (ag : Int) (xs : List Int) : (accL ag xs).2 = decide (xs ≠ []) := by
  rcases List.eq_nil_or_concat xs with rfl | ⟨ys, y, rfl⟩
  · rfl
  · rw [List.concat_eq_append, accL_snoc]; simp
def aggL (ag : Int) (xs : List Int) (z : Int) : Int := if ag = 0 ∧ xs = [] then z else (accL ag xs).1
/-- The members of a group among the first j rows. -/
def memG (ids : List Int) (g : Nat) : Nat → List Int
  | 0 => []
  | j + 1 => if ids.getD j 0 = (g : Int) then memG ids g j ++ [(j : Int)] else memG ids g j
theorem memG_len (ids : List Int) (g : Nat) : ∀ j, (memG ids g j).length ≤ j := by
  intro j
  induction j with
  | zero => simp [memG]
  | succ j ih =>
    simp only [memG]
    split
    · simp; exact ih
    · omega
theorem memG_mem (ids : List Int) (g : Nat) (x : Int) : ∀ j, x ∈ memG ids g j ↔ ∃ i : Nat, i < j ∧ x = (i : Int) ∧ ids.getD i 0 = (g : Int) := by
  intro j
  induction j with
  | zero => simp [memG]
  | succ j ih =>
    simp only [memG]
    split
    · rename_i h
      rw [List.mem_append, ih, List.mem_singleton]
      constructor
      · rintro (⟨i, h1, h2, h3⟩ | rfl)
        · exact ⟨i, by omega, h2, h3⟩
        · exact ⟨j, by omega, rfl, h⟩
      · rintro ⟨i, h1, h2, h3⟩
        by_cases hij : i = j
        · exact .inr (by rw [h2, hij])
        · exact .inl ⟨i, by omega, h2, h3⟩
    · rename_i h
      rw [ih]
      constructor
      · rintro ⟨i, h1, h2, h3⟩; exact ⟨i, by omega, h2, h3⟩
      · rintro ⟨i, h1, h2, h3⟩
        by_cases hij : i = j
        · subst hij; exact absurd h3 h
        · exact ⟨i, by omega, h2, h3⟩
/-- Item k on a row. -/
def itV (p : Pl) (row : List Int) (k : Nat) : Int := if (p.its.getD k (0, 0)).2 < 0 then 0 else evX p.code row (p.its.getD k (0, 0)).2.toNat
def vJ (p : Pl) (rows : Nat → List Int) (sel : List Int) (j k : Nat) : Int := itV p (rows (sel.getD j 0).toNat) k
def accJ (p : Pl) (rows : Nat → List Int) (sel ids : List Int) (g k j : Nat) : Int × Bool := accL (p.its.getD k (0, 0)).1 ((memG ids g j).map (fun i => vJ p rows sel i.toNat k))
theorem accJ_zero (p : Pl) (rows : Nat → List Int) (sel ids : List Int) (g k : Nat) : accJ p rows sel ids g k 0 = (0, false) := rfl
theorem accJ_in (p : Pl) (rows : Nat → List Int) (sel ids : List Int) (g k j : Nat) (h : ids.getD j 0 = (g : Int)) : accJ p rows sel ids g k (j + 1) = (stepV (p.its.getD k (0, 0)).1 (accJ p rows sel ids g k j) (vJ p rows sel j k), true) := by
  unfold accJ
  rw [memG, if_pos h, List.map_append, List.map_singleton, accL_snoc, Int.toNat_natCast]
theorem accJ_out (p : Pl) (rows : Nat → List Int) (sel ids : List Int) (g k j : Nat) (h : ids.getD j 0 ≠ (g : Int)) : accJ p rows sel ids g k (j + 1) = accJ p rows sel ids g k j := by
  unfold accJ
  rw [memG, if_neg h]
/-- Item k of group g. -/
def grpV (p : Pl) (rows : Nat → List Int) (sel ids : List Int) (nc g k : Nat) : Int := aggL (p.its.getD k (0, 0)).1 ((memG ids g sel.length).map (fun i => vJ p rows sel i.toNat k)) (itV p (List.replicate nc 0) k)
theorem grpV_seen (p : Pl) (rows : Nat → List Int) (sel ids : List Int) (nc g k : Nat) : grpV p rows sel ids nc g k = if (p.its.getD k (0, 0)).1 = 0 ∧ (accJ p rows sel ids g k sel.length).2 = false then itV p (List.replicate nc 0) k else (accJ p rows sel ids g k sel.length).1 := by
  unfold grpV aggL accJ
  have e := accL_seen (p.its.getD k (0, 0)).1 ((memG ids g sel.length).map (fun i => vJ p rows sel i.toNat k))
  by_cases h : (memG ids g sel.length).map (fun i => vJ p rows sel i.toNat k) = []
  · rw [h] at e ⊢
    simp only [accL_nil, and_true]
  · rw [if_neg (fun hh => h hh.2), if_neg (fun hh => by rw [e] at hh; simp at hh; exact h (by simp [hh.2]))]
def lim (li : Int) (m : Nat) : Nat := if 0 ≤ li ∧ li < m then li.toNat else m
theorem lim_le (li : Int) (m : Nat) : lim li m ≤ m := by unfold lim; split <;> omega
/-- How many rows the answer has without a limit, its cells, and the answer. -/
def runM (p : Pl) (rows : Nat → List Int) (n : Nat) : Nat := if p.ag = true then gNum p.gr rows (slTo p rows n) else (slTo p rows n).length
def runC (p : Pl) (rows : Nat → List Int) (n nc g k : Nat) : Int := if p.ag = true then grpV p rows (slTo p rows n) (gIds p.gr rows (slTo p rows n)) nc g k else vJ p rows (slTo p rows n) g k
def run (p : Pl) (rows : Nat → List Int) (n nc : Nat) : List Int := flC (runC p rows n nc) p.its.length (lim p.li (runM p rows n))
end Go.Proofs.YbyabwGreat
