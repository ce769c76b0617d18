/- Plain and small: what spec.answer holds on its way -/
import Derived.Test.YbyabwGreatRunP
import Derived.Test.YbyabwGreatGrp8
namespace Go.Proofs.YbyabwGreat
open Go.RowKit
set_option linter.unusedVariables false
set_option linter.unusedSimpArgs false

section
variable {p : Pl} {f : Nat → List Int}
theorem slTo_pre : ∀ n i, i ≤ n → ∃ E, slTo p f n = slTo p f i ++ E := by
  intro n
  induction n with
  | zero => intro i h; obtain rfl : i = 0 := by omega
            exact ⟨[], by simp⟩
  | succ n ih =>
    intro i h
    by_cases hi : i ≤ n
    · obtain ⟨E, e⟩ := ih i hi
      simp only [slTo]
      split
      · exact ⟨E ++ [(n : Int)], by rw [e, List.append_assoc]⟩
      · exact ⟨E, e⟩
    · obtain rfl : i = n + 1 := by omega
      exact ⟨[], by simp⟩
theorem slTo_yes {i : Nat} (h : selB p (f i) = true) : slTo p f (i + 1) = slTo p f i ++ [(i : Int)] := by simp only [slTo]; rw [if_pos h]
theorem slTo_no {i : Nat} (h : selB p (f i) = false) : slTo p f (i + 1) = slTo p f i := by simp only [slTo]; rw [if_neg (by rw [h]; simp)]
theorem slTo_at {n i : Nat} (hi : i < n) (h : selB p (f i) = true) : (slTo p f n).getD (slTo p f i).length 0 = (i : Int) := by
  obtain ⟨E, e⟩ := slTo_pre (p := p) (f := f) n (i + 1) hi
  rw [e, slTo_yes h, List.append_assoc, List.getD_eq_getElem?_getD, List.getElem?_append_right (Nat.le_refl _), Nat.sub_self]
  rfl
theorem slTo_sel : ∀ n : Nat, SelOK (slTo p f n) n := by
  intro n
  induction n with
  | zero => intro j hj; simp [slTo] at hj
  | succ n ih =>
    have hm : SelOK (slTo p f n) ((n + 1 : Nat) : Int) := fun j hj => ⟨(ih j hj).1, by have := (ih j hj).2.1; omega, (ih j hj).2.2⟩
    by_cases h : selB p (f n) = true
    · rw [slTo_yes h]
      intro j hj
      by_cases hjl : j < (slTo p f n).length
      · obtain ⟨a, b, c⟩ := hm j hjl
        have e : ∀ i, i < (slTo p f n).length → (slTo p f n ++ [(n : Int)]).getD i 0 = (slTo p f n).getD i 0 := fun i hi => by
          rw [List.getD_eq_getElem?_getD, List.getElem?_append_left hi, ← List.getD_eq_getElem?_getD]
        unfold ItS
        rw [e j hjl]
        refine ⟨a, b, fun h0 => ?_⟩
        rw [e (j - 1) (by omega)]
        exact c h0
      · rw [List.length_append, List.length_singleton] at hj
        obtain rfl : j = (slTo p f n).length := by omega
        have e1 : (slTo p f n ++ [(n : Int)]).getD (slTo p f n).length 0 = (n : Int) := by
          rw [List.getD_eq_getElem?_getD, List.getElem?_append_right (Nat.le_refl _), Nat.sub_self]; rfl
        unfold ItS
        rw [e1]
        refine ⟨by omega, by omega, fun h0 => ?_⟩
        rw [List.getD_eq_getElem?_getD, List.getElem?_append_left (by omega), ← List.getD_eq_getElem?_getD]
        have := (ih ((slTo p f n).length - 1) (by omega)).2.1
        exact this
    · rw [slTo_no (by simpa using h)]
      exact hm
end
/-- The items' values on a row. -/
def itsV (p : Pl) (row : List Int) : List Int := (List.range p.its.length).map (itV p row)
theorem itsV_len (p : Pl) (row : List Int) : (itsV p row).length = p.its.length := by simp [itsV]
theorem itsV_at (p : Pl) (row : List Int) (k : Nat) (h : k < p.its.length) : (itsV p row).getD k 0 = itV p row k := by simp [itsV, h]
def ivF (p : Pl) (rows : Nat → List Int) (sel : List Int) : Nat → List Int := fun j => itsV p (rows (sel.getD j 0).toNat)
theorem ivF_at (p : Pl) (rows : Nat → List Int) (sel : List Int) (j k : Nat) (h : k < p.its.length) : (ivF p rows sel j).getD k 0 = vJ p rows sel j k := itsV_at p _ k h
theorem ivF_range (p : Pl) (rows : Nat → List Int) (sel : List Int) (j : Nat) : ivF p rows sel j = (List.range p.its.length).map (vJ p rows sel j) := rfl
/-- Nothing selected and one group, or every group has a member. -/
theorem mem_ne (gr : List Int) (rows : Nat → List Int) (sel : List Int) (g : Nat) (hg : g < gNum gr rows sel) (h0 : 0 < sel.length) : memG (gIds gr rows sel) g sel.length ≠ [] := by
  suffices h : ∃ j : Nat, j < sel.length ∧ (gIds gr rows sel).getD j 0 = (g : Int) by
    obtain ⟨j, hj, e⟩ := h
    have := (memG_mem (gIds gr rows sel) g (j : Int) sel.length).2 ⟨j, hj, rfl, e⟩
    intro hn
    rw [hn] at this
    cases this
  by_cases hgl : gr.length = 0
  · refine ⟨0, h0, ?_⟩
    unfold gNum at hg
    rw [if_pos hgl] at hg
    obtain rfl : g = 0 := by omega
    rw [gIds_nil rows sel gr hgl]
    simp [h0]
  · unfold gNum at hg
    rw [if_neg hgl] at hg
    obtain ⟨h1, h2, _⟩ := grK_law (K := keyJ gr rows sel) (w := gr.length) (keyJ_len gr rows sel) sel.length
    obtain ⟨j, hj, e⟩ := (h2 _).1 (getD_memL (D := gKeys gr rows sel) (i := g) hg)
    refine ⟨j, hj, ?_⟩
    rw [gIds_at _ _ _ _ hj]
    have : gidK (gKeys gr rows sel) (keyJ gr rows sel j) = g := gidK_of h1 hg e.symm
    rw [this]
theorem gNum_zero (gr : List Int) (rows : Nat → List Int) (sel : List Int) (h0 : sel.length = 0) : gNum gr rows sel = if gr.length = 0 then 1 else 0 := by
  unfold gNum
  split
  · rfl
  · obtain ⟨h1, h2, _⟩ := grK_law (K := keyJ gr rows sel) (w := gr.length) (keyJ_len gr rows sel) sel.length
    rcases Nat.eq_zero_or_pos (gKeys gr rows sel).length with h | h
    · exact h
    · obtain ⟨j, hj, _⟩ := (h2 _).1 (getD_memL (D := gKeys gr rows sel) (i := 0) h)
      omega
theorem aggL_z {ag : Int} {xs : List Int} (z z' : Int) (h : xs ≠ []) : aggL ag xs z = aggL ag xs z' := by unfold aggL; rw [if_neg (fun hh => h hh.2), if_neg (fun hh => h hh.2)]
def Abv (b : Nat) (a : Option Addr) : Prop := ∀ p, a = some p → b ≤ p.block
theorem OwnI.abv {w : World} {base b : Nat} {e : TypeId} {a : Option Addr} {n cap : Nat} {xs : List Int} (h : OwnI w base e (.slice a n cap) xs) (hb : b ≤ base) : Abv b a := fun p hp => by
  subst hp
  obtain ⟨a', c', e', hf⟩ := h.form
  injection e' with e1 e2 e3
  subst e1
  rcases hf with ⟨h1, _⟩ | ⟨g, h1⟩
  · cases h1
  · cases h1
    exact Nat.le_trans hb (World.ownsRow.lt h g rfl).1
theorem IntsAt.keptB {w w' : World} {a : Option Addr} {b b' : Nat} {xs : List Int} (h : IntsAt w a xs) (ha : Abv b' a) (hg : w.grownBy w' (some b)) (hb : b < b') : IntsAt w' a xs := fun i hi => by
  obtain ⟨g, off, e, hc⟩ := h i hi
  have h1 := ha _ e
  refine ⟨g, off, e, ?_⟩
  have hb2 : But (fun q => q = b) w w' := But.of_grown hg (fun q hq => by cases hq; rfl)
  exact hb2.cell hc (fun h2 => by have h3 : g = b := h2; simp only at h1; omega)
def RetAns (c : Nat) (xs : List Int) (w : World) : Ending → World → Prop := fun en w' => ∃ a cap, en = .returned (.agg #[.int .i64 c, .slice a xs.length cap]) ∧ IntsAt w' a xs ∧ Abv w.heap.size a ∧ Ext w w'
theorem IntsAt.take {w : World} {a : Option Addr} {xs : List Int} (h : IntsAt w a xs) (n : Nat) : IntsAt w a (xs.take n) := fun i hi => by
  have hi' : i < xs.length := by simp at hi; omega
  obtain ⟨b, off, e, hc⟩ := h i hi'
  refine ⟨b, off, e, ?_⟩
  rw [List.getD_eq_getElem?_getD, List.getElem?_take_of_lt (by simp at hi; omega), ← List.getD_eq_getElem?_getD]
  exact hc
theorem OwnI.cap_le {w : World} {base : Nat} {e : TypeId} {a : Option Addr} {n cap : Nat} {xs : List Int} (h : OwnI w base e (.slice a n cap) xs) : xs.length ≤ cap := by
  rcases h.2 with ⟨hv, hn⟩ | ⟨g, cap', cur, hv, hg, hh, hnc, _⟩
  · omega
  · cases hv; omega
theorem size_res : (Yabn.prog.info? 34).map (·.size) = some 2 := by kernel_rfl
def rsz : List Value := [.int .i64 0, .slice none 0 0]
theorem rsz_one : ∀ u ∈ rsz, u.oneCell' = true := by simp [rsz, Value.oneCell']
end Go.Proofs.YbyabwGreat
