/- Walks: spec.inGroup, spec.reachCols -/
import Derived.Test.YbyabwGreatSpc2
namespace Go.Proofs.YbyabwGreat
open Go.RowKit
set_option maxRecDepth 100000
set_option linter.unusedVariables false
set_option linter.unusedSimpArgs false

/-- What is still to be looked at: the columns so far, the nodes below k that are reached. -/
def Rch (nd : List Nd) (root k : Nat) (rs : List Bool) (cols : List Int) : Prop := ∀ gr : List Int, okAt gr nd root = true ↔ ((∀ c ∈ cols, c ∈ gr) ∧ ∀ i, i < k → rs.getD i false = true → okAt gr nd i = true)
section
variable {nd : List Nd} {nc : Int} {root k : Nat} {rs : List Bool} {cols : List Int}
theorem set_get (rs : List Bool) (l i : Nat) (hl : l < rs.length) : (rs.set l true).getD i false = true ↔ (i = l ∨ rs.getD i false = true) := by
  rw [List.getD_eq_getElem?_getD, List.getD_eq_getElem?_getD, List.getElem?_set]
  by_cases h : l = i
  · subst h; simp [hl]
  · rw [if_neg h]
    constructor
    · intro h1; exact .inr h1
    · rintro (h1 | h1)
      · exact absurd h1.symm h
      · exact h1
theorem Rch.skip (h : Rch nd root (k + 1) rs cols) (hr : rs.getD k false = false) : Rch nd root k rs cols := fun gr => by
  rw [h gr]
  refine and_congr_right fun _ => ⟨fun h1 i hi => h1 i (by omega), fun h1 i hi hri => ?_⟩
  by_cases hik : i < k
  · exact h1 i hik hri
  · obtain rfl : i = k := by omega
    rw [hr] at hri; cases hri
theorem Rch.lit (h : Rch nd root (k + 1) rs cols) (ho : (nd.getD k nd0).op = 1) : Rch nd root k rs cols := fun gr => by
  rw [h gr]
  refine and_congr_right fun _ => ⟨fun h1 i hi => h1 i (by omega), fun h1 i hi hri => ?_⟩
  by_cases hik : i < k
  · exact h1 i hik hri
  · obtain rfl : i = k := by omega
    exact okAt_lit ho
theorem Rch.col (h : Rch nd root (k + 1) rs cols) (hr : rs.getD k false = true) (ho : (nd.getD k nd0).op = 2) : Rch nd root k rs (cols ++ [(nd.getD k nd0).val]) := fun gr => by
  rw [h gr]
  constructor
  · rintro ⟨h1, h2⟩
    refine ⟨fun c hc => ?_, fun i hi => h2 i (by omega)⟩
    rcases List.mem_append.1 hc with hc | hc
    · exact h1 c hc
    · rw [List.mem_singleton] at hc
      have := h2 k (by omega) hr
      rw [okAt_col ho] at this
      rw [hc]
      exact of_decide_eq_true this
  · rintro ⟨h1, h2⟩
    refine ⟨fun c hc => h1 c (by simp [hc]), fun i hi hri => ?_⟩
    by_cases hik : i < k
    · exact h2 i hik hri
    · obtain rfl : i = k := by omega
      rw [okAt_col ho]
      exact decide_eq_true (h1 _ (by simp))
theorem Rch.un {l : Nat} (h : Rch nd root (k + 1) rs cols) (hr : rs.getD k false = true) (ho : (nd.getD k nd0).op = 3 ∨ (nd.getD k nd0).op = 15) (hl : (nd.getD k nd0).l = (l : Int)) (hlk : l < k) (hll : l < rs.length) : Rch nd root k (rs.set l true) cols := fun gr => by
  rw [h gr]
  refine and_congr_right fun _ => ⟨fun h1 i hi hri => ?_, fun h1 i hi hri => ?_⟩
  · rcases (set_get rs l i hll).1 hri with rfl | hri
    · have := h1 k (by omega) hr
      rw [okAt_un ho hl hlk] at this
      exact this
    · exact h1 i (by omega) hri
  · by_cases hik : i < k
    · exact h1 i hik ((set_get rs l i hll).2 (.inr hri))
    · obtain rfl : i = k := by omega
      rw [okAt_un ho hl hlk]
      exact h1 l hlk ((set_get rs l l hll).2 (.inl rfl))
theorem Rch.bi {l r : Nat} (h : Rch nd root (k + 1) rs cols) (hr : rs.getD k false = true) (ho : 4 ≤ (nd.getD k nd0).op ∧ (nd.getD k nd0).op ≤ 14) (hl : (nd.getD k nd0).l = (l : Int)) (hrr : (nd.getD k nd0).r = (r : Int)) (hlk : l < k) (hrk : r < k) (hll : l < rs.length) (hrl : r < rs.length) : Rch nd root k ((rs.set l true).set r true) cols := fun gr => by
  have hrl2 : r < (rs.set l true).length := by rw [List.length_set]; exact hrl
  rw [h gr]
  refine and_congr_right fun _ => ⟨fun h1 i hi hri => ?_, fun h1 i hi hri => ?_⟩
  · have hk := h1 k (by omega) hr
    rw [okAt_bi ho hl hrr hlk hrk, Bool.and_eq_true] at hk
    rcases (set_get _ r i hrl2).1 hri with rfl | hri
    · exact hk.2
    · rcases (set_get rs l i hll).1 hri with rfl | hri
      · exact hk.1
      · exact h1 i (by omega) hri
  · by_cases hik : i < k
    · exact h1 i hik ((set_get _ r i hrl2).2 (.inr ((set_get rs l i hll).2 (.inr hri))))
    · obtain rfl : i = k := by omega
      rw [okAt_bi ho hl hrr hlk hrk, Bool.and_eq_true]
      exact ⟨h1 l hlk ((set_get _ r l hrl2).2 (.inr ((set_get rs l l hll).2 (.inl rfl)))), h1 r hrk ((set_get _ r r hrl2).2 (.inl rfl))⟩
theorem Rch.start (nd : List Nd) (root : Nat) : Rch nd root (root + 1) ((List.replicate (root + 1) false).set root true) [] := fun gr => by
  constructor
  · intro h1
    refine ⟨fun c hc => (by cases hc), fun i hi hri => ?_⟩
    rcases (set_get _ root i (by simp)).1 hri with rfl | hri
    · exact h1
    · rw [List.getD_eq_getElem?_getD, List.getElem?_replicate] at hri
      split at hri <;> cases hri
  · rintro ⟨_, h2⟩
    exact h2 root (by omega) ((set_get _ root root (by simp)).2 (.inl rfl))
theorem Rch.done (h : Rch nd root 0 rs cols) (gr : List Int) : okAt gr nd root = true ↔ ∀ c ∈ cols, c ∈ gr := by
  rw [h gr]
  exact ⟨fun h1 => h1.1, fun h1 => ⟨h1, fun i hi => by omega⟩⟩
end
set_option maxHeartbeats 2000000 in
theorem inGroup (gr : List Int) (ga : Option Addr) (gc : Nat) (c : Int) (w : World) (hG : Hid (IntsAt w ga gr)) (hl : gr.length ≤ 131072) :
    Calls Yabn.prog 62 #[.slice ga gr.length gc, .int .i64 c] w (RetBool (c ∈ gr) w) := by
  go_enter Yabn.func62, Yabn.ntmps62
  go_wp2
  go_loopw [5] (fun i wr => ∃ k : Nat, i = .int .i64 k ∧ k ≤ gr.length ∧ Hid (∀ j, j < k → gr.getD j 0 ≠ c) ∧ Hid (Ext w wr)) (fun i _ => gr.length - (intOf i).toNat)
  case atStart => exact ⟨0, rfl, Nat.zero_le _, fun j hj => by omega, Ext.refl w⟩
  obtain ⟨k, rfl, hk, hpre, hX⟩ := hrel
  by_cases hlt : k < gr.length
  · have hlt' : (k : Int) < gr.length := by omega
    have hmem : Hid (gr.getD k 0 ∈ gr) := getD_mem_I gr k hlt
    obtain ⟨b, off, rfl, c1⟩ := (hG.out.ext hX.out) k hlt
    by_cases he : gr.getD k 0 = c
    · rw [he] at c1 hmem
      have heb : (c == c) = true := by simp
      replace he := hide he
      go_wp2
      go_ret
      exact ⟨true, rfl, ⟨fun _ => hmem.out, fun _ => rfl⟩, hX.out⟩
    · have hnx : Hid (∀ j, j < k + 1 → gr.getD j 0 ≠ c) := fun j hj => by
        by_cases hjk : j < k
        · exact hpre.out j hjk
        · obtain rfl : j = k := by omega
          exact he
      obtain ⟨y, hy⟩ : ∃ y, gr.getD k 0 = y := ⟨_, rfl⟩
      rw [hy] at c1 he
      have heb : (y == c) = false := by simp [he]
      clear hy
      replace he := hide he
      go_wp2
      go_roundw
      case rel => exact ⟨k + 1, by go_num, by omega, hnx.out, hX.out⟩
      case measure => simp [intOf]; omega
  · have hlt' : ¬ (k : Int) < gr.length := by omega
    have hno : Hid (¬ c ∈ gr) := fun hm => by
      obtain ⟨j, hj, e⟩ := List.getElem_of_mem hm
      refine hpre.out j (by omega) ?_
      rw [List.getD_eq_getElem?_getD, List.getElem?_eq_getElem hj]
      exact e
    go_wp2
    go_ret
    exact RetBool.no hno.out hX.out
end Go.Proofs.YbyabwGreat
