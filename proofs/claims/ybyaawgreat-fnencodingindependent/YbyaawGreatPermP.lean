/- The order of the rows does not matter where groups are asked for without a limit. No Go here. -/
import Derived.Test.YbyaawGreatAns0
import Derived.Test.YbyaawGreatRunQ
namespace Go.Proofs.YbyaawGreat
open Go.RowKit
set_option linter.unusedVariables false
set_option linter.unusedSimpArgs false

def kR (gr : List Int) (row : List Int) : List Int := gr.map (fun g => row.getD g.toNat 0)
theorem keyJ_kR (gr : List Int) (rows : Nat → List Int) (sel : List Int) (j : Nat) : keyJ gr rows sel j = kR gr (rows (sel.getD j 0).toNat) := rfl
/-- The selected rows. -/
def selR (rows : Nat → List Int) (sel : List Int) : List (List Int) := sel.map (fun s => rows s.toNat)
theorem selR_len (rows : Nat → List Int) (sel : List Int) : (selR rows sel).length = sel.length := by simp [selR]
theorem slTo_rows (p : Pl) (rows : Nat → List Int) : ∀ n, selR rows (slTo p rows n) = ((List.range n).map rows).filter (selB p) := by
  intro n
  induction n with
  | zero => rfl
  | succ n ih =>
    rw [List.range_succ, List.map_append, List.filter_append, ← ih]
    simp only [slTo]
    by_cases h : selB p (rows n) = true
    · rw [if_pos h]
      simp [selR, h]
    · rw [if_neg h]
      simp [selR, h]
theorem gKeys_mem (gr : List Int) (rows : Nat → List Int) (sel : List Int) (x : List Int) : x ∈ gKeys gr rows sel ↔ ∃ row ∈ selR rows sel, kR gr row = x := by
  obtain ⟨_, h2, _⟩ := grK_law (K := keyJ gr rows sel) (w := gr.length) (keyJ_len gr rows sel) sel.length
  have : x ∈ gKeys gr rows sel ↔ ∃ j, j < sel.length ∧ keyJ gr rows sel j = x := h2 x
  rw [this]
  constructor
  · rintro ⟨j, hj, rfl⟩
    refine ⟨rows (sel.getD j 0).toNat, ?_, rfl⟩
    refine List.mem_map.2 ⟨sel.getD j 0, ?_, rfl⟩
    rw [List.getD_eq_getElem?_getD, List.getElem?_eq_getElem hj]
    exact List.getElem_mem hj
  · rintro ⟨row, hr, rfl⟩
    obtain ⟨s, hs, rfl⟩ := List.mem_map.1 hr
    obtain ⟨j, hj, e⟩ := List.getElem_of_mem hs
    refine ⟨j, hj, ?_⟩
    rw [keyJ_kR, List.getD_eq_getElem?_getD, List.getElem?_eq_getElem hj]
    simp [e]
section
variable {gr : List Int} {rows rows' : Nat → List Int} {sel sel' : List Int}
theorem gKeys_perm (h : (selR rows sel).Perm (selR rows' sel')) : gKeys gr rows sel = gKeys gr rows' sel' := by
  have h1 := (grK_law (K := keyJ gr rows sel) (w := gr.length) (keyJ_len gr rows sel) sel.length).1
  have h2 := (grK_law (K := keyJ gr rows' sel') (w := gr.length) (keyJ_len gr rows' sel') sel'.length).1
  refine UpK.ext (w := gr.length) h1 h2 (fun x => ?_)
  have e1 := gKeys_mem gr rows sel x
  have e2 := gKeys_mem gr rows' sel' x
  rw [e1, e2]
  constructor
  · rintro ⟨row, hr, e⟩; exact ⟨row, h.mem_iff.1 hr, e⟩
  · rintro ⟨row, hr, e⟩; exact ⟨row, h.mem_iff.2 hr, e⟩
theorem gNum_perm (h : (selR rows sel).Perm (selR rows' sel')) : gNum gr rows sel = gNum gr rows' sel' := by unfold gNum; rw [gKeys_perm h]
end
theorem ids_iff (gr : List Int) (rows : Nat → List Int) (sel : List Int) (g j : Nat) (hg : g < gNum gr rows sel) (hj : j < sel.length) : (gIds gr rows sel).getD j 0 = (g : Int) ↔ kR gr (rows (sel.getD j 0).toNat) = (gKeys gr rows sel).getD g [] := by
  obtain ⟨h1, h2, _⟩ := grK_law (K := keyJ gr rows sel) (w := gr.length) (keyJ_len gr rows sel) sel.length
  have hm : keyJ gr rows sel j ∈ gKeys gr rows sel := (h2 _).2 ⟨j, hj, rfl⟩
  obtain ⟨i, hi, e⟩ := mem_getDL hm
  have hgi : gidK (gKeys gr rows sel) (keyJ gr rows sel j) = i := gidK_of h1 hi e
  have hgl : g < (gKeys gr rows sel).length := by
    unfold gNum at hg
    split at hg
    · omega
    · exact hg
  rw [gIds_at _ _ _ _ hj, hgi, ← keyJ_kR, ← e]
  constructor
  · intro h
    have : i = g := by omega
    rw [this]
  · intro h
    have : i = g := UpK.inj h1 hi hgl h
    rw [this]
theorem mem_vals (gr : List Int) (rows : Nat → List Int) (sel : List Int) (g : Nat) (hg : g < gNum gr rows sel) (G : List Int → Int) : ∀ m, m ≤ sel.length →
    (memG (gIds gr rows sel) g m).map (fun i => G (rows (sel.getD i.toNat 0).toNat)) = (((selR rows sel).take m).filter (fun row => decide (kR gr row = (gKeys gr rows sel).getD g []))).map G := by
  intro m
  induction m with
  | zero => intro _; simp [memG]
  | succ m ih =>
    intro hm
    have hml : m < (selR rows sel).length := by rw [selR_len]; omega
    have hrow : (selR rows sel)[m] = rows (sel.getD m 0).toNat := by
      have hm2 : m < sel.length := by omega
      simp [selR, List.getElem?_eq_getElem hm2]
    rw [List.take_succ_eq_append_getElem hml, List.filter_append, List.map_append, ← ih (by omega), hrow]
    have hi := ids_iff gr rows sel g m hg (by omega)
    simp only [memG]
    by_cases hc : (gIds gr rows sel).getD m 0 = (g : Int)
    · have hd : List.filter (fun row => decide (kR gr row = (gKeys gr rows sel).getD g [])) [rows (sel.getD m 0).toNat] = [rows (sel.getD m 0).toNat] := by rw [List.filter_cons_of_pos (by rw [decide_eq_true_eq]; exact hi.1 hc), List.filter_nil]
      rw [if_pos hc, List.map_append, hd]
      rfl
    · have : ¬ kR gr (rows (sel.getD m 0).toNat) = (gKeys gr rows sel).getD g [] := fun h => hc (hi.2 h)
      rw [if_neg hc, List.filter_cons_of_neg (by rw [decide_eq_true_eq]; exact this), List.filter_nil, List.map_nil, List.append_nil]
theorem stepV_comm (ag : Int) (x y : Int) (z : Int × Bool) (h : ag = 0 → x = y) : stepV ag (stepV ag z x, true) y = stepV ag (stepV ag z y, true) x := by
  obtain ⟨s, b⟩ := z
  by_cases h0 : ag = 0
  · rw [h h0]
  by_cases h1 : ag = 1
  · subst h1
    simp (config := {decide := true}) only [stepV, if_false, if_true]
    unfold wrap64
    omega
  by_cases h2 : ag = 2
  · subst h2
    simp (config := {decide := true}) only [stepV, if_false, if_true, true_and]
    cases b <;> simp only [Bool.false_eq_true, false_and, if_false, true_and] <;> (repeat' split) <;> omega
  by_cases h3 : ag = 3
  · subst h3
    simp (config := {decide := true}) only [stepV, if_false, if_true, true_and]
    cases b <;> simp only [Bool.false_eq_true, false_and, if_false, true_and] <;> (repeat' split) <;> omega
  by_cases h4 : ag = 4
  · subst h4
    simp (config := {decide := true}) only [stepV, if_false, if_true]
    split <;> split <;> rfl
  by_cases h5 : ag = 5
  · subst h5
    simp (config := {decide := true}) only [stepV, if_false, if_true]
  · simp only [stepV, h0, h1, h2, h3, h4, h5, if_false]
theorem aggL_perm {ag : Int} {xs ys : List Int} (z : Int) (h : xs.Perm ys) (h0 : ag = 0 → ∀ a ∈ xs, ∀ b ∈ xs, a = b) : aggL ag xs z = aggL ag ys z := by
  have e : accL ag xs = accL ag ys := by
    unfold accL
    refine h.foldl_eq' (fun x hx y hy w => ?_) _
    rw [stepV_comm ag x y w (fun ha => h0 ha x hx y hy)]
  have hn : xs = [] ↔ ys = [] := by
    rw [← List.length_eq_zero_iff, ← List.length_eq_zero_iff, h.length_eq]
  unfold aggL
  rw [e]
  by_cases hx : xs = []
  · rw [hx, hn.1 hx]
  · rw [if_neg (fun hh => hx hh.2), if_neg (fun hh => hx (hn.2 hh.2))]
/-- A tree whose columns are all grouped by has one value in a group. -/
theorem evX_key {nd : List Nd} {nc : Int} {gr : List Int} {row row' : List Int} (hw : WfA nd nc) (hk : kR gr row = kR gr row') : ∀ m x, x < m → x < nd.length → okAt gr nd x = true → evX nd row x = evX nd row' x := by
  intro m
  induction m with
  | zero => intro x h; omega
  | succ m ih =>
    intro x hm hx hc
    rcases hw.kind hx with h | ⟨h, _⟩ | ⟨l, h, hl, hlx⟩ | ⟨l, r, h, hl, hr, hlx, hrx⟩
    · rw [evX_lit h, evX_lit h]
    · rw [okAt_col h] at hc
      have hmem : (nd.getD x nd0).val ∈ gr := by simpa using hc
      rw [evX_col h, evX_col h]
      unfold kR at hk
      exact List.map_inj_left.1 hk _ hmem
    · rw [okAt_un h hl hlx] at hc
      have := ih l (by omega) (by omega) hc
      rcases h with h | h
      · rw [evX_neg h hl hlx, evX_neg h hl hlx, this]
      · rw [evX_not h hl hlx, evX_not h hl hlx, this]
    · rw [okAt_bi h hl hr hlx hrx, Bool.and_eq_true] at hc
      rw [evX_bi h hl hr hlx hrx, evX_bi h hl hr hlx hrx, ih l (by omega) (by omega) hc.1, ih r (by omega) (by omega) hc.2]
theorem run_perm {p : Pl} {nc0 : Int} {rows rows' : Nat → List Int} {n nc : Nat} (hag : p.ag = true) (hli : p.li = -1) (hw : WfA p.code nc0) (hits : ∀ it ∈ p.its, ItOK p.code.length it) (hnone : NoneP p.code p.its p.gr)
    (hp : ((List.range n).map rows).Perm ((List.range n).map rows')) : run p rows n nc = run p rows' n nc := by
  have hs : (selR rows (slTo p rows n)).Perm (selR rows' (slTo p rows' n)) := by
    rw [slTo_rows, slTo_rows]
    exact hp.filter _
  have hm : runM p rows n = runM p rows' n := by unfold runM; rw [if_pos hag, if_pos hag, gNum_perm hs]
  unfold run
  rw [hm, hli]
  have hl1 : lim (-1) (runM p rows' n) = runM p rows' n := by unfold lim; rw [if_neg (by omega)]
  rw [hl1]
  refine flC_congr (fun g k hg hk => ?_)
  unfold runC
  rw [if_pos hag, if_pos hag]
  have hg' : g < gNum p.gr rows' (slTo p rows' n) := by unfold runM at hg; rw [if_pos hag] at hg; exact hg
  have hg1 : g < gNum p.gr rows (slTo p rows n) := by rw [gNum_perm hs]; exact hg'
  unfold grpV vJ
  have v1 := mem_vals p.gr rows (slTo p rows n) g hg1 (fun row => itV p row k) _ (Nat.le_refl _)
  have v2 := mem_vals p.gr rows' (slTo p rows' n) g hg' (fun row => itV p row k) _ (Nat.le_refl _)
  rw [← selR_len rows, List.take_length, selR_len] at v1
  rw [← selR_len rows', List.take_length, selR_len] at v2
  rw [v1, v2, ← gKeys_perm (gr := p.gr) hs]
  refine aggL_perm _ ((hs.filter _).map _) (fun h0 a ha b hb => ?_)
  obtain ⟨r1, hr1, rfl⟩ := List.mem_map.1 ha
  obtain ⟨r2, hr2, rfl⟩ := List.mem_map.1 hb
  have k1 := of_decide_eq_true (List.mem_filter.1 hr1).2
  have k2 := of_decide_eq_true (List.mem_filter.1 hr2).2
  have hmem := getD_mem_it p.its k hk
  have hok := hnone _ hmem h0
  have hit := hits _ hmem
  obtain ⟨_, _, hite⟩ := hit
  unfold itV
  split
  · rfl
  · exact evX_key hw (k1.trans k2.symm) _ _ (Nat.lt_succ_self _) (by omega) hok
end Go.Proofs.YbyaawGreat
