/- Plain: a query's trees: no node is used twice, so the code is not longer than the nodes. No Go here. -/
import Derived.Test.YbyabwGreatCmpP2
namespace Go.Proofs.YbyabwGreat
open Go.RowKit
set_option linter.unusedVariables false

def chN (n : Nd) : List Nat := if n.op = 3 ∨ n.op = 15 then [n.l.toNat] else if 4 ≤ n.op ∧ n.op ≤ 14 then [n.l.toNat, n.r.toNat] else []
def chTo (nd : List Nd) : Nat → List Nat
  | 0 => []
  | k + 1 => chTo nd k ++ chN (nd.getD k nd0)
def whR (wh : Int) : List Nat := if wh = -1 then [] else [wh.toNat]
def itR (it : Int × Int) : List Nat := if it.2 = -1 then [] else [it.2.toNat]
def itsR (its : List (Int × Int)) : List Nat := its.flatMap itR
def sumL (f : Nat → Nat) (l : List Nat) : Nat := (l.map f).sum
theorem sumL_app (f : Nat → Nat) (l m : List Nat) : sumL f (l ++ m) = sumL f l + sumL f m := by simp [sumL]
theorem sumL_range (f : Nat → Nat) (n : Nat) : sumL f (List.range (n + 1)) = sumL f (List.range n) + f n := by simp [sumL, List.range_succ]
theorem sumL_le (f : Nat → Nat) : ∀ (n : Nat) (l : List Nat), l.Nodup → (∀ x ∈ l, x < n) → sumL f l ≤ sumL f (List.range n) := by
  intro n
  induction n with
  | zero =>
    intro l _ h
    cases l with
    | nil => exact Nat.le_refl _
    | cons x r => have := h x (by simp); omega
  | succ n ih =>
    intro l hd h
    rw [sumL_range]
    by_cases hm : n ∈ l
    · obtain ⟨l1, l2, rfl⟩ := List.append_of_mem hm
      have hd2 : (l1 ++ l2).Nodup := by
        rw [List.nodup_append] at hd ⊢
        obtain ⟨a, b, c⟩ := hd
        refine ⟨a, (List.nodup_cons.1 b).2, fun x hx y hy => c x hx y (by simp [hy])⟩
      have hn : ∀ x ∈ l1 ++ l2, x < n := fun x hx => by
        have h1 : x < n + 1 := h x (by rcases List.mem_append.1 hx with hx | hx <;> simp [hx])
        have h2 : x ≠ n := fun e => by
          subst e
          rw [List.nodup_append] at hd
          obtain ⟨a, b, c⟩ := hd
          rcases List.mem_append.1 hx with hx | hx
          · exact c x hx x (by simp) rfl
          · exact (List.nodup_cons.1 b).1 hx
        omega
      have h3 := ih _ hd2 hn
      rw [sumL_app] at h3 ⊢
      have : sumL f (n :: l2) = f n + sumL f l2 := by simp [sumL]
      omega
    · have := ih l hd (fun x hx => by
        have h1 := h x hx
        have h2 : x ≠ n := fun e => hm (e ▸ hx)
        omega)
      omega
section
variable {nd : List Nd} {nc : Int}
theorem ts_ch (hw : WfA nd nc) {x : Nat} (hx : x < nd.length) : tsAt nd x = 1 + sumL (tsAt nd) (chN (nd.getD x nd0)) := by
  rcases hw.kind hx with h | ⟨h, _⟩ | ⟨l, h, hl, hlx⟩ | ⟨l, r, h, hl, hr, hlx, hrx⟩
  · have e : chN (nd.getD x nd0) = [] := by unfold chN; rw [if_neg (by omega), if_neg (by omega)]
    rw [e, tsAt_leaf (.inl h)]; rfl
  · have e : chN (nd.getD x nd0) = [] := by unfold chN; rw [if_neg (by omega), if_neg (by omega)]
    rw [e, tsAt_leaf (.inr h)]; rfl
  · have e : chN (nd.getD x nd0) = [l] := by unfold chN; rw [if_pos h, hl, Int.toNat_natCast]
    rw [e, tsAt_un h hl hlx]; simp [sumL]
  · have e : chN (nd.getD x nd0) = [l, r] := by unfold chN; rw [if_neg (by omega), if_pos h, hl, hr, Int.toNat_natCast, Int.toNat_natCast]
    rw [e, tsAt_bi h hl hr hlx hrx]; simp [sumL]; omega
theorem ts_all (hw : WfA nd nc) : ∀ k, k ≤ nd.length → sumL (tsAt nd) (List.range k) = k + sumL (tsAt nd) (chTo nd k) := by
  intro k
  induction k with
  | zero => intro _; rfl
  | succ k ih =>
    intro hk
    rw [sumL_range, ih (by omega), ts_ch hw (show k < nd.length by omega)]
    simp only [chTo, sumL_app]
    omega
theorem ch_lt (hw : WfA nd nc) : ∀ k, k ≤ nd.length → ∀ x ∈ chTo nd k, x < nd.length := by
  intro k
  induction k with
  | zero => intro _ x hx; cases hx
  | succ k ih =>
    intro hk x hx
    simp only [chTo, List.mem_append] at hx
    rcases hx with hx | hx
    · exact ih (by omega) x hx
    · rcases hw.kind (show k < nd.length by omega) with h | ⟨h, _⟩ | ⟨l, h, hl, hlx⟩ | ⟨l, r, h, hl, hr, hlx, hrx⟩
      · have e : chN (nd.getD k nd0) = [] := by unfold chN; rw [if_neg (by omega), if_neg (by omega)]
        rw [e] at hx; cases hx
      · have e : chN (nd.getD k nd0) = [] := by unfold chN; rw [if_neg (by omega), if_neg (by omega)]
        rw [e] at hx; cases hx
      · have e : chN (nd.getD k nd0) = [l] := by unfold chN; rw [if_pos h, hl, Int.toNat_natCast]
        rw [e] at hx; simp at hx; omega
      · have e : chN (nd.getD k nd0) = [l, r] := by unfold chN; rw [if_neg (by omega), if_pos h, hl, hr, Int.toNat_natCast, Int.toNat_natCast]
        rw [e] at hx; simp at hx; omega
/-- The trees of the roots have no more nodes than there are. -/
theorem roots_le (hw : WfA nd nc) (rs : List Nat) (hd : (chTo nd nd.length ++ rs).Nodup) (hr : ∀ x ∈ rs, x < nd.length) : sumL (tsAt nd) rs ≤ nd.length := by
  have h1 := sumL_le (tsAt nd) nd.length _ hd (fun x hx => by
    rcases List.mem_append.1 hx with hx | hx
    · exact ch_lt hw _ (Nat.le_refl _) x hx
    · exact hr x hx)
  rw [sumL_app, ts_all hw _ (Nat.le_refl _)] at h1
  omega
end
/-- An item is in order, for n nodes. -/
def ItOK (n : Int) (it : Int × Int) : Prop := 0 ≤ it.1 ∧ it.1 ≤ 5 ∧ ((it.1 = 5 ∧ it.2 = -1) ∨ (it.1 ≠ 5 ∧ 0 ≤ it.2 ∧ it.2 < n))
def WhP (n wh : Int) : Prop := wh = -1 ∨ (0 ≤ wh ∧ wh < n)
def GrP (nc : Int) (gr : List Int) : Prop := ∀ g ∈ gr, 0 ≤ g ∧ g < nc
def aggW (its : List (Int × Int)) (gr : List Int) : Bool := decide (0 < gr.length) || its.any (fun it => it.1 != 0)
def NoneP (nd : List Nd) (its : List (Int × Int)) (gr : List Int) : Prop := ∀ it ∈ its, it.1 = 0 → okAt gr nd it.2.toNat = true
/-- When a query is planned. -/
structure CmOK (q : Qy) (nc : Int) : Prop where
  n0 : 0 ≤ nc
  n1 : nc ≤ 256
  ni : 1 ≤ q.its.length
  li : -1 ≤ q.li
  wf : WfA q.nd nc
  wh : WhP q.nd.length q.wh
  its : ∀ it ∈ q.its, ItOK q.nd.length it
  nod : (chTo q.nd q.nd.length ++ (whR q.wh ++ itsR q.its)).Nodup
  gr : GrP nc q.gr
  ag : aggW q.its q.gr = true → NoneP q.nd q.its q.gr
/-- The plan's code for WHERE. -/
def cW (nd : List Nd) (zr : List Int) (wh : Int) : List Nd × Int :=
  if wh = -1 then ([], -1)
  else if (em nd zr wh.toNat []).1.length = 1 ∧ ((em nd zr wh.toNat []).1.getD 0 nd0).op = 1 ∧ ((em nd zr wh.toNat []).1.getD 0 nd0).val ≠ 0 then ([], -1)
  else em nd zr wh.toNat []
/-- .. and for the first k items. -/
def cK (nd : List Nd) (zr : List Int) (its : List (Int × Int)) (c0 : List Nd) : Nat → List Nd × List (Int × Int)
  | 0 => (c0, [])
  | k + 1 => if (its.getD k (0, 0)).2 = -1 then ((cK nd zr its c0 k).1, (cK nd zr its c0 k).2 ++ [((its.getD k (0, 0)).1, -1)])
    else ((em nd zr (its.getD k (0, 0)).2.toNat (cK nd zr its c0 k).1).1, (cK nd zr its c0 k).2 ++ [((its.getD k (0, 0)).1, (em nd zr (its.getD k (0, 0)).2.toNat (cK nd zr its c0 k).1).2)])
structure Pl where
  nc : Int
  code : List Nd
  wh : Int
  its : List (Int × Int)
  gr : List Int
  li : Int
  ag : Bool
def plan (q : Qy) (nc : Nat) : Pl :=
  ⟨nc, (cK q.nd (List.replicate nc 0) q.its (cW q.nd (List.replicate nc 0) q.wh).1 q.its.length).1, (cW q.nd (List.replicate nc 0) q.wh).2, (cK q.nd (List.replicate nc 0) q.its (cW q.nd (List.replicate nc 0) q.wh).1 q.its.length).2, q.gr, q.li, aggW q.its q.gr⟩
section
variable {q : Qy} {nc : Int} {zr : List Int}
theorem take_succ_it (its : List (Int × Int)) (k : Nat) (h : k < its.length) : its.take (k + 1) = its.take k ++ [its.getD k (0, 0)] := by
  rw [List.take_succ_eq_append_getElem h, List.getD_eq_getElem?_getD, List.getElem?_eq_getElem h]; rfl
theorem getD_mem_it (its : List (Int × Int)) (k : Nat) (h : k < its.length) : its.getD k (0, 0) ∈ its := by
  rw [List.getD_eq_getElem?_getD, List.getElem?_eq_getElem h]; exact List.getElem_mem h
/-- The code for WHERE: well formed, short, of the value of WHERE. -/
theorem cW_law (h : CmOK q nc) : ∃ c wh, cW q.nd zr q.wh = (c, wh) ∧ WfA c nc ∧ c.length ≤ sumL (tsAt q.nd) (whR q.wh) ∧
    ((q.wh = -1 ∧ wh = -1 ∧ c = []) ∨ (0 ≤ q.wh ∧ q.wh < q.nd.length ∧ ((wh = -1 ∧ c = [] ∧ ∀ row, evX q.nd row q.wh.toNat ≠ 0) ∨ (wh = (c.length : Int) - 1 ∧ 0 < c.length ∧ ∀ row, evX c row (c.length - 1) = evX q.nd row q.wh.toNat)))) := by
  have hnil : WfA [] nc := fun i hi => by simp at hi
  rcases h.wh with hw | ⟨h0, h1⟩
  · exact ⟨[], -1, by unfold cW; rw [if_pos hw], hnil, Nat.zero_le _, .inl ⟨hw, rfl, rfl⟩⟩
  · obtain ⟨c, e, k⟩ := em_law (zr := zr) h.wf (q.wh.toNat + 1) q.wh.toNat (by omega) (by omega) [] hnil
    have hhi := k.hi
    have hlo := k.lo
    simp only [List.length_nil] at hhi hlo
    have hs : sumL (tsAt q.nd) (whR q.wh) = tsAt q.nd q.wh.toNat := by unfold whR; rw [if_neg (by omega)]; simp [sumL]
    by_cases hc : c.length = 1 ∧ (c.getD 0 nd0).op = 1 ∧ (c.getD 0 nd0).val ≠ 0
    · refine ⟨[], -1, by unfold cW; rw [if_neg (by omega), e, if_pos hc], hnil, Nat.zero_le _, .inr ⟨h0, h1, .inl ⟨rfl, rfl, fun row => ?_⟩⟩⟩
      rw [← k.ev row, hc.1, evX_lit hc.2.1]
      exact hc.2.2
    · exact ⟨c, (c.length : Int) - 1, by unfold cW; rw [if_neg (by omega), e, if_neg hc], k.wf, by omega, .inr ⟨h0, h1, .inr ⟨rfl, hlo, k.ev⟩⟩⟩
/-- The items' code so far. -/
structure CkOK (q : Qy) (nc : Int) (c0 : List Nd) (k : Nat) (p : List Nd × List (Int × Int)) : Prop where
  pre : ∃ E, p.1 = c0 ++ E
  wf : WfA p.1 nc
  len : p.1.length ≤ c0.length + sumL (tsAt q.nd) (itsR (q.its.take k))
  il : p.2.length = k
  it : ∀ j, j < k → (p.2.getD j (0, 0)).1 = (q.its.getD j (0, 0)).1 ∧
    (((q.its.getD j (0, 0)).2 = -1 ∧ (p.2.getD j (0, 0)).2 = -1) ∨
     (0 ≤ (q.its.getD j (0, 0)).2 ∧ ∃ x : Nat, (p.2.getD j (0, 0)).2 = (x : Int) ∧ x < p.1.length ∧ (∀ row, evX p.1 row x = evX q.nd row (q.its.getD j (0, 0)).2.toNat) ∧ ∀ gr, okAt gr q.nd (q.its.getD j (0, 0)).2.toNat = true → okAt gr p.1 x = true))
theorem getD_appI (l : List (Int × Int)) (e : Int × Int) (j : Nat) : (l ++ [e]).getD j (0, 0) = if j < l.length then l.getD j (0, 0) else if j = l.length then e else (0, 0) := by
  rw [List.getD_eq_getElem?_getD, List.getD_eq_getElem?_getD]
  by_cases h : j < l.length
  · rw [List.getElem?_append_left h, if_pos h]
  · rw [List.getElem?_append_right (by omega), if_neg h]
    by_cases h2 : j = l.length
    · subst h2; simp
    · rw [if_neg h2, List.getElem?_eq_none (by simp; omega)]; rfl
theorem cK_law (h : CmOK q nc) (c0 : List Nd) (h0 : WfA c0 nc) : ∀ k, k ≤ q.its.length → CkOK q nc c0 k (cK q.nd zr q.its c0 k) := by
  intro k
  induction k with
  | zero => intro _; exact ⟨⟨[], by simp [cK]⟩, h0, by simp [cK], rfl, fun j hj => by omega⟩
  | succ k ih =>
    intro hk
    have k1 := ih (by omega)
    have hit := h.its _ (getD_mem_it q.its k (by omega))
    have htk := take_succ_it q.its k (by omega)
    obtain ⟨E, hE⟩ := k1.pre
    by_cases hm : (q.its.getD k (0, 0)).2 = -1
    · have e : cK q.nd zr q.its c0 (k + 1) = ((cK q.nd zr q.its c0 k).1, (cK q.nd zr q.its c0 k).2 ++ [((q.its.getD k (0, 0)).1, -1)]) := by rw [cK, if_pos hm]
      rw [e]
      refine ⟨⟨E, hE⟩, k1.wf, ?_, by simp [k1.il], fun j hj => ?_⟩
      · have e2 : itsR (q.its.take (k + 1)) = itsR (q.its.take k) := by
          rw [htk]
          simp only [itsR, List.flatMap_append, List.flatMap_cons, List.flatMap_nil, List.append_nil]
          rw [show itR (q.its.getD k (0, 0)) = [] by unfold itR; rw [if_pos hm], List.append_nil]
        rw [e2]; exact k1.len
      · rw [getD_appI, k1.il]
        by_cases hjk : j < k
        · rw [if_pos hjk]; exact k1.it j hjk
        · obtain rfl : j = k := by omega
          rw [if_neg hjk, if_pos rfl]
          exact ⟨rfl, .inl ⟨hm, rfl⟩⟩
    · have hx : 0 ≤ (q.its.getD k (0, 0)).2 ∧ (q.its.getD k (0, 0)).2 < q.nd.length := by
        rcases hit.2.2 with ⟨_, h⟩ | ⟨_, h⟩
        · exact absurd h hm
        · exact h
      obtain ⟨c, ee, ke⟩ := em_law (zr := zr) h.wf ((q.its.getD k (0, 0)).2.toNat + 1) (q.its.getD k (0, 0)).2.toNat (by omega) (by omega) (cK q.nd zr q.its c0 k).1 k1.wf
      have e : cK q.nd zr q.its c0 (k + 1) = (c, (cK q.nd zr q.its c0 k).2 ++ [((q.its.getD k (0, 0)).1, (c.length : Int) - 1)]) := by rw [cK, if_neg hm, ee]
      rw [e]
      obtain ⟨F, hF⟩ := ke.pre
      have hlo := ke.lo
      have hhi := ke.hi
      have hlen := k1.len
      refine ⟨⟨E ++ F, by rw [hF, hE, List.append_assoc]⟩, ke.wf, ?_, by simp [k1.il], fun j hj => ?_⟩
      · have e2 : sumL (tsAt q.nd) (itsR (q.its.take (k + 1))) = sumL (tsAt q.nd) (itsR (q.its.take k)) + tsAt q.nd (q.its.getD k (0, 0)).2.toNat := by
          rw [htk]
          have : itsR (q.its.take k ++ [q.its.getD k (0, 0)]) = itsR (q.its.take k) ++ [(q.its.getD k (0, 0)).2.toNat] := by
            simp only [itsR, List.flatMap_append, List.flatMap_cons, List.flatMap_nil, List.append_nil]
            rw [show itR (q.its.getD k (0, 0)) = [(q.its.getD k (0, 0)).2.toNat] by unfold itR; rw [if_neg hm]]
          rw [this, sumL_app]
          simp [sumL]
        rw [e2]
        simp only
        omega
      · rw [getD_appI, k1.il]
        by_cases hjk : j < k
        · rw [if_pos hjk]
          obtain ⟨a, b⟩ := k1.it j hjk
          refine ⟨a, ?_⟩
          rcases b with b | ⟨b0, x, b1, b2, b3, b4⟩
          · exact .inl b
          · refine .inr ⟨b0, x, b1, by simp only; omega, fun row => ?_, fun gr hg => ?_⟩
            · simp only
              rw [hF, evX_pre b2]; exact b3 row
            · simp only
              rw [hF, okAt_pre b2]; exact b4 gr hg
        · obtain rfl : j = k := by omega
          rw [if_neg hjk, if_pos rfl]
          refine ⟨rfl, .inr ⟨hx.1, c.length - 1, by simp only; omega, by simp only; omega, ke.ev, ke.ok⟩⟩
/-- What a plan must hold. -/
structure PlOK (p : Pl) : Prop where
  n0 : 0 ≤ p.nc
  n1 : p.nc ≤ 256
  wf : WfA p.code p.nc
  wh : WhP p.code.length p.wh
  ni : 1 ≤ p.its.length
  its : ∀ it ∈ p.its, ItOK p.code.length it
  gr : GrP p.nc p.gr
  li : -1 ≤ p.li
  ag : p.ag = aggW p.its p.gr
  none : p.ag = true → NoneP p.code p.its p.gr
theorem its_lt (h : ∀ it ∈ q.its, ItOK q.nd.length it) (l : List (Int × Int)) (hl : ∀ it ∈ l, it ∈ q.its) : ∀ x ∈ itsR l, x < q.nd.length := fun x hx => by
  simp only [itsR, List.mem_flatMap] at hx
  obtain ⟨it, hit, hx⟩ := hx
  unfold itR at hx
  split at hx
  · cases hx
  · rename_i hm
    rw [List.mem_singleton] at hx
    rcases (h it (hl it hit)).2.2 with ⟨_, h2⟩ | ⟨_, h2, h3⟩
    · exact absurd h2 hm
    · omega
theorem roots_lt (h : CmOK q nc) : ∀ x ∈ whR q.wh ++ itsR q.its, x < q.nd.length := fun x hx => by
  rcases List.mem_append.1 hx with hx | hx
  · unfold whR at hx
    split at hx
    · cases hx
    · rename_i hm
      rw [List.mem_singleton] at hx
      rcases h.wh with h2 | ⟨h2, h3⟩
      · exact absurd h2 hm
      · omega
  · exact its_lt h.its q.its (fun _ h => h) x hx
theorem roots_sum (h : CmOK q nc) : sumL (tsAt q.nd) (whR q.wh) + sumL (tsAt q.nd) (itsR q.its) ≤ q.nd.length := by
  have := roots_le h.wf _ h.nod (roots_lt h)
  rw [sumL_app] at this
  exact this
theorem its_take_sum (k : Nat) (f : Nat → Nat) : sumL f (itsR (q.its.take k)) ≤ sumL f (itsR q.its) := by
  have e : itsR q.its = itsR (q.its.take k) ++ itsR (q.its.drop k) := by
    unfold itsR
    rw [← List.flatMap_append, List.take_append_drop]
  rw [e, sumL_app]
  omega
theorem any_map (l m : List (Int × Int)) (hl : l.length = m.length) (h : ∀ j, j < l.length → (l.getD j (0, 0)).1 = (m.getD j (0, 0)).1) : l.any (fun it => it.1 != 0) = m.any (fun it => it.1 != 0) := by
  induction l generalizing m with
  | nil =>
    cases m with
    | nil => rfl
    | cons a b => simp at hl
  | cons a l ih =>
    cases m with
    | nil => simp at hl
    | cons b m =>
      have h0 := h 0 (by simp)
      simp only [List.getD_cons_zero] at h0
      simp only [List.any_cons, h0]
      rw [ih m (by simpa using hl) (fun j hj => by
        have := h (j + 1) (by simp; omega)
        simpa using this)]
theorem mem_getD {l : List (Int × Int)} {it : Int × Int} (h : it ∈ l) : ∃ j, j < l.length ∧ l.getD j (0, 0) = it := by
  obtain ⟨j, hj, e⟩ := List.getElem_of_mem h
  exact ⟨j, hj, by rw [List.getD_eq_getElem?_getD, List.getElem?_eq_getElem hj]; exact e⟩
/-- The plan is in order, and its values are the query's. -/
theorem plan_law {n : Nat} (h : CmOK q n) : PlOK (plan q n) ∧ (plan q n).code.length ≤ q.nd.length ∧ (plan q n).its.length = q.its.length ∧
    ((q.wh = -1 ∧ (plan q n).wh = -1) ∨ (0 ≤ q.wh ∧ ((plan q n).wh = -1 ∧ (∀ row, evX q.nd row q.wh.toNat ≠ 0) ∨ ∃ x : Nat, (plan q n).wh = (x : Int) ∧ x < (plan q n).code.length ∧ ∀ row, evX (plan q n).code row x = evX q.nd row q.wh.toNat))) ∧
    (∀ j, j < q.its.length → (((q.its.getD j (0, 0)).2 = -1 ∧ ((plan q n).its.getD j (0, 0)).2 = -1) ∨
      (0 ≤ (q.its.getD j (0, 0)).2 ∧ ∃ x : Nat, ((plan q n).its.getD j (0, 0)).2 = (x : Int) ∧ x < (plan q n).code.length ∧ ∀ row, evX (plan q n).code row x = evX q.nd row (q.its.getD j (0, 0)).2.toNat))) := by
  obtain ⟨c, wh, e, hwf, hlen, hcase⟩ := cW_law (zr := List.replicate n 0) h
  have k := cK_law (zr := List.replicate n 0) h c hwf q.its.length (Nat.le_refl _)
  have hs := roots_sum h
  obtain ⟨E, hE⟩ := k.pre
  have hkl := k.len
  rw [List.take_length] at hkl
  have hcode : (plan q n).code = (cK q.nd (List.replicate n 0) q.its c q.its.length).1 := by unfold plan; rw [e]
  have hits : (plan q n).its = (cK q.nd (List.replicate n 0) q.its c q.its.length).2 := by unfold plan; rw [e]
  have hwh : (plan q n).wh = wh := by unfold plan; rw [e]
  have hil : (plan q n).its.length = q.its.length := by rw [hits, k.il]
  have hcl : c.length ≤ (plan q n).code.length := by rw [hcode, hE, List.length_append]; omega
  have hagg : aggW (plan q n).its q.gr = aggW q.its q.gr := by
    unfold aggW
    rw [any_map _ q.its hil (fun j hj => by rw [hits]; exact (k.it j (by omega)).1)]
  refine ⟨⟨h.n0, h.n1, by rw [hcode]; exact k.wf, ?_, by rw [hil]; exact h.ni, ?_, h.gr, h.li, ?_, ?_⟩, by rw [hcode]; omega, hil, ?_, fun j hj => ?_⟩
  · rw [hwh]
    rcases hcase with ⟨_, h1, _⟩ | ⟨_, _, ⟨h1, _⟩ | ⟨h1, h2, _⟩⟩
    · exact .inl h1
    · exact .inl h1
    · exact .inr ⟨by omega, by omega⟩
  · intro it hit
    obtain ⟨j, hj, rfl⟩ := mem_getD hit
    have hq := h.its _ (getD_mem_it q.its j (by omega))
    obtain ⟨a, b⟩ := k.it j (by omega)
    rw [← hits] at a b
    rw [← hcode] at b
    obtain ⟨q1, q2, q3⟩ := hq
    refine ⟨by rw [a]; exact q1, by rw [a]; exact q2, ?_⟩
    rcases b with ⟨b1, b2⟩ | ⟨b0, x, b1, b2, _⟩
    · rcases q3 with ⟨c1, _⟩ | ⟨_, c2, _⟩
      · exact .inl ⟨by rw [a]; exact c1, b2⟩
      · omega
    · rcases q3 with ⟨c1, c2⟩ | ⟨c1, _⟩
      · omega
      · exact .inr ⟨by rw [a]; exact c1, by omega, by omega⟩
  · exact hagg.symm
  · intro hag it hit h0
    obtain ⟨j, hj, rfl⟩ := mem_getD hit
    obtain ⟨a, b⟩ := k.it j (by omega)
    rw [← hits] at a b
    rw [← hcode] at b
    have hn := h.ag hag _ (getD_mem_it q.its j (by omega)) (by rw [← a]; exact h0)
    have hq := h.its _ (getD_mem_it q.its j (by omega))
    rcases b with ⟨b1, b2⟩ | ⟨b0, x, b1, b2, _, b4⟩
    · rcases hq.2.2 with ⟨c1, _⟩ | ⟨_, c2, _⟩
      · omega
      · omega
    · have := b4 q.gr hn
      rw [b1, Int.toNat_natCast]
      exact this
  · rw [hwh]
    rcases hcase with ⟨h0, h1, _⟩ | ⟨h0, _, ⟨h1, _, h2⟩ | ⟨h1, h2, h3⟩⟩
    · exact .inl ⟨h0, h1⟩
    · exact .inr ⟨h0, .inl ⟨h1, h2⟩⟩
    · refine .inr ⟨h0, .inr ⟨c.length - 1, by omega, by omega, fun row => ?_⟩⟩
      rw [hcode, hE, evX_pre (by omega)]
      exact h3 row
  · obtain ⟨a, b⟩ := k.it j hj
    rw [← hits] at a b
    rw [← hcode] at b
    rcases b with b | ⟨b0, x, b1, b2, b3, _⟩
    · exact .inl b
    · exact .inr ⟨b0, x, b1, b2, b3⟩
end
end Go.Proofs.YbyabwGreat
