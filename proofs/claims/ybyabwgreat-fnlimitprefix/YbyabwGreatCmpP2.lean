/- Plain: the planner's code of one expression. No Go here. -/
import Derived.Test.YbyabwGreatCmpP1
namespace Go.Proofs.YbyabwGreat
open Go.RowKit
set_option linter.unusedVariables false

/-- The value of node x. -/
def evX (nd : List Nd) (row : List Int) (x : Nat) : Int := evN (nd.getD x nd0) row (evTo nd row x)
section
variable {nd : List Nd} {nc : Int} {row : List Int} {x : Nat}
theorem evX_lit (h : (nd.getD x nd0).op = 1) : evX nd row x = (nd.getD x nd0).val := by unfold evX evN; rw [if_pos h]
theorem evX_col (h : (nd.getD x nd0).op = 2) : evX nd row x = row.getD (nd.getD x nd0).val.toNat 0 := by unfold evX evN; rw [if_neg (by omega), if_pos h]
theorem evX_neg {l : Nat} (h : (nd.getD x nd0).op = 3) (hl : (nd.getD x nd0).l = (l : Int)) (hx : l < x) : evX nd row x = wrap64 (-(evX nd row l)) := by
  unfold evX evN
  rw [if_neg (by omega), if_neg (by omega), if_pos h, hl, Int.toNat_natCast, evTo_at nd row x l hx]
  rfl
theorem evX_not {l : Nat} (h : (nd.getD x nd0).op = 15) (hl : (nd.getD x nd0).l = (l : Int)) (hx : l < x) : evX nd row x = b2n (evX nd row l == 0) := by
  unfold evX evN
  rw [if_neg (by omega), if_neg (by omega), if_neg (by omega), if_pos h, hl, Int.toNat_natCast, evTo_at nd row x l hx]
  rfl
theorem evX_bi {l r : Nat} (h : 4 ≤ (nd.getD x nd0).op ∧ (nd.getD x nd0).op ≤ 14) (hl : (nd.getD x nd0).l = (l : Int)) (hr : (nd.getD x nd0).r = (r : Int)) (hx : l < x) (hy : r < x) : evX nd row x = applyI (nd.getD x nd0).op (evX nd row l) (evX nd row r) := by
  unfold evX evN
  rw [if_neg (by omega), if_neg (by omega), if_neg (by omega), if_neg (by omega), hl, hr, Int.toNat_natCast, Int.toNat_natCast, evTo_at nd row x l hx, evTo_at nd row x r hy]
  rfl
theorem evTo_pre {e : List Nd} : ∀ k, k ≤ nd.length → evTo (nd ++ e) row k = evTo nd row k
  | 0, _ => rfl
  | k + 1, h => by
    simp only [evTo]
    rw [evTo_pre k (by omega), List.getD_eq_getElem?_getD, List.getD_eq_getElem?_getD, List.getElem?_append_left (by omega)]
theorem getD_pre {e : List Nd} (h : x < nd.length) : (nd ++ e).getD x nd0 = nd.getD x nd0 := by
  rw [List.getD_eq_getElem?_getD, List.getD_eq_getElem?_getD, List.getElem?_append_left h]
theorem getD_end (n : Nd) : (nd ++ [n]).getD nd.length nd0 = n := by
  rw [List.getD_eq_getElem?_getD, List.getElem?_append_right (by omega)]
  simp
theorem evX_pre {e : List Nd} (h : x < nd.length) : evX (nd ++ e) row x = evX nd row x := by
  unfold evX
  rw [getD_pre h, evTo_pre x (by omega)]
theorem okAt_pre {e : List Nd} {gr : List Int} (h : x < nd.length) : okAt gr (nd ++ e) x = okAt gr nd x := by
  unfold okAt
  rw [getD_pre h, toL_pre x (by omega)]
/-- Without a column the value is the same on every row. -/
theorem evX_free (hw : WfA nd nc) (row' : List Int) : ∀ m x, x < m → x < nd.length → hcAt nd x = false → evX nd row x = evX nd row' x := by
  intro m
  induction m with
  | zero => intro x h; omega
  | succ m ih =>
    intro x hm hx hc
    rcases hw.kind hx with h | ⟨h, _⟩ | ⟨l, h, hl, hlx⟩ | ⟨l, r, h, hl, hr, hlx, hrx⟩
    · rw [evX_lit h, evX_lit h]
    · rw [hcAt_col h] at hc; cases hc
    · rw [hcAt_un h hl hlx] at hc
      have := ih l (by omega) (by omega) hc
      rcases h with h | h
      · rw [evX_neg h hl hlx, evX_neg h hl hlx, this]
      · rw [evX_not h hl hlx, evX_not h hl hlx, this]
    · rw [hcAt_bi h hl hr hlx hrx, Bool.or_eq_false_iff] at hc
      rw [evX_bi h hl hr hlx hrx, evX_bi h hl hr hlx hrx, ih l (by omega) (by omega) hc.1, ih r (by omega) (by omega) hc.2]
end
/-- The code of x behind code, and where its root lies. -/
def emN (nd : List Nd) (zr : List Int) : Nat → Nat → List Nd → List Nd × Int
  | 0, _, code => (code, -1)
  | f + 1, x, code =>
    if hcAt nd x = false then (code ++ [⟨1, evX nd zr x, -1, -1⟩], (code.length : Int))
    else if (nd.getD x nd0).op = 2 then (code ++ [⟨2, (nd.getD x nd0).val, -1, -1⟩], (code.length : Int))
    else if (nd.getD x nd0).op = 3 ∨ (nd.getD x nd0).op = 15 then
      ((emN nd zr f (nd.getD x nd0).l.toNat code).1 ++ [⟨(nd.getD x nd0).op, 0, (emN nd zr f (nd.getD x nd0).l.toNat code).2, -1⟩], ((emN nd zr f (nd.getD x nd0).l.toNat code).1.length : Int))
    else
      ((emN nd zr f (nd.getD x nd0).r.toNat (emN nd zr f (nd.getD x nd0).l.toNat code).1).1 ++ [⟨(nd.getD x nd0).op, 0, (emN nd zr f (nd.getD x nd0).l.toNat code).2, (emN nd zr f (nd.getD x nd0).r.toNat (emN nd zr f (nd.getD x nd0).l.toNat code).1).2⟩], ((emN nd zr f (nd.getD x nd0).r.toNat (emN nd zr f (nd.getD x nd0).l.toNat code).1).1.length : Int))
def em (nd : List Nd) (zr : List Int) (x : Nat) (code : List Nd) : List Nd × Int := emN nd zr (x + 1) x code
section
variable {nd : List Nd} {nc : Int} {zr : List Int} {x : Nat} {code : List Nd}
theorem emN_fuel (hw : WfA nd nc) : ∀ f g x, x < f → x < g → x < nd.length → ∀ code, emN nd zr f x code = emN nd zr g x code := by
  intro f
  induction f with
  | zero => intro g x h; omega
  | succ f ih =>
    intro g x hf hg hx code
    cases g with
    | zero => omega
    | succ g =>
      rcases hw.kind hx with h | ⟨h, _⟩ | ⟨l, h, hl, hlx⟩ | ⟨l, r, h, hl, hr, hlx, hrx⟩
      · simp only [emN, hcAt_lit h, if_true]
      · simp only [emN, h, if_true]
      · simp only [emN]
        rw [hl, Int.toNat_natCast, ih g l (by omega) (by omega) (by omega) code]
        simp only [if_neg (show ¬ (nd.getD x nd0).op = 2 by omega), if_pos h]
      · simp only [emN]
        rw [hl, hr, Int.toNat_natCast, Int.toNat_natCast, ih g l (by omega) (by omega) (by omega) code, ih g r (by omega) (by omega) (by omega)]
theorem em_free (h : hcAt nd x = false) : em nd zr x code = (code ++ [⟨1, evX nd zr x, -1, -1⟩], (code.length : Int)) := by unfold em; simp only [emN]; rw [if_pos h]
theorem em_col (h : hcAt nd x = true) (h2 : (nd.getD x nd0).op = 2) : em nd zr x code = (code ++ [⟨2, (nd.getD x nd0).val, -1, -1⟩], (code.length : Int)) := by
  unfold em
  simp only [emN]
  rw [if_neg (by rw [h]; decide), if_pos h2]
theorem em_un (hw : WfA nd nc) (hx : x < nd.length) (h : hcAt nd x = true) {l : Nat} (h2 : (nd.getD x nd0).op = 3 ∨ (nd.getD x nd0).op = 15) (hl : (nd.getD x nd0).l = (l : Int)) (hlx : l < x) :
    em nd zr x code = ((em nd zr l code).1 ++ [⟨(nd.getD x nd0).op, 0, (em nd zr l code).2, -1⟩], ((em nd zr l code).1.length : Int)) := by
  unfold em
  rw [show emN nd zr (x + 1) x code = _ from by simp only [emN]; rfl]
  rw [if_neg (by rw [h]; decide), if_neg (by omega), if_pos h2, hl, Int.toNat_natCast, emN_fuel hw x (l + 1) l hlx (by omega) (by omega)]
theorem em_bi (hw : WfA nd nc) (hx : x < nd.length) (h : hcAt nd x = true) {l r : Nat} (h2 : 4 ≤ (nd.getD x nd0).op ∧ (nd.getD x nd0).op ≤ 14) (hl : (nd.getD x nd0).l = (l : Int)) (hr : (nd.getD x nd0).r = (r : Int)) (hlx : l < x) (hrx : r < x) :
    em nd zr x code = ((em nd zr r (em nd zr l code).1).1 ++ [⟨(nd.getD x nd0).op, 0, (em nd zr l code).2, (em nd zr r (em nd zr l code).1).2⟩], ((em nd zr r (em nd zr l code).1).1.length : Int)) := by
  unfold em
  rw [show emN nd zr (x + 1) x code = _ from by simp only [emN]; rfl]
  rw [if_neg (by rw [h]; decide), if_neg (by omega), if_neg (by omega), hl, hr, Int.toNat_natCast, Int.toNat_natCast, emN_fuel hw x (l + 1) l hlx (by omega) (by omega), emN_fuel hw x (r + 1) r hrx (by omega) (by omega)]
theorem WfA.snoc (hw : WfA code nc) (n : Nd) (hn : wfP n (code.length : Int) nc) : WfA (code ++ [n]) nc := fun i hi => by
  rw [List.length_append, List.length_singleton] at hi
  by_cases h : i < code.length
  · rw [getD_pre h]; exact hw i h
  · obtain rfl : i = code.length := by omega
    rw [getD_end]
    exact hn
/-- What the code of an expression is worth. -/
structure EmOK (nd : List Nd) (nc : Int) (x : Nat) (code c' : List Nd) : Prop where
  pre : ∃ E, c' = code ++ E
  lo : code.length < c'.length
  hi : c'.length ≤ code.length + tsAt nd x
  wf : WfA c' nc
  ev : ∀ row, evX c' row (c'.length - 1) = evX nd row x
  ok : ∀ gr, okAt gr nd x = true → okAt gr c' (c'.length - 1) = true
theorem em_law (hw : WfA nd nc) : ∀ m x, x < m → x < nd.length → ∀ code, WfA code nc → ∃ c', em nd zr x code = (c', (c'.length : Int) - 1) ∧ EmOK nd nc x code c' := by
  intro m
  induction m with
  | zero => intro x h; omega
  | succ m ih =>
    intro x hm hx code hc
    have hts := tsAt_pos (nd := nd) (x := x)
    by_cases hf : hcAt nd x = false
    · refine ⟨code ++ [⟨1, evX nd zr x, -1, -1⟩], by rw [em_free hf, List.length_append, List.length_singleton]; congr 1; omega, ⟨⟨_, rfl⟩, by simp, by simp; omega, hc.snoc _ ⟨by simp, by simp, fun h => by simp at h, fun h => by simp at h, fun h => by simp at h⟩, fun row => ?_, fun gr _ => ?_⟩⟩
      · rw [List.length_append, List.length_singleton, Nat.add_sub_cancel, evX_lit (by rw [getD_end]), getD_end]
        exact evX_free hw row (x + 1) x (by omega) hx hf
      · rw [List.length_append, List.length_singleton, Nat.add_sub_cancel, okAt_lit (by rw [getD_end])]
    · have hf : hcAt nd x = true := by simpa using hf
      rcases hw.kind hx with h | ⟨h, hv0, hv1⟩ | ⟨l, h, hl, hlx⟩ | ⟨l, r, h, hl, hr, hlx, hrx⟩
      · rw [hcAt_lit h] at hf; cases hf
      · refine ⟨code ++ [⟨2, (nd.getD x nd0).val, -1, -1⟩], by rw [em_col hf h, List.length_append, List.length_singleton]; congr 1; omega, ⟨⟨_, rfl⟩, by simp, by simp; omega, hc.snoc _ ⟨by simp, by simp, fun _ => ⟨hv0, hv1⟩, fun h => by simp at h, fun h => by simp at h⟩, fun row => ?_, fun gr hg => ?_⟩⟩
        · rw [List.length_append, List.length_singleton, Nat.add_sub_cancel, evX_col (by rw [getD_end]), evX_col h, getD_end]
        · rw [List.length_append, List.length_singleton, Nat.add_sub_cancel, okAt_col (by rw [getD_end]), getD_end]
          rw [okAt_col h] at hg
          exact hg
      · obtain ⟨c1, e1, k1⟩ := ih l (by omega) (by omega) code hc
        obtain ⟨E, hE⟩ := k1.pre
        have h1 := k1.lo
        have h2 := k1.hi
        have ht := tsAt_un h hl hlx
        have hlast : ((c1.length - 1 : Nat) : Int) = (c1.length : Int) - 1 := by omega
        have hop : ∀ o : Int, ((c1 ++ [(⟨(nd.getD x nd0).op, 0, (c1.length : Int) - 1, -1⟩ : Nd)]).getD c1.length nd0) = ⟨(nd.getD x nd0).op, 0, (c1.length : Int) - 1, -1⟩ := fun _ => getD_end _
        refine ⟨c1 ++ [⟨(nd.getD x nd0).op, 0, (c1.length : Int) - 1, -1⟩], by rw [em_un hw hx hf h hl hlx, e1, List.length_append, List.length_singleton]; simp only; congr 1; omega, ⟨⟨E ++ [_], by rw [hE, List.append_assoc]⟩, by simp; omega, by simp; omega, k1.wf.snoc _ ⟨by simp only; omega, by simp only; omega, fun h' => by simp only at h'; omega, fun _ => by simp only; omega, fun h' => by simp only at h'; omega⟩, fun row => ?_, fun gr hg => ?_⟩⟩
        · rw [List.length_append, List.length_singleton, Nat.add_sub_cancel]
          have hev := k1.ev row
          rcases h with h | h
          · rw [evX_neg (l := c1.length - 1) (by rw [hop 0]; exact h) (by rw [hop 0]; exact hlast.symm) (by omega), evX_pre (by omega), hev, evX_neg h hl hlx]
          · rw [evX_not (l := c1.length - 1) (by rw [hop 0]; exact h) (by rw [hop 0]; exact hlast.symm) (by omega), evX_pre (by omega), hev, evX_not h hl hlx]
        · rw [List.length_append, List.length_singleton, Nat.add_sub_cancel]
          rw [okAt_un h hl hlx] at hg
          rw [okAt_un (l := c1.length - 1) (by rw [hop 0]; exact h) (by rw [hop 0]; exact hlast.symm) (by omega), okAt_pre (by omega)]
          exact k1.ok gr hg
      · obtain ⟨c1, e1, k1⟩ := ih l (by omega) (by omega) code hc
        obtain ⟨c2, e2, k2⟩ := ih r (by omega) (by omega) c1 k1.wf
        obtain ⟨E, hE⟩ := k1.pre
        obtain ⟨F, hF⟩ := k2.pre
        have h1 := k1.lo
        have h2 := k1.hi
        have h3 := k2.lo
        have h4 := k2.hi
        have ht := tsAt_bi h hl hr hlx hrx
        have hla : ((c1.length - 1 : Nat) : Int) = (c1.length : Int) - 1 := by omega
        have hlb : ((c2.length - 1 : Nat) : Int) = (c2.length : Int) - 1 := by omega
        have hop : ∀ o : Int, ((c2 ++ [(⟨(nd.getD x nd0).op, 0, (c1.length : Int) - 1, (c2.length : Int) - 1⟩ : Nd)]).getD c2.length nd0) = ⟨(nd.getD x nd0).op, 0, (c1.length : Int) - 1, (c2.length : Int) - 1⟩ := fun _ => getD_end _
        refine ⟨c2 ++ [⟨(nd.getD x nd0).op, 0, (c1.length : Int) - 1, (c2.length : Int) - 1⟩], by rw [em_bi hw hx hf h hl hr hlx hrx, e1]; simp only; rw [e2, List.length_append, List.length_singleton]; simp only; congr 1; omega, ⟨⟨E ++ (F ++ [_]), by rw [hF, hE, List.append_assoc, List.append_assoc]⟩, by simp; omega, by simp; omega, k2.wf.snoc _ ⟨by simp only; omega, by simp only; omega, fun h' => by simp only at h'; omega, fun h' => by simp only at h'; omega, fun _ => by simp only; omega⟩, fun row => ?_, fun gr hg => ?_⟩⟩
        · rw [List.length_append, List.length_singleton, Nat.add_sub_cancel]
          have ha := k1.ev row
          have hb := k2.ev row
          have hq : evX c2 row (c1.length - 1) = evX nd row l := by rw [hF, evX_pre (by omega)]; exact ha
          rw [evX_bi (l := c1.length - 1) (r := c2.length - 1) (by rw [hop 0]; exact h) (by rw [hop 0]; exact hla.symm) (by rw [hop 0]; exact hlb.symm) (by omega) (by omega), evX_pre (by omega), evX_pre (by omega), hq, hb, evX_bi h hl hr hlx hrx, hop 0]
        · rw [List.length_append, List.length_singleton, Nat.add_sub_cancel]
          rw [okAt_bi h hl hr hlx hrx, Bool.and_eq_true] at hg
          have ha := k1.ok gr hg.1
          have hb := k2.ok gr hg.2
          have hq : okAt gr c2 (c1.length - 1) = true := by rw [hF, okAt_pre (by omega)]; exact ha
          rw [okAt_bi (l := c1.length - 1) (r := c2.length - 1) (by rw [hop 0]; exact h) (by rw [hop 0]; exact hla.symm) (by rw [hop 0]; exact hlb.symm) (by omega) (by omega), okAt_pre (by omega), okAt_pre (by omega), hq, hb]
          rfl
end
end Go.Proofs.YbyabwGreat
