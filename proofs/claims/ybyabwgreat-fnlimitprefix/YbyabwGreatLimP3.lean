/- The answer with ' LIMIT n' behind the text. No Go here. -/
import Derived.Test.YbyabwGreatLimP2
import Derived.Test.YbyabwGreatRunQ
namespace Go.Proofs.YbyabwGreat
open Go.RowKit
set_option linter.unusedVariables false
set_option linter.unusedSimpArgs false

def wLi (p : Pl) (li : Int) : Pl := ⟨p.nc, p.code, p.wh, p.its, p.gr, li, p.ag⟩
theorem run_li (p : Pl) (li : Int) (rows : Nat → List Int) (n nc : Nat) : run (wLi p li) rows n nc = flC (runC p rows n nc) p.its.length (lim li (runM p rows n)) := by
  have e : slTo (wLi p li) rows n = slTo p rows n := slTo_congr n (fun i _ => rfl)
  have em : runM (wLi p li) rows n = runM p rows n := by
    unfold runM
    rw [e]
    rfl
  unfold run
  rw [em]
  refine flC_congr (fun g k _ hk => ?_)
  unfold runC
  rw [e]
  rfl
theorem lim_exr {l : List UInt8} (hl : LimT l) (n : Nat) (hn : n ≤ 65535) {cs : List Col} {N : Nat} {r : Option (Nat × List Int)} (hv : ValidT cs N) (h : Exr (tx l) cs N r) :
    Exr (tx (l ++ limR n)) cs N (if 65536 < (l ++ limR n).length then none else r.map (fun x => (x.1, x.2.take (min n (x.2.length / x.1) * x.1)))) ∧ ∀ c xs, r = some (c, xs) → 1 ≤ c := by
  rcases h with ⟨h1, _⟩ | ⟨_, h⟩
  · exact absurd hv h1
  rcases h with ⟨hp, rfl⟩ | ⟨q, hp, h⟩
  · have := (lim_parse hl n hn hp).2
    have e : (if 65536 < (l ++ limR n).length then none else (none : Option Qy).map (setLi n)) = none := by split <;> rfl
    rw [e] at this
    refine ⟨.inr ⟨hv, .inl ⟨this, by split <;> rfl⟩⟩, fun c xs hh => by cases hh⟩
  obtain ⟨hli, hp2⟩ := lim_parse hl n hn hp
  have hli := hli q rfl
  by_cases hb : 65536 < (l ++ limR n).length
  · rw [if_pos hb] at hp2 ⊢
    refine ⟨.inr ⟨hv, .inl ⟨hp2, rfl⟩⟩, fun c xs hh => ?_⟩
    rcases h with ⟨_, rfl⟩ | ⟨hc, ⟨_, rfl⟩ | ⟨_, rfl⟩⟩
    · cases hh
    · cases hh
    · cases hh; exact hc.ni
  · rw [if_neg hb] at hp2 ⊢
    have hcm : CmOK q cs.length ↔ CmOK (setLi n q) cs.length := by
      constructor
      · intro h; exact ⟨h.n0, h.n1, h.ni, by simp only [setLi]; omega, h.wf, h.wh, h.its, h.nod, h.gr, h.ag⟩
      · intro h; exact ⟨h.n0, h.n1, h.ni, by omega, h.wf, h.wh, h.its, h.nod, h.gr, h.ag⟩
    have hcost : costV (plan (setLi n q) cs.length) cs.length N = costV (plan q cs.length) cs.length N := rfl
    rcases h with ⟨hc, rfl⟩ | ⟨hc, ⟨hk, rfl⟩ | ⟨hk, rfl⟩⟩
    · exact ⟨.inr ⟨hv, .inr ⟨_, hp2, .inl ⟨fun hh => hc (hcm.2 hh), rfl⟩⟩⟩, fun c xs hh => by cases hh⟩
    · exact ⟨.inr ⟨hv, .inr ⟨_, hp2, .inr ⟨hcm.1 hc, .inl ⟨by rw [Int.toNat_natCast] at hk ⊢; rw [hcost]; exact hk, rfl⟩⟩⟩⟩, fun c xs hh => by cases hh⟩
    · refine ⟨.inr ⟨hv, .inr ⟨_, hp2, .inr ⟨hcm.1 hc, .inr ⟨by rw [Int.toNat_natCast] at hk ⊢; rw [hcost]; exact hk, ?_⟩⟩⟩⟩, fun c xs hh => by cases hh; exact hc.ni⟩
      have hni : 1 ≤ q.its.length := hc.ni
      have e1 : run (plQ q cs.length) (rowT cs) (N : Int).toNat cs.length = flC (runC (plQ q cs.length) (rowT cs) N cs.length) q.its.length (runM (plQ q cs.length) (rowT cs) N) := by
        rw [Int.toNat_natCast]
        have := run_li (plQ q cs.length) (-1) (rowT cs) N cs.length
        have hw : wLi (plQ q cs.length) (-1) = plQ q cs.length := by unfold wLi plQ; simp only; rw [hli]
        rw [hw] at this
        rw [this]
        have hlm : lim (-1) (runM (plQ q cs.length) (rowT cs) N) = runM (plQ q cs.length) (rowT cs) N := by unfold lim; rw [if_neg (by omega)]
        rw [hlm]
        rfl
      have e2 : run (plQ (setLi n q) cs.length) (rowT cs) (N : Int).toNat cs.length = flC (runC (plQ q cs.length) (rowT cs) N cs.length) q.its.length (lim n (runM (plQ q cs.length) (rowT cs) N)) := by
        rw [Int.toNat_natCast]
        exact run_li (plQ q cs.length) (n : Int) (rowT cs) N cs.length
      simp only [Option.map_some]
      rw [e1, e2]
      generalize runM (plQ q cs.length) (rowT cs) N = M
      generalize runC (plQ q cs.length) (rowT cs) N cs.length = C
      have hdiv : (flC C q.its.length M).length / q.its.length = M := by rw [flC_len, Nat.mul_div_cancel _ (by omega)]
      have hlim : lim (n : Int) M = min n M := by
        unfold lim
        by_cases h1 : n < M
        · rw [if_pos ⟨by omega, by omega⟩, Int.toNat_natCast]; omega
        · rw [if_neg (by omega)]; omega
      rw [hdiv, flC_take _ _ _ _ (Nat.min_le_right _ _), hlim]
      rfl
end Go.Proofs.YbyabwGreat
