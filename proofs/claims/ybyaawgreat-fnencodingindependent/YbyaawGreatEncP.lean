/- The same rows in other encodings, or in another order: the same answer. No Go here. -/
import Derived.Test.YbyaawGreatPermP
import Derived.Test.YbyaawGreatPerm1
import Derived.Test.YbyaawGreatResEq
import Derived.Test.YbyaawGreatEx1
import Derived.Test.YbyaawGreatPlainEnc3
import Derived.Test.YbyaawGreatPlainEnc4
namespace Go.Proofs.YbyaawGreat
open Go.RowKit
set_option linter.unusedVariables false
set_option linter.unusedSimpArgs false

theorem encOf_validI (k : Int) (xs : List Int) (h : xs.length ≤ 65536) (hk : k = 0 ∨ k = 1 ∨ k = 2) : Valid (encOf k xs) xs.length := by
  unfold encOf
  rw [if_neg (by omega)]
  rcases hk with rfl | rfl | rfl
  · exact encP_valid xs h
  · exact encD_valid xs h
  · exact encR_valid xs h
theorem dec_encOfI (k : Int) (xs : List Int) (h : xs.length ≤ 65536) (hk : k = 0 ∨ k = 1 ∨ k = 2) : dec (encOf k xs) = xs := by
  unfold encOf
  rw [if_neg (by omega)]
  rcases hk with rfl | rfl | rfl
  · exact dec_encP xs
  · exact dec_encD xs
  · exact dec_encR xs
theorem colsT_validI {n : Nat} {f : Nat → List Int} {ks : List Int} (hn : n ≤ 65536) (hl : ks.length ≤ 256) (hk : ∀ j, j < ks.length → 0 ≤ ks.getD j 0 ∧ ks.getD j 0 ≤ 2) : ValidT (colsT n f ks) n := by
  refine ⟨by omega, by omega, by rw [colsT_len]; exact hl, fun i hi => ?_⟩
  rw [colsT_len] at hi
  rw [colsT_at n f ks i hi]
  have := encOf_validI (ks.getD i 0) (colT n f i) (by rw [colT_len]; exact hn) (by have := hk i hi; omega)
  rwa [colT_len] at this
theorem colsT_dec {n : Nat} {f : Nat → List Int} {ks : List Int} (hn : n ≤ 65536) (hk : ∀ j, j < ks.length → 0 ≤ ks.getD j 0 ∧ ks.getD j 0 ≤ 2) : (colsT n f ks).map dec = (List.range ks.length).map (colT n f) := by
  unfold colsT
  rw [List.map_map]
  refine List.map_congr_left (fun j hj => ?_)
  have hj' := List.mem_range.1 hj
  exact dec_encOfI _ _ (by rw [colT_len]; exact hn) (by have := hk j hj'; omega)
theorem rowT_dec (cs : List Col) (i : Nat) : rowT cs i = (cs.map dec).map (fun l => l.getD i 0) := by
  unfold rowT
  rw [List.map_map]
  rfl
theorem rowT_same {cs cs' : List Col} (h : cs.map dec = cs'.map dec) : rowT cs = rowT cs' := by
  funext i
  rw [rowT_dec, rowT_dec, h]
theorem rowT_colsI {n : Nat} {f : Nat → List Int} {ks : List Int} (hn : n ≤ 65536) (hk : ∀ j, j < ks.length → 0 ≤ ks.getD j 0 ∧ ks.getD j 0 ≤ 2) (i : Nat) (hi : i < n) (hl : (f i).length = ks.length) : rowT (colsT n f ks) i = f i := by
  rw [rowT_dec, colsT_dec hn hk, List.map_map]
  apply List.ext_getElem
  · simp [hl]
  · intro j h1 h2
    have := colT_at n f j i hi
    simp only [List.getElem_map, List.getElem_range, Function.comp]
    rw [this, List.getD_eq_getElem?_getD, List.getElem?_eq_getElem h2]
    rfl
theorem kinds3_ok (zs : List Int) (m j : Nat) (h : j < (kinds3 zs m).length) : 0 ≤ (kinds3 zs m).getD j 0 ∧ (kinds3 zs m).getD j 0 ≤ 2 := by
  rw [kinds3_len] at h
  rw [kinds3_at _ _ _ h]
  have := kind3_ok zs j
  omega
theorem tabC_validI (cells : List Int) (m : Nat) (zs : List Int) (hm : m ≤ 256) (hn : nR cells m ≤ 65536) : ValidT (tabC cells m zs) (nR cells m) := by
  unfold tabC
  exact colsT_validI hn (by rw [kinds3_len]; exact hm) (fun j hj => kinds3_ok zs m j hj)
theorem tabC_lenI (cells : List Int) (m : Nat) (zs : List Int) : (tabC cells m zs).length = m := by unfold tabC; rw [colsT_len, kinds3_len]
theorem tabC_dec (cells : List Int) (m : Nat) (zs : List Int) (hn : nR cells m ≤ 65536) : (tabC cells m zs).map dec = (List.range m).map (colT (nR cells m) (rowsF cells m)) := by
  unfold tabC
  rw [colsT_dec hn (fun j hj => kinds3_ok zs m j hj), kinds3_len]
theorem rowsF_lenI (cells : List Int) (m i : Nat) (hi : i < nR cells m) : (rowsF cells m i).length = m := by
  refine rowsF_len cells m i ?_
  unfold nR at hi
  have h1 : (i + 1) * m ≤ cells.length := by
    have h2 : i + 1 ≤ cells.length / m := hi
    exact Nat.le_trans (Nat.mul_le_mul_right m h2) (Nat.div_mul_le_self _ _)
  rw [Nat.add_mul] at h1
  omega
theorem tabC_rows (cells : List Int) (m : Nat) (zs : List Int) (hn : nR cells m ≤ 65536) (i : Nat) (hi : i < nR cells m) : rowT (tabC cells m zs) i = rowsF cells m i := by
  unfold tabC
  exact rowT_colsI hn (fun j hj => kinds3_ok zs m j hj) i hi (by rw [rowsF_lenI _ _ _ hi, kinds3_len])
theorem Exr.same {x : ByteArray} {cs cs' : List Col} {n : Int} {r : Option (Nat × List Int)} (h : Exr x cs n r) (hl : cs.length = cs'.length) (hv : ValidT cs n) (hv' : ValidT cs' n) (hr : rowT cs = rowT cs') : Exr x cs' n r := by
  rcases h with ⟨h1, _⟩ | ⟨_, h2⟩
  · exact absurd hv h1
  · refine .inr ⟨hv', ?_⟩
    rw [← hl, ← hr]
    exact h2
theorem Exr.perm {x : ByteArray} {cs cs' : List Col} {n : Nat} {q : Qy} {r : Option (Nat × List Int)} (h : Exr x cs n r) (hq : Pq x (some q)) (hag : aggW q.its q.gr = true) (hli : q.li = -1) (hl : cs.length = cs'.length) (hv : ValidT cs n) (hv' : ValidT cs' n)
    (hp : ((List.range n).map (rowT cs)).Perm ((List.range n).map (rowT cs'))) : Exr x cs' n r := by
  rcases h with ⟨h1, _⟩ | ⟨_, h2⟩
  · exact absurd hv h1
  · refine .inr ⟨hv', ?_⟩
    rw [← hl]
    rcases h2 with h2 | ⟨q', h2, h3⟩
    · exact .inl h2
    · cases hq.det h2
      refine .inr ⟨q, hq, ?_⟩
      rcases h3 with h3 | ⟨h3, h4⟩
      · exact .inl h3
      · refine .inr ⟨h3, ?_⟩
        rcases h4 with h4 | ⟨h4, h5⟩
        · exact .inl h4
        · refine .inr ⟨h4, ?_⟩
          rw [h5, Int.toNat_natCast]
          have := run_perm (p := plQ q cs.length) (nc0 := cs.length) (rows := rowT cs) (rows' := rowT cs') (n := n) (nc := cs.length) hag hli h3.wf h3.its (h3.ag hag) hp
          rw [this]
theorem listF_fD {L : List (List Int)} {n : Nat} (h : L.length = n) : listF (fD L) n = L := by
  subst h
  apply List.ext_getElem
  · simp [listF]
  · intro i h1 h2
    simp [listF, fD, List.getElem?_eq_getElem h2]
/-- The table of the rows in another order. -/
theorem perm_rows {cells : List Int} {m : Nat} {zs : List Int} {L : List (List Int)} (hm : m ≤ 256) (hn : nR cells m ≤ 65536) (hL : L.Perm (listF (rowsF cells m) (nR cells m))) :
    ((List.range (nR cells m)).map (rowT (tabC cells m zs))).Perm ((List.range (nR cells m)).map (rowT (colsT (nR cells m) (fD L) (kinds3 zs m)))) := by
  have hll : L.length = nR cells m := by rw [hL.length_eq, listF_len]
  have e1 : (List.range (nR cells m)).map (rowT (tabC cells m zs)) = listF (rowsF cells m) (nR cells m) := List.map_congr_left (fun i hi => tabC_rows cells m zs hn i (List.mem_range.1 hi))
  have hlen : ∀ i, i < nR cells m → (fD L i).length = m := fun i hi => by
    have hmem : fD L i ∈ L := by
      unfold fD
      rw [List.getD_eq_getElem?_getD, List.getElem?_eq_getElem (show i < L.length by omega)]
      exact List.getElem_mem _
    obtain ⟨j, hj, e⟩ := List.mem_map.1 (hL.mem_iff.1 hmem)
    rw [← e]
    exact rowsF_lenI cells m j (List.mem_range.1 hj)
  have e2 : (List.range (nR cells m)).map (rowT (colsT (nR cells m) (fD L) (kinds3 zs m))) = listF (fD L) (nR cells m) := List.map_congr_left (fun i hi => rowT_colsI hn (fun j hj => kinds3_ok zs m j hj) i (List.mem_range.1 hi) (by rw [hlen i (List.mem_range.1 hi), kinds3_len]))
  rw [e1, e2, listF_fD hll]
  exact hL.symm
end Go.Proofs.YbyaawGreat
