/- Walk: laws.permute -/
import Derived.Test.YbyaawGreatRefDecTab
import Derived.Test.YbyaawGreatStI
import Derived.Test.YbyaawGreatEx4
import Derived.Test.YbyaawGreatGen0
import Derived.Test.YbyaawGreatGrp6
namespace Go.Proofs.YbyaawGreat
open Go.RowKit
set_option maxRecDepth 100000
set_option linter.unusedVariables false
set_option linter.unusedSimpArgs false

section
variable {P : Program} {ops : Array Oper} {rest : List Oper} {o : Oper} {a : Act} {Q : Exit → Act → World → Prop} {w : World}
/-- copy(d, s) of one-cell values into a row of the call's own. -/
theorem wpList_cpR (hg : o.guard = none) {d s : Operand} {dT sT : TypeId} (ho : o.op = .call { callee := .builtin .copy, args := #[d, s], argTypes := #[dT, sT] }) (e : TypeId) (hu : P.underlying dT = some (.slice e)) (hsz : (P.info? e).map (·.size) = some 1)
    (base : Nat) (g n cap : Nat) (xs ys : List Value) (hd : a.eval d = .slice (some ⟨g, 0, none⟩) n cap) (hown : w.ownsRow base e 1 (.slice (some ⟨g, 0, none⟩) n cap) n xs)
    (sp : Option Addr) (sCap : Nat) (hs : a.eval s = .slice sp n sCap) (hlen : ys.length = n) (h1 : ∀ u ∈ ys, u.oneCell' = true) (hys : ∀ j, j < n → ∃ b off, sp = some ⟨b, off, none⟩ ∧ w.cell? ⟨b, off + j, none⟩ = some (ys.getD j nilV))
    (h : ∀ w', w'.ownsRow base e 1 (.slice (some ⟨g, 0, none⟩) n cap) n ys → w.grownBy w' (some g) → wpList P ops Q rest (a.put o.dst (goInt n)) w') : wpList P ops Q (o :: rest) a w := by
  subst hlen
  have hown' := hown
  have hxl := hown.1
  rcases hown.2 with ⟨hv, _⟩ | ⟨g', cap', cur, hv, hbg, hh, hnc, hcm, hcs, htake⟩
  · cases hv
  cases hv
  by_cases h0 : ys.length = 0
  · have hy : ys = [] := List.eq_nil_of_length_eq_zero h0
    have hx : xs = [] := List.eq_nil_of_length_eq_zero (by omega)
    subst hy; subst hx
    exact wpList_copy_nothing hg d s dT sT ho e hu hsz _ sp _ _ _ _ hd hs (by simp) (h w hown' (World.grownBy.refl _ _))
  · obtain ⟨b, off, rfl, _⟩ := hys 0 (by omega)
    refine wpList_copy_own hg d s dT sT ho e hu hsz g 0 _ _ ⟨b, off, none⟩ _ _ hd hs cur e hh ys (by simp) ?_ (by simp; omega) h1 ?_
    · intro j v hv
      have hj : j < ys.length := by
        rcases Nat.lt_or_ge j ys.length with h | h
        · exact h
        · simp [List.getElem?_eq_none h] at hv
      obtain ⟨b', off', eb, hc⟩ := hys j hj
      cases eb
      have hadd : (⟨b, off, none⟩ : Addr).add j = ⟨b, off + j, none⟩ := by unfold Addr.add; split <;> simp_all
      rw [hadd, hc, List.getD_eq_getElem?_getD, hv]
      rfl
    · refine h _ ?_ ⟨rfl, rfl, rfl, by simp [World.setRow], fun k _ hk => setRow_other w g k _ (fun e => hk (by simp [e]))⟩
      refine ⟨by simp, .inr ⟨g, cap, _, rfl, hbg, setRow_heap w g cur _ e _ hh, by omega, hcm, ?_, ?_⟩⟩
      · simp; omega
      · simp
end
/-- The cells of n rows: each is a row of L. -/
def RowsV (w : World) (vs : List Value) (L : List (List Int)) : Prop := vs.length = L.length ∧ ∀ i, i < L.length → ∃ a c, vs.getD i nilV = .slice a (L.getD i []).length c ∧ IntsAt w a (L.getD i [])
theorem RowsV.ext {w w' : World} {vs : List Value} {L : List (List Int)} (h : RowsV w vs L) (he : Ext w w') : RowsV w' vs L := ⟨h.1, fun i hi => by
  obtain ⟨a, c, e, hi2⟩ := h.2 i hi
  exact ⟨a, c, e, hi2.ext he⟩⟩
def listF (f : Nat → List Int) (n : Nat) : List (List Int) := (List.range n).map f
theorem listF_len (f : Nat → List Int) (n : Nat) : (listF f n).length = n := by simp [listF]
theorem listF_at (f : Nat → List Int) (n i : Nat) (h : i < n) : (listF f n).getD i [] = f i := by simp [listF, h]
theorem IRows.list {w : World} {a : Option Addr} {n : Nat} {f : Nat → List Int} (h : IRows w a n f) : ∃ vs, vs.length = n ∧ RowsV w vs (listF f n) ∧ (∀ u ∈ vs, u.oneCell' = true) ∧ ∀ j, j < n → ∃ b off, a = some ⟨b, off, none⟩ ∧ w.cell? ⟨b, off + j, none⟩ = some (vs.getD j nilV) := by
  rcases Nat.eq_zero_or_pos n with h0 | h0
  · subst h0
    exact ⟨[], rfl, ⟨rfl, fun i hi => by simp [listF] at hi⟩, (fun u hu => by cases hu), fun j hj => by omega⟩
  obtain ⟨b, off, _, _, rfl, _, _⟩ := h 0 h0
  have hv : ∀ i, i < n → ∃ a' c', ((w.cell? ⟨b, off + i, none⟩).getD nilV) = .slice a' (f i).length c' ∧ w.cell? ⟨b, off + i, none⟩ = some ((w.cell? ⟨b, off + i, none⟩).getD nilV) ∧ IntsAt w a' (f i) := fun i hi => by
    obtain ⟨b', off', a', c', e, hc, hr⟩ := h i hi
    cases e
    exact ⟨a', c', by rw [hc]; rfl, by rw [hc]; rfl, hr⟩
  have hg : ∀ i, i < n → ((List.range n).map (fun i => (w.cell? ⟨b, off + i, none⟩).getD nilV)).getD i nilV = (w.cell? ⟨b, off + i, none⟩).getD nilV := fun i hi => by
    rw [List.getD_eq_getElem?_getD, List.getElem?_map, List.getElem?_range hi]; rfl
  refine ⟨(List.range n).map (fun i => (w.cell? ⟨b, off + i, none⟩).getD nilV), by simp, ⟨by simp [listF], fun i hi => ?_⟩, fun u hu => ?_, fun j hj => ?_⟩
  · rw [listF_len] at hi
    obtain ⟨a', c', e, _, hr⟩ := hv i hi
    rw [hg i hi, listF_at _ _ _ hi]
    exact ⟨a', c', e, hr⟩
  · obtain ⟨i, hi, rfl⟩ := List.mem_map.1 hu
    obtain ⟨a', c', e, _, _⟩ := hv i (List.mem_range.1 hi)
    rw [e]; rfl
  · obtain ⟨a', c', e, hc, _⟩ := hv j hj
    exact ⟨b, off, rfl, by rw [hg j hj]; exact hc⟩
/-- Two entries swapped. -/
def swapL {α : Type} (l : List α) (i j : Nat) (d : α) : List α := (l.set i (l.getD j d)).set j (l.getD i d)
theorem swapL_len {α : Type} (l : List α) (i j : Nat) (d : α) : (swapL l i j d).length = l.length := by simp [swapL]
theorem getD_setB {α : Type} (l : List α) (i j : Nat) (x d : α) (hi : i < l.length) : (l.set i x).getD j d = if j = i then x else l.getD j d := by
  rw [List.getD_eq_getElem?_getD, List.getD_eq_getElem?_getD, List.getElem?_set]
  by_cases h : j = i
  · subst h; simp [hi]
  · rw [if_neg (fun e => h e.symm), if_neg h]
theorem swapL_at {α : Type} (l : List α) (i j t : Nat) (d : α) (hi : i < l.length) (hj : j < l.length) : (swapL l i j d).getD t d = if t = j then l.getD i d else if t = i then l.getD j d else l.getD t d := by
  unfold swapL
  rw [getD_setB _ _ _ _ _ (by rw [List.length_set]; exact hj), getD_setB _ _ _ _ _ hi]
theorem swapL_perm {α : Type} (l : List α) (i j : Nat) (d : α) (hi : i < l.length) (hj : j < l.length) : (swapL l i j d).Perm l := by
  have key : ∀ (l : List α) (i j : Nat), i < j → j < l.length → (swapL l i j d).Perm l := by
    intro l i j hij hj
    obtain ⟨A, x, B, y, C, rfl, ha, hb⟩ : ∃ A x B y C, l = A ++ x :: (B ++ y :: C) ∧ A.length = i ∧ A.length + 1 + B.length = j := by
      refine ⟨l.take i, l[i], (l.drop (i + 1)).take (j - i - 1), l[j], l.drop (j + 1), ?_, by simp; omega, by simp; omega⟩
      have e1 : l = l.take i ++ l[i] :: l.drop (i + 1) := by rw [← List.drop_eq_getElem_cons (by omega), List.take_append_drop]
      have e2 : l.drop (i + 1) = (l.drop (i + 1)).take (j - i - 1) ++ l[j] :: l.drop (j + 1) := by
        have h1 := (List.take_append_drop (j - i - 1) (l.drop (i + 1))).symm
        rw [List.drop_drop, show i + 1 + (j - i - 1) = j by omega, List.drop_eq_getElem_cons hj] at h1
        exact h1
      rw [← e2]
      exact e1
    have g1 : (A ++ x :: (B ++ y :: C)).getD i d = x := by subst ha; simp
    have g2 : (A ++ x :: (B ++ y :: C)).getD j d = y := by
      subst hb
      rw [List.getD_eq_getElem?_getD, List.getElem?_append_right (by omega), show A.length + 1 + B.length - A.length = B.length + 1 by omega]
      simp
    have s1 : swapL (A ++ x :: (B ++ y :: C)) i j d = A ++ y :: (B ++ x :: C) := by
      unfold swapL
      rw [g1, g2]
      subst hb
      subst ha
      rw [List.set_append_right _ _ (Nat.le_refl _), Nat.sub_self, List.set_cons_zero, List.set_append_right _ _ (by omega), show A.length + 1 + B.length - A.length = B.length + 1 by omega, List.set_cons_succ, List.set_append_right _ _ (Nat.le_refl _), Nat.sub_self, List.set_cons_zero]
    rw [s1]
    refine List.Perm.append_left A ?_
    refine ((List.perm_middle (a := x) (l₁ := B) (l₂ := C)).cons y).trans ?_
    refine (List.Perm.swap x y (B ++ C)).trans ?_
    exact ((List.perm_middle (a := y) (l₁ := B) (l₂ := C)).symm).cons x
  rcases Nat.lt_trichotomy i j with h | h | h
  · exact key l i j h hj
  · subst h
    have : swapL l i i d = l := by
      apply List.ext_getElem?
      intro t
      unfold swapL
      rw [List.set_set, List.getElem?_set]
      by_cases ht : i = t
      · subst ht
        rw [if_pos rfl, if_pos hi, List.getD_eq_getElem?_getD, List.getElem?_eq_getElem hi]
        rfl
      · rw [if_neg ht]
    rw [this]
  · have e : swapL l i j d = swapL l j i d := by
      unfold swapL
      rw [List.set_comm _ _ (by omega)]
    rw [e]
    exact key l j i h hi
theorem RowsV.swap {w : World} {vs : List Value} {L : List (List Int)} (h : RowsV w vs L) (i j : Nat) (hi : i < L.length) (hj : j < L.length) : RowsV w (swapL vs i j nilV) (swapL L i j []) := by
  refine ⟨by rw [swapL_len, swapL_len]; exact h.1, fun t ht => ?_⟩
  rw [swapL_len] at ht
  rw [swapL_at _ _ _ _ _ (by rw [h.1]; exact hi) (by rw [h.1]; exact hj), swapL_at _ _ _ _ _ hi hj]
  split
  · exact h.2 i hi
  · split
    · exact h.2 j hj
    · exact h.2 t ht
def RetPerm (n : Nat) (f : Nat → List Int) (w : World) : Ending → World → Prop := fun en w' => ∃ a cap L, en = .returned (.slice a n cap) ∧ L.Perm (listF f n) ∧ IRows w' a n (fD L) ∧ Ext w w'
set_option maxHeartbeats 8000000 in
theorem permute (f : Nat → List Int) (n : Nat) (zs : List Int) (ra za : Option Addr) (rc zc : Nat) (w : World) (hr : Hid (IRows w ra n f)) (hz : Hid (BytesAt w za zs)) (hn : n ≤ 65536) (hzl : zs.length ≤ 1048576) :
    Calls Yaan.prog 14 #[.slice ra n rc, .slice za zs.length zc] w (RetPerm n f w) := by
  obtain ⟨vs0, hvl, hR0, h10, hcell⟩ := hr.out.list
  replace hvl := hide hvl
  replace hR0 := hide hR0
  replace h10 := hide h10
  replace hcell := hide hcell
  go_enter Yaan.func14, Yaan.ntmps14
  go_wp2_with (first | (at_make; refine mk_rows rfl rfl n rfl rfl (by omega) w.heap.size rfl ?_; intro w1 O1 x1 z1; have hX1 : Hid (Ext w w1) := x1; have hO1 := hide O1; clear O1 x1 z1) | (refine wpList_cpR rfl rfl 23 Yaan.underlying27 size_row1 w.heap.size w.heap.size n n _ vs0 (by rfl) hO1.out ra rc (by rfl) hvl.out h10.out (fun j hj => by obtain ⟨b, off, e, hc⟩ := hcell.out j hj; exact ⟨b, off, e, hX1.out.cell hc⟩) ?_; intro w2 O2 hg2; have hX2 : Hid (Ext w w2) := hX1.out.grown hg2 (fun q hq => by cases hq; exact Nat.le_refl _); have hO2 := hide O2; clear O2 hg2))
  go_loopw [6] (fun i wr => ∃ (k : Nat) (vs : List Value) (L : List (List Int)), i = .int .i64 ((k : Int) - 1) ∧ k ≤ n ∧ (n = 0 ∨ 1 ≤ k) ∧ Hid (wr.ownsRow w.heap.size 23 1 (.slice (some ⟨w.heap.size, 0, none⟩) n n) n vs) ∧ Hid (RowsV w vs L) ∧ Hid (L.Perm (listF f n)) ∧ Hid (Ext w wr)) (fun i _ => (intOf i + 1).toNat)
  case atStart => exact ⟨n, vs0, listF f n, by go_num, Nat.le_refl _, by omega, hO2, hR0, List.Perm.refl _, hX2⟩
  clear hO2 hX2 hO1 hX1 hR0 h10 hcell
  obtain ⟨k, vs, L, rfl, hk, hk1, hO, hR, hP, hX⟩ := hrel
  have hLl : Hid (L.length = n) := by show _ = _; rw [hP.out.length_eq, listF_len]
  by_cases hk2 : 2 ≤ k
  · obtain ⟨k, rfl⟩ : ∃ k', k = k' + 2 := ⟨k - 2, by omega⟩
    have hi0 : (0 : Int) < (k : Int) + 1 := by omega
    have hie : ((k + 2 : Nat) : Int) - 1 = (k : Int) + 1 := by omega
    rw [hie]
    have hin : (k : Int) + 1 < n := by omega
    by_cases hz0 : 0 < zs.length
    · have hz0' : (0 : Int) < zs.length := by omega
      have hmod : (k + 1) % zs.length < zs.length := Nat.mod_lt _ hz0
      obtain ⟨b, off, e, c3, hb0, hb1⟩ := (hz.out.ext hX.out) ((k + 1) % zs.length) hmod
      cases e
      have hrem : ((k : Int) + 1) % (zs.length : Int) = (((k + 1) % zs.length : Nat) : Int) := by rw [Int.natCast_emod]; rfl
      have hmi : (((k + 1) % zs.length : Nat) : Int) < zs.length := by omega
      generalize zs.getD ((k + 1) % zs.length) 0 = y at *
      obtain ⟨y, rfl⟩ := Int.eq_ofNat_of_zero_le hb0
      have hj : ((y : Int) * 257 + ((k : Int) + 1)) % ((k : Int) + 1 + 1) = (((y * 257 + (k + 1)) % (k + 2) : Nat) : Int) := by
        rw [show (y : Int) * 257 + ((k : Int) + 1) = ((y * 257 + (k + 1) : Nat) : Int) by omega, show (k : Int) + 1 + 1 = ((k + 2 : Nat) : Int) by omega, Int.natCast_emod]
      have hjl : (y * 257 + (k + 1)) % (k + 2) < k + 2 := Nat.mod_lt _ (by omega)
      generalize (y * 257 + (k + 1)) % (k + 2) = j at *
      generalize (k + 1) % zs.length = q at *
      have hjn : j < n := by omega
      have hjn' : (j : Int) < n := by omega
      obtain ⟨a1, c1, e1, i1⟩ := hR.out.2 (k + 1) (by rw [hLl.out]; omega)
      obtain ⟨a2, c2, e2, i2⟩ := hR.out.2 j (by rw [hLl.out]; exact hjn)
      obtain ⟨g1, eg1, gk⟩ := ownsRow_cell hO.out (k + 1) (by omega)
      cases eg1
      obtain ⟨g2, eg2, gj⟩ := ownsRow_cell hO.out j hjn
      cases eg2
      have fk := World.ownsRow.frozenAt hO.out (k + 1)
      obtain ⟨v1, hv1⟩ : ∃ v, Hid (vs.getD (k + 1) nilV = v) := ⟨_, rfl⟩
      obtain ⟨v2, hv2⟩ : ∃ v, Hid (vs.getD j nilV = v) := ⟨_, rfl⟩
      have h1v : v1.oneCell' = true := by rw [← hv1.out, e1]; rfl
      have h2v : v2.oneCell' = true := by rw [← hv2.out, e2]; rfl
      rw [hv1.out] at gk
      rw [hv2.out] at gj
      have hO1 := hide (World.ownsRow.stored hO.out (k + 1) v2).1
      have hg1 := grown_setCell wr ⟨w.heap.size, k + 1, none⟩ v2
      have hX1 : Hid (Ext w (wr.setCell ⟨w.heap.size, k + 1, none⟩ v2)) := hX.out.grown hg1 (fun q hq => by cases hq; exact Nat.le_refl _)
      have fj := World.ownsRow.frozenAt hO1.out j
      obtain ⟨g3, eg3, gj1⟩ := ownsRow_cell hO1.out j hjn
      cases eg3
      have hO2 := hide (World.ownsRow.stored hO1.out j v1).1
      have hg2 := grown_setCell (wr.setCell ⟨w.heap.size, k + 1, none⟩ v2) ⟨w.heap.size, j, none⟩ v1
      have hX2 : Hid (Ext w ((wr.setCell ⟨w.heap.size, k + 1, none⟩ v2).setCell ⟨w.heap.size, j, none⟩ v1)) := hX1.out.grown hg2 (fun q hq => by cases hq; exact Nat.le_refl _)
      have hR2 : Hid (RowsV w (swapL vs (k + 1) j nilV) (swapL L (k + 1) j [])) := hR.out.swap (k + 1) j (by rw [hLl.out]; omega) (by rw [hLl.out]; exact hjn)
      have hP2 : Hid ((swapL L (k + 1) j []).Perm (listF f n)) := (swapL_perm L (k + 1) j [] (by rw [hLl.out]; omega) (by rw [hLl.out]; exact hjn)).trans hP.out
      have hsv : Hid ((vs.set (k + 1) v2).set j v1 = swapL vs (k + 1) j nilV) := by show _ = _; unfold swapL; rw [hv1.out, hv2.out]
      rw [hsv.out] at hO2
      clear e1 e2 i1 i2 hg1 hg2
      go_wp2_with (first | (refine wpList_st1 (g := w.heap.size) (i := k + 1) (v := v2) rfl rfl (by rfl) (by rfl) h2v gk fk size_row1 ?_) | (refine wpList_st1 (g := w.heap.size) (i := j) (v := v1) rfl rfl (by rfl) (by rfl) h1v gj1 fj size_row1 ?_))
      go_roundw
      case rel => exact ⟨k + 1, _, _, by go_num, by omega, by omega, hO2.out, hR2.out, hP2.out, hX2.out⟩
      case measure => simp [intOf]; omega
    · have hz0' : ¬ (0 : Int) < zs.length := by omega
      obtain ⟨j, hj⟩ : ∃ j : Nat, (n : Int) - 1 - ((k : Int) + 1) = (j : Int) := ⟨n - 1 - (k + 1), by omega⟩
      have hjn : j < n := by omega
      have hjn' : (j : Int) < n := by omega
      obtain ⟨a1, c1, e1, i1⟩ := hR.out.2 (k + 1) (by rw [hLl.out]; omega)
      obtain ⟨a2, c2, e2, i2⟩ := hR.out.2 j (by rw [hLl.out]; exact hjn)
      obtain ⟨g1, eg1, gk⟩ := ownsRow_cell hO.out (k + 1) (by omega)
      cases eg1
      obtain ⟨g2, eg2, gj⟩ := ownsRow_cell hO.out j hjn
      cases eg2
      have fk := World.ownsRow.frozenAt hO.out (k + 1)
      obtain ⟨v1, hv1⟩ : ∃ v, Hid (vs.getD (k + 1) nilV = v) := ⟨_, rfl⟩
      obtain ⟨v2, hv2⟩ : ∃ v, Hid (vs.getD j nilV = v) := ⟨_, rfl⟩
      have h1v : v1.oneCell' = true := by rw [← hv1.out, e1]; rfl
      have h2v : v2.oneCell' = true := by rw [← hv2.out, e2]; rfl
      rw [hv1.out] at gk
      rw [hv2.out] at gj
      have hO1 := hide (World.ownsRow.stored hO.out (k + 1) v2).1
      have hg1 := grown_setCell wr ⟨w.heap.size, k + 1, none⟩ v2
      have hX1 : Hid (Ext w (wr.setCell ⟨w.heap.size, k + 1, none⟩ v2)) := hX.out.grown hg1 (fun q hq => by cases hq; exact Nat.le_refl _)
      have fj := World.ownsRow.frozenAt hO1.out j
      obtain ⟨g3, eg3, gj1⟩ := ownsRow_cell hO1.out j hjn
      cases eg3
      have hO2 := hide (World.ownsRow.stored hO1.out j v1).1
      have hg2 := grown_setCell (wr.setCell ⟨w.heap.size, k + 1, none⟩ v2) ⟨w.heap.size, j, none⟩ v1
      have hX2 : Hid (Ext w ((wr.setCell ⟨w.heap.size, k + 1, none⟩ v2).setCell ⟨w.heap.size, j, none⟩ v1)) := hX1.out.grown hg2 (fun q hq => by cases hq; exact Nat.le_refl _)
      have hR2 : Hid (RowsV w (swapL vs (k + 1) j nilV) (swapL L (k + 1) j [])) := hR.out.swap (k + 1) j (by rw [hLl.out]; omega) (by rw [hLl.out]; exact hjn)
      have hP2 : Hid ((swapL L (k + 1) j []).Perm (listF f n)) := (swapL_perm L (k + 1) j [] (by rw [hLl.out]; omega) (by rw [hLl.out]; exact hjn)).trans hP.out
      have hsv : Hid ((vs.set (k + 1) v2).set j v1 = swapL vs (k + 1) j nilV) := by show _ = _; unfold swapL; rw [hv1.out, hv2.out]
      rw [hsv.out] at hO2
      clear e1 e2 i1 i2 hg1 hg2
      go_wp2_with (first | (refine wpList_st1 (g := w.heap.size) (i := k + 1) (v := v2) rfl rfl (by rfl) (by rfl) h2v gk fk size_row1 ?_) | (refine wpList_st1 (g := w.heap.size) (i := j) (v := v1) rfl rfl (by rfl) (by rfl) h1v gj1 fj size_row1 ?_))
      go_roundw
      case rel => exact ⟨k + 1, _, _, by go_num, by omega, by omega, hO2.out, hR2.out, hP2.out, hX2.out⟩
      case measure => simp [intOf]; omega
  · have hk2' : ¬ (0 : Int) < (k : Int) - 1 := by omega
    have hIR : Hid (IRows wr (some ⟨w.heap.size, 0, none⟩) n (fD L)) := fun i hi => by
      obtain ⟨a, c, e, hin⟩ := hR.out.2 i (by rw [hLl.out]; exact hi)
      obtain ⟨g, eg, gk⟩ := ownsRow_cell hO.out i hi
      cases eg
      rw [e] at gk
      exact ⟨w.heap.size, 0, a, c, rfl, by rw [Nat.zero_add]; exact gk, hin.ext hX.out⟩
    go_wp2
    go_ret
    exact ⟨some ⟨w.heap.size, 0, none⟩, n, L, rfl, hP.out, hIR.out, hX.out⟩
end Go.Proofs.YbyaawGreat
