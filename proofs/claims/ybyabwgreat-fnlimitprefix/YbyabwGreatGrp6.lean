/- Walk: spec.groupKeys -/
import Derived.Test.YbyabwGreatGrp5
import Derived.Test.YbyabwGreatRefDecTab
namespace Go.Proofs.YbyabwGreat
open Go.RowKit
set_option maxRecDepth 100000
set_option linter.unusedVariables false
set_option linter.unusedSimpArgs false

def fD (D : List (List Int)) : Nat → List Int := fun i => D.getD i []
/-- (keys, gid): what groupKeys answers. -/
def RetGK (D : List (List Int)) (ids : List Int) (w : World) : Ending → World → Prop := fun en w' => ∃ ka kc ga gc, en = .returned (.tuple #[.slice ka D.length kc, .slice ga ids.length gc]) ∧ IRows w' ka D.length (fD D) ∧ OwnI w' w.heap.size 3 (.slice ga ids.length gc) ids ∧ Ext w w'
theorem RowsI.keep {w1 w2 : World} {base b n : Nat} {ss : List Value} {f : Nat → List Int} {k : Nat} {v : Value} {vs : List Value} (h : RowsI w1 base ss f k) (hv : w1.ownsRow b 23 1 v n vs) (hg : w1.grownBy w2 v.ownBlock) : RowsI w2 base ss f k := fun i hi => by
  obtain ⟨a1, c1, e, ho1⟩ := h i hi
  exact ⟨a1, c1, e, ho1.but hg (apart_types ho1 hv (by decide))⟩
theorem ins_lt {α : Type} (l : List α) (p i : Nat) (x d : α) (hp : p ≤ l.length) (h : i < p) : (l.take p ++ x :: l.drop p).getD i d = l.getD i d := by
  rw [List.getD_eq_getElem?_getD, List.getElem?_append_left (by simp; omega), List.getElem?_take_of_lt h, ← List.getD_eq_getElem?_getD]
theorem ins_eq {α : Type} (l : List α) (p : Nat) (x d : α) (hp : p ≤ l.length) : (l.take p ++ x :: l.drop p).getD p d = x := by
  rw [List.getD_eq_getElem?_getD, List.getElem?_append_right (by simp; omega), List.length_take, Nat.min_eq_left hp]
  simp
theorem ins_gt {α : Type} (l : List α) (p i : Nat) (x d : α) (hp : p ≤ l.length) (h : p < i) : (l.take p ++ x :: l.drop p).getD i d = l.getD (i - 1) d := by
  rw [List.getD_eq_getElem?_getD, List.getElem?_append_right (by simp; omega), List.length_take, Nat.min_eq_left hp]
  obtain ⟨q, rfl⟩ : ∃ q, i = p + (q + 1) := ⟨i - p - 1, by omega⟩
  rw [Nat.add_sub_cancel_left, List.getElem?_cons_succ, List.getElem?_drop, ← List.getD_eq_getElem?_getD]
  rfl
theorem ins_len {α : Type} (l : List α) (p : Nat) (x : α) (hp : p ≤ l.length) : (l.take p ++ x :: l.drop p).length = l.length + 1 := by simp; omega
theorem ins_set {α : Type} (l : List α) (p : Nat) (x y : α) (hp : p ≤ l.length) : (l.take p ++ x :: l.drop p).set p y = l.take p ++ y :: l.drop p := by
  rw [List.set_append_right _ _ (by simp; omega), List.length_take, Nat.min_eq_left hp, Nat.sub_self, List.set_cons_zero]
theorem ins_shift {α : Type} (l : List α) (q : Nat) (x d : α) (hq : q < l.length) : (l.take (q + 1) ++ x :: l.drop (q + 1)).set (q + 1) (l.getD q d) = l.take q ++ l.getD q d :: l.drop q := by
  rw [ins_set _ _ _ _ (by omega)]
  have e : l.getD q d = l[q] := by rw [List.getD_eq_getElem?_getD, List.getElem?_eq_getElem hq]; rfl
  rw [List.take_succ_eq_append_getElem hq, List.drop_eq_getElem_cons hq, e, List.append_assoc]
  rfl
theorem RowsI.ins {w : World} {base : Nat} {ss : List Value} {L : List (List Int)} {n p : Nat} (h : RowsI w base ss (fD L) n) (hs : ss.length = n) (hL : L.length = n) (hp : p ≤ n) {a : Option Addr} {c : Nat} {kk : List Int} (ho : OwnI w base 2 (.slice a kk.length c) kk) :
    RowsI w base (ss.take p ++ .slice a kk.length c :: ss.drop p) (fD (L.take p ++ kk :: L.drop p)) (n + 1) := fun i hi => by
  unfold fD
  rcases Nat.lt_trichotomy i p with h1 | h1 | h1
  · rw [ins_lt _ _ _ _ _ (by omega) h1, ins_lt _ _ _ _ _ (by omega) h1]
    exact h i (by omega)
  · subst h1
    rw [ins_eq _ _ _ _ (by omega), ins_eq _ _ _ _ (by omega)]
    exact ⟨a, c, rfl, ho⟩
  · rw [ins_gt _ _ _ _ _ (by omega) h1, ins_gt _ _ _ _ _ (by omega) h1]
    exact h (i - 1) (by omega)
theorem grK_succ (K : Nat → List Int) (m : Nat) : grK K (m + 1) = insK (grK K m) (K m) := rfl
theorem keyJ_keyR (gr : List Int) (rows : Nat → List Int) (sel : List Int) (j s : Nat) (h : sel.getD j 0 = (s : Int)) : keyJ gr rows sel j = keyR gr (rows s) := by unfold keyJ keyR; rw [h, Int.toNat_natCast]

set_option maxHeartbeats 8000000 in
theorem groupKeys (gr sel : List Int) (rows : Nat → List Int) (ra sa ga : Option Addr) (rc sc gc N k : Nat) (w : World) (hr : Hid (IRows w ra N rows)) (hrl : Hid (∀ i, i < N → (rows i).length = k)) (hs : Hid (IntsAt w sa sel)) (hsi : Hid (∀ j, j < sel.length → 0 ≤ sel.getD j 0 ∧ sel.getD j 0 < N)) (hg : Hid (IntsAt w ga gr)) (hgi : Hid (∀ i, i < gr.length → 0 ≤ gr.getD i 0 ∧ gr.getD i 0 < k)) (hN : N ≤ 65536) (hk : k ≤ 65536) (hm : sel.length ≤ 65536) (hgl : gr.length ≤ 65600) (hpos : 0 < gr.length) :
    Calls Yabn.prog 64 #[.slice ra N rc, .slice sa sel.length sc, .slice ga gr.length gc] w (RetGK (gKeys gr rows sel) (gIds gr rows sel) w) := by
  have hwb : ((gr.length : Int) == 0) = false := beq_eq_false_iff_ne.2 (by omega)
  obtain ⟨K, hK⟩ : ∃ K, Hid (keyJ gr rows sel = K) := ⟨_, rfl⟩
  have hKl : Hid (∀ j, (K j).length = gr.length) := by rw [← hK.out]; exact keyJ_len gr rows sel
  obtain ⟨D, hD⟩ : ∃ D, Hid (grK K = D) := ⟨_, rfl⟩
  have hDs : Hid (∀ j, D (j + 1) = insK (D j) (K j)) := by rw [← hD.out]; exact grK_succ K
  have hDu : Hid (∀ j, UpK gr.length (D j)) := fun j => by rw [← hD.out]; exact (grK_law hKl.out j).1
  have hDn : Hid (∀ j, (D j).length ≤ j) := fun j => by rw [← hD.out]; exact (grK_law hKl.out j).2.2
  obtain ⟨m, hml⟩ : ∃ m, Hid (sel.length = m) := ⟨_, rfl⟩
  rw [hml.out] at hm hsi
  rw [hml.out]
  go_enter Yabn.func64, Yabn.ntmps64
  go_wp2_with fail
  go_loopw [10, 11] (fun v i wr => ∃ (j n : Nat) (L : List (List Int)) (ss : List Value), i = .int .i64 j ∧ j ≤ m ∧ Hid (D j = L) ∧ Hid (L.length = n) ∧ Hid (ss.length = n) ∧ Hid (wr.ownsRow w.heap.size 23 1 v n ss) ∧ Hid (RowsI wr w.heap.size ss (fD L) n) ∧ Hid (Ext w wr)) (fun _ i _ => m - (intOf i).toNat)
  case atStart => exact ⟨0, 0, [], [], rfl, Nat.zero_le _, by rw [← hD.out]; rfl, rfl, rfl, World.ownsRow_nil _ _ _ _, fun i hi => by omega, Ext.refl w⟩
  obtain ⟨j, n, L, ss, rfl, hj, hDL, hLn, hsl, hown, hrows, hX⟩ := hrel
  obtain ⟨ya, yc, rfl⟩ := ownsRow_form hown.out
  by_cases hlt : j < m
  · have hlt' : (j : Int) < m := by omega
    have hDs := hide (hDs.out j)
    rw [hDL.out] at hDs
    have hnj : n ≤ 65536 := by have := hDn.out j; rw [hDL.out, hLn.out] at this; omega
    have hLl : Hid (∀ i, i < n → (L.getD i []).length = gr.length) := fun i hi =>
      (hDu.out j).len (L.getD i []) (by rw [hDL.out]; exact getD_memL (by rw [hLn.out]; exact hi))
    obtain ⟨b1, off1, rfl, c1⟩ := (hs.out.ext hX.out) j (by rw [hml.out]; exact hlt)
    obtain ⟨i0, i1⟩ := hsi.out j hlt
    have hkj : Hid (∀ s : Nat, sel.getD j 0 = (s : Int) → K j = keyR gr (rows s)) := fun s h => by rw [← hK.out]; exact keyJ_keyR gr rows sel j s h
    generalize sel.getD j 0 = sj at *
    obtain ⟨s, rfl⟩ : ∃ s : Nat, sj = (s : Int) := ⟨sj.toNat, by omega⟩
    have hks := hide (hkj.out s rfl)
    clear hkj
    have hsN : s < N := by omega
    obtain ⟨b2, off2, r1, rc1, rfl, c2, hri⟩ := (hr.out.ext hX.out) s hsN
    rw [hrl.out s hsN] at c2
    replace hri := hide hri
    obtain ⟨kk, hkv⟩ : ∃ kk, Hid (K j = kk) := ⟨_, rfl⟩
    rw [hkv.out] at hDs
    have hkl : Hid (kk.length = gr.length) := by show _ = _; rw [← hkv.out, hKl.out]
    have hkr : Hid (keyR gr (rows s) = kk) := by show _ = _; rw [← hks.out, hkv.out]
    go_wp2_with (go_at_call 91; refine (keyOf gr (rows s) r1 ga rc1 gc k (hrl.out s hsN) _ hri (hg.out.ext hX.out) hgi (by omega) (by omega)).mono ?_; rintro e w1 ⟨ka, kc, rfl, ok, x1⟩; dsimp only)
    rw [hkr.out] at ok ⊢
    have hX1 : Hid (Ext w w1) := hX.out.trans x1
    have hkk : Hid (OwnI w1 w.heap.size 2 (.slice ka kk.length kc) kk) := OwnI.mono ok hX.out.size
    replace hown := hide (ownsRow_ext hown.out x1)
    replace hrows := hide (hrows.out.ext x1)
    clear ok x1 c1 c2 hX hri
    go_wp2_with fail
    obtain ⟨W1, hW1⟩ : ∃ W1, W1 = w1 := ⟨_, rfl⟩
    rw [← hW1] at hX1 hkk hown hrows
    rw [← hW1]
    clear hW1
    go_loopw [13, 14] (fun i fd wr => ∃ p : Nat, i = .int .i64 p ∧ fd = .bool false ∧ p ≤ n ∧ Hid (∀ i, i < p → cmpL (L.getD i []) kk < 0) ∧ Hid (Ext W1 wr)) (fun i _ _ => n - (intOf i).toNat)
    case atStart => exact ⟨0, rfl, rfl, Nat.zero_le _, fun i hi => by omega, Ext.refl W1⟩
    obtain ⟨p, rfl, rfl, hp, hbel, hX2⟩ := hrel
    by_cases hpn : p < n
    · have hpn' : (p : Int) < n := by omega
      obtain ⟨a1, c1, e1, o1⟩ := (hrows.out.ext hX2.out) p hpn
      obtain ⟨g', eg, gk⟩ := ownsRow_cell (ownsRow_ext hown.out hX2.out) p hpn
      subst eg
      rw [e1] at gk
      have hxi := hide o1.ints
      have hfl : Hid ((fD L p).length = gr.length) := hLl.out p hpn
      rw [hfl.out] at gk
      have hki := hide (OwnI.ints (OwnI.ext hkk.out hX2.out))
      obtain ⟨cv, hcv⟩ : ∃ cv, Hid (cmpL (fD L p) kk = cv) := ⟨_, rfl⟩
      clear o1 e1
      rcases Int.lt_trichotomy cv 0 with h0 | h0 | h0
      · have hb1 : (cv == 0) = false := beq_eq_false_iff_ne.2 (by omega)
        have hb2 : ¬ (0 < cv) := by omega
        go_wp2_with (go_at_call 92; refine (cmpKeys (fD L p) kk a1 ka c1 kc gr.length kk.length hfl hkl hkl.out _ hxi hki (by omega)).mono ?_; rintro e w2 ⟨rfl, x2⟩; rw [hcv.out]; dsimp only)
        go_roundw
        case rel => exact ⟨p + 1, by go_num, rfl, by omega, fun i hi => by
          rcases Nat.lt_or_ge i p with h | h
          · exact hbel.out i h
          · obtain rfl : i = p := by omega
            exact lt_of_eq_of_lt hcv.out h0, hX2.out.trans x2⟩
        case measure => simp [intOf]; omega
      · have hb1 : (cv == 0) = true := by simp [h0]
        have hpo := hide (posK_eq L kk p (by rw [hLn.out]; exact hp) hbel.out (fun _ => by have := hcv.out; unfold fD at this; omega))
        have hfo := hide (insK_found L kk (by rw [hpo.out, hLn.out]; exact hpn) (by rw [hpo.out]; exact hcv.out.trans h0))
        replace h0 := hide h0
        go_wp2_with (go_at_call 92; refine (cmpKeys (fD L p) kk a1 ka c1 kc gr.length kk.length hfl hkl hkl.out _ hxi hki (by omega)).mono ?_; rintro e w2 ⟨rfl, x2⟩; rw [hcv.out]; dsimp only)
        go_roundw
        case rel => exact ⟨j + 1, n, L, ss, by go_num, by omega, by show _ = _; rw [hDs.out, hfo.out], hLn, hsl, ownsRow_ext hown.out (hX2.out.trans x2), hrows.out.ext (hX2.out.trans x2), hX1.out.trans (hX2.out.trans x2)⟩
        case measure => simp [intOf]; omega
      · have hb1 : (cv == 0) = false := beq_eq_false_iff_ne.2 (by omega)
        have hb2 : 0 < cv := h0
        have hpo := hide (posK_eq L kk p (by rw [hLn.out]; exact hp) hbel.out (fun _ => by have := hcv.out; unfold fD at this; omega))
        have hne : Hid (p < L.length → cmpL (L.getD p []) kk ≠ 0) := fun _ => by have := hcv.out; unfold fD at this; omega
        have hnew := hide (insK_new L kk (by rw [hpo.out]; exact hne.out))
        rw [hpo.out] at hnew
        go_wp2_with (first | (go_at_call 92; refine (cmpKeys (fD L p) kk a1 ka c1 kc gr.length kk.length hfl hkl hkl.out _ hxi hki (by omega)).mono ?_; rintro e w2 ⟨rfl, x2⟩; rw [hcv.out]; replace hX2 : Hid (Ext W1 w2) := hX2.out.trans x2; clear x2 hxi hki gk; have ho1 := hide (World.ownsRow.alloc (ownsRow_ext hown.out hX2.out) (.cells #[nilV] 23)); have hXn : Hid (Ext w (w2.alloc (.cells #[nilV] 23))) := (hX1.out.trans hX2.out).alloc _; have hR1 : Hid (RowsI (w2.alloc (.cells #[nilV] 23)) w.heap.size ss (fD L) n) := (hrows.out.ext hX2.out).ext ((Ext.refl w2).alloc _); have hk1 := hide (OwnI.alloc (OwnI.ext hkk.out hX2.out) (.cells #[nilV] 23)); have hblk := hide (heap_alloc_new w2 (.cells #[nilV] 23)); dsimp only) | (at_builtin; refine app_rows rfl rfl w.heap.size hXn.out.size _ n ss nilV rfl ho1.out w2.heap.size 1 (by rfl) hblk.out rfl (by omega) ?_; intro g cap w4 hown2 hgr hlt2; have hO2 := hide hown2; have hX3 : Hid (Ext w w4) := hXn.out.grown hgr (fun q hq => (World.ownsRow.lt ho1.out q hq).1); have hR2 := hide (hR1.out.keep ho1.out hgr); have hk2 := hide (OwnI.but hk1.out hgr (apart_types hk1.out ho1.out (by decide))); clear hown2 hgr hlt2 ho1 hXn hR1 hk1 hblk))
        clear hb1 hb2 h0 hcv
        go_loopw [16] (fun i wr => ∃ (q : Nat) (x : Value), i = .int .i64 q ∧ p ≤ q ∧ q ≤ n ∧ Hid (wr.ownsRow w.heap.size 23 1 (.slice (some ⟨g, 0, none⟩) (n + 1) cap) (n + 1) (ss.take q ++ x :: ss.drop q)) ∧ Hid (RowsI wr w.heap.size ss (fD L) n) ∧ Hid (OwnI wr w.heap.size 2 (.slice ka kk.length kc) kk) ∧ Hid (Ext w wr)) (fun i _ => (intOf i).toNat)
        case atStart => exact ⟨n, nilV, by go_num, by omega, Nat.le_refl _, by rw [List.take_of_length_le (by rw [hsl.out]; exact Nat.le_refl _), List.drop_of_length_le (by rw [hsl.out]; exact Nat.le_refl _)]; exact hO2.out, hR2, hk2, hX3⟩
        clear hO2 hR2 hk2 hX3
        obtain ⟨q, x, rfl, hpq, hqn, hO2, hR2, hk2, hX3⟩ := hrel
        by_cases hqp : p < q
        · obtain ⟨r, rfl⟩ : ∃ r, q = r + 1 := ⟨q - 1, by omega⟩
          have hqp' : (p : Int) < (r : Int) + 1 := by omega
          obtain ⟨a1, c1, e1, o1⟩ := hR2.out r (by omega)
          obtain ⟨g', eg, gk⟩ := ownsRow_cell hO2.out (r + 1) (by omega)
          cases eg
          obtain ⟨g', eg, gr1⟩ := ownsRow_cell hO2.out r (by omega)
          cases eg
          rw [ins_lt _ _ _ _ _ (by rw [hsl.out]; omega) (by omega), e1] at gr1
          have fk := World.ownsRow.frozenAt hO2.out (r + 1)
          have hsh := hide (ins_shift ss r x nilV (by rw [hsl.out]; omega))
          rw [e1] at hsh
          generalize (fD L r).length = z at *
          have hr1 : (r : Int) < (n : Int) + 1 := by omega
          have hr2 : (r : Int) + 1 < (n : Int) + 1 := by omega
          clear e1 o1
          go_wp2_with (refine wpList_st1 (g := g) (i := r + 1) (v := .slice a1 z c1) rfl rfl (by rfl) (by rfl) rfl gk fk size_row1 ?_)
          have hO3 := hide (World.ownsRow.stored hO2.out (r + 1) (.slice a1 z c1)).1
          have hg3 := hide (grown_setCell wr ⟨g, r + 1, none⟩ (.slice a1 z c1))
          have hX4 : Hid (Ext w (wr.setCell ⟨g, r + 1, none⟩ (.slice a1 z c1))) := hX3.out.grown hg3.out (fun q hq => (World.ownsRow.lt hO2.out q hq).1)
          have hR3 := hide (hR2.out.keep hO2.out hg3.out)
          have hk3 := hide (OwnI.but hk2.out hg3.out (apart_types hk2.out hO2.out (by decide)))
          generalize (wr.setCell ⟨g, r + 1, none⟩ (.slice a1 z c1)) = w3 at *
          clear gk fk gr1
          go_wp2_with fail
          go_roundw
          case rel => exact ⟨r, _, by go_num, by omega, by omega, by rw [← hsh.out]; exact hO3.out, hR3.out, hk3.out, hX4.out⟩
          case measure => simp [intOf]
        · obtain rfl : q = p := by omega
          have hqp' : ¬ (q : Int) < (q : Int) := by omega
          obtain ⟨g', eg, gk⟩ := ownsRow_cell hO2.out q (by omega)
          cases eg
          have fk := World.ownsRow.frozenAt hO2.out q
          have hst := hide (ins_set ss q x (.slice ka kk.length kc) (by rw [hsl.out]; omega))
          have hr2 : (q : Int) < (n : Int) + 1 := by omega
          go_wp2_with (refine wpList_st1 (g := g) (i := q) (v := .slice ka kk.length kc) rfl rfl (by rfl) (by rfl) rfl gk fk size_row1 ?_)
          have hO3 := hide (World.ownsRow.stored hO2.out q (.slice ka kk.length kc)).1
          rw [hst.out] at hO3
          have hg3 := hide (grown_setCell wr ⟨g, q, none⟩ (.slice ka kk.length kc))
          have hX4 : Hid (Ext w (wr.setCell ⟨g, q, none⟩ (.slice ka kk.length kc))) := hX3.out.grown hg3.out (fun q hq => (World.ownsRow.lt hO2.out q hq).1)
          have hR3 := hide (hR2.out.keep hO2.out hg3.out)
          have hk3 := hide (OwnI.but hk2.out hg3.out (apart_types hk2.out hO2.out (by decide)))
          have hR4 := hide (RowsI.ins hR3.out hsl.out hLn.out (show q ≤ n by omega) hk3.out)
          generalize (wr.setCell ⟨g, q, none⟩ (.slice ka kk.length kc)) = w3 at *
          clear gk fk
          go_wp2_with fail
          go_roundw
          case rel => exact ⟨j + 1, n + 1, _, _, by go_num, by omega, by show _ = _; rw [hDs.out, hnew.out], by show _ = _; rw [ins_len _ _ _ (by rw [hLn.out]; omega), hLn.out], by show _ = _; rw [ins_len _ _ _ (by rw [hsl.out]; omega), hsl.out], hO3.out, hR4.out, hX4.out⟩
          case measure => simp [intOf]; omega
    · have hpe : Hid (p = n) := by show _ = _; omega
      have hpn' : ¬ (p : Int) < n := by omega
      have hpo := hide (posK_eq L kk p (by rw [hLn.out]; exact hp) hbel.out (fun h => by rw [hLn.out] at h; omega))
      have hne : Hid (p < L.length → cmpL (L.getD p []) kk ≠ 0) := fun h => by rw [hLn.out] at h; omega
      have hnew := hide (insK_new L kk (by rw [hpo.out]; exact hne.out))
      rw [hpo.out] at hnew
      have ho1 := hide (World.ownsRow.alloc (ownsRow_ext hown.out hX2.out) (.cells #[nilV] 23))
      have hXn : Hid (Ext w (wr.alloc (.cells #[nilV] 23))) := (hX1.out.trans hX2.out).alloc _
      have hR1 : Hid (RowsI (wr.alloc (.cells #[nilV] 23)) w.heap.size ss (fD L) n) := (hrows.out.ext hX2.out).ext ((Ext.refl wr).alloc _)
      have hk1 := hide (OwnI.alloc (OwnI.ext hkk.out hX2.out) (.cells #[nilV] 23))
      have hblk := hide (heap_alloc_new wr (.cells #[nilV] 23))
      go_wp2_with (at_builtin; refine app_rows rfl rfl w.heap.size hXn.out.size _ n ss nilV rfl ho1.out wr.heap.size 1 (by rfl) hblk.out rfl (by omega) ?_; intro g cap w4 hown2 hgr hlt2; have hO2 := hide hown2; have hX3 : Hid (Ext w w4) := hXn.out.grown hgr (fun q hq => (World.ownsRow.lt ho1.out q hq).1); have hR2 := hide (hR1.out.keep ho1.out hgr); have hk2 := hide (OwnI.but hk1.out hgr (apart_types hk1.out ho1.out (by decide))); clear hown2 hgr hlt2 ho1 hXn hR1 hk1 hblk)
      go_loopw [16] (fun i wr => ∃ (q : Nat) (x : Value), i = .int .i64 q ∧ p ≤ q ∧ q ≤ n ∧ Hid (wr.ownsRow w.heap.size 23 1 (.slice (some ⟨g, 0, none⟩) (n + 1) cap) (n + 1) (ss.take q ++ x :: ss.drop q)) ∧ Hid (RowsI wr w.heap.size ss (fD L) n) ∧ Hid (OwnI wr w.heap.size 2 (.slice ka kk.length kc) kk) ∧ Hid (Ext w wr)) (fun i _ => (intOf i).toNat)
      case atStart => exact ⟨n, nilV, by go_num, by omega, Nat.le_refl _, by rw [List.take_of_length_le (by rw [hsl.out]; exact Nat.le_refl _), List.drop_of_length_le (by rw [hsl.out]; exact Nat.le_refl _)]; exact hO2.out, hR2, hk2, hX3⟩
      clear hO2 hR2 hk2 hX3
      obtain ⟨q, x, rfl, hpq, hqn, hO2, hR2, hk2, hX3⟩ := hrel
      by_cases hqp : p < q
      · obtain ⟨r, rfl⟩ : ∃ r, q = r + 1 := ⟨q - 1, by omega⟩
        have hqp' : (p : Int) < (r : Int) + 1 := by omega
        obtain ⟨a1, c1, e1, o1⟩ := hR2.out r (by omega)
        obtain ⟨g', eg, gk⟩ := ownsRow_cell hO2.out (r + 1) (by omega)
        cases eg
        obtain ⟨g', eg, gr1⟩ := ownsRow_cell hO2.out r (by omega)
        cases eg
        rw [ins_lt _ _ _ _ _ (by rw [hsl.out]; omega) (by omega), e1] at gr1
        have fk := World.ownsRow.frozenAt hO2.out (r + 1)
        have hsh := hide (ins_shift ss r x nilV (by rw [hsl.out]; omega))
        rw [e1] at hsh
        generalize (fD L r).length = z at *
        have hr1 : (r : Int) < (n : Int) + 1 := by omega
        have hr2 : (r : Int) + 1 < (n : Int) + 1 := by omega
        clear e1 o1
        go_wp2_with (refine wpList_st1 (g := g) (i := r + 1) (v := .slice a1 z c1) rfl rfl (by rfl) (by rfl) rfl gk fk size_row1 ?_)
        have hO3 := hide (World.ownsRow.stored hO2.out (r + 1) (.slice a1 z c1)).1
        have hg3 := hide (grown_setCell wr ⟨g, r + 1, none⟩ (.slice a1 z c1))
        have hX4 : Hid (Ext w (wr.setCell ⟨g, r + 1, none⟩ (.slice a1 z c1))) := hX3.out.grown hg3.out (fun q hq => (World.ownsRow.lt hO2.out q hq).1)
        have hR3 := hide (hR2.out.keep hO2.out hg3.out)
        have hk3 := hide (OwnI.but hk2.out hg3.out (apart_types hk2.out hO2.out (by decide)))
        generalize (wr.setCell ⟨g, r + 1, none⟩ (.slice a1 z c1)) = w3 at *
        clear gk fk gr1
        go_wp2_with fail
        go_roundw
        case rel => exact ⟨r, _, by go_num, by omega, by omega, by rw [← hsh.out]; exact hO3.out, hR3.out, hk3.out, hX4.out⟩
        case measure => simp [intOf]
      · obtain rfl : q = p := by omega
        have hqp' : ¬ (q : Int) < (q : Int) := by omega
        obtain ⟨g', eg, gk⟩ := ownsRow_cell hO2.out q (by omega)
        cases eg
        have fk := World.ownsRow.frozenAt hO2.out q
        have hst := hide (ins_set ss q x (.slice ka kk.length kc) (by rw [hsl.out]; omega))
        have hr2 : (q : Int) < (n : Int) + 1 := by omega
        go_wp2_with (refine wpList_st1 (g := g) (i := q) (v := .slice ka kk.length kc) rfl rfl (by rfl) (by rfl) rfl gk fk size_row1 ?_)
        have hO3 := hide (World.ownsRow.stored hO2.out q (.slice ka kk.length kc)).1
        rw [hst.out] at hO3
        have hg3 := hide (grown_setCell wr ⟨g, q, none⟩ (.slice ka kk.length kc))
        have hX4 : Hid (Ext w (wr.setCell ⟨g, q, none⟩ (.slice ka kk.length kc))) := hX3.out.grown hg3.out (fun q hq => (World.ownsRow.lt hO2.out q hq).1)
        have hR3 := hide (hR2.out.keep hO2.out hg3.out)
        have hk3 := hide (OwnI.but hk2.out hg3.out (apart_types hk2.out hO2.out (by decide)))
        have hR4 := hide (RowsI.ins hR3.out hsl.out hLn.out (show q ≤ n by omega) hk3.out)
        generalize (wr.setCell ⟨g, q, none⟩ (.slice ka kk.length kc)) = w3 at *
        clear gk fk
        go_wp2_with fail
        go_roundw
        case rel => exact ⟨j + 1, n + 1, _, _, by go_num, by omega, by show _ = _; rw [hDs.out, hnew.out], by show _ = _; rw [ins_len _ _ _ (by rw [hLn.out]; omega), hLn.out], by show _ = _; rw [ins_len _ _ _ (by rw [hsl.out]; omega), hsl.out], hO3.out, hR4.out, hX4.out⟩
        case measure => simp [intOf]; omega
  · obtain rfl : j = m := by omega
    have hlt' : ¬ (j : Int) < j := by omega
    have hnj : n ≤ 65536 := by have := hDn.out j; rw [hDL.out, hLn.out] at this; omega
    have hLl : Hid (∀ i, i < n → (fD L i).length = gr.length) := fun i hi =>
      (hDu.out j).len (L.getD i []) (by rw [hDL.out]; exact getD_memL (by rw [hLn.out]; exact hi))
    have hLU : Hid (UpK gr.length L) := by rw [← hDL.out]; exact hDu.out j
    have hLm : Hid (∀ i, i < j → K i ∈ L) := fun i hi => by
      rw [← hDL.out, ← hD.out]
      exact ((grK_law hKl.out j).2.1 _).2 ⟨i, hi, rfl⟩
    have hGK : Hid (gKeys gr rows sel = L) := by show _ = _; unfold gKeys; rw [hK.out, hml.out, hD.out, hDL.out]
    obtain ⟨I, hI⟩ : ∃ I, Hid (gIds gr rows sel = I) := ⟨_, rfl⟩
    have hIl : Hid (I.length = j) := by show _ = _; rw [← hI.out, gIds_len, hml.out]
    have hIa : Hid (∀ i, i < j → I.getD i 0 = ((gidK L (K i) : Nat) : Int)) := fun i hi => by rw [← hI.out, gIds_at _ _ _ _ (by rw [hml.out]; exact hi), hGK.out, hK.out]
    rw [hGK.out, hI.out]
    go_wp2_with fail
    obtain ⟨W1, hW1⟩ : ∃ W1, W1 = wr := ⟨_, rfl⟩
    rw [← hW1] at hown hrows hX
    rw [← hW1]
    clear hW1
    obtain ⟨m, hjm⟩ : ∃ m, Hid (j = m) := ⟨_, rfl⟩
    rw [hjm.out] at hIa hIl hLm hsi hml hj hlt' hm ⊢
    go_loopw [8, 17] (fun v i wr => ∃ t : Nat, i = .int .i64 t ∧ t ≤ m ∧ Hid (OwnI wr W1.heap.size 3 v (I.take t)) ∧ Hid (Ext W1 wr)) (fun _ i _ => m - (intOf i).toNat)
    case atStart => exact ⟨0, rfl, Nat.zero_le _, OwnI.nil _ _ _, Ext.refl W1⟩
    obtain ⟨t, rfl, ht, hO, hX1⟩ := hrel
    by_cases htm : t < m
    · have htm' : (t : Int) < m := by omega
      obtain ⟨b1, off1, rfl, c1⟩ := (hs.out.ext (hX.out.trans hX1.out)) t (by rw [hml.out]; exact htm)
      obtain ⟨i0, i1⟩ := hsi.out t htm
      have hkj : Hid (∀ s : Nat, sel.getD t 0 = (s : Int) → K t = keyR gr (rows s)) := fun s h => by rw [← hK.out]; exact keyJ_keyR gr rows sel t s h
      generalize sel.getD t 0 = sj at *
      obtain ⟨s, rfl⟩ : ∃ s : Nat, sj = (s : Int) := ⟨sj.toNat, by omega⟩
      have hks := hide (hkj.out s rfl)
      clear hkj
      have hsN : s < N := by omega
      obtain ⟨b2, off2, r1, rc1, rfl, c2, hri⟩ := (hr.out.ext (hX.out.trans hX1.out)) s hsN
      rw [hrl.out s hsN] at c2
      replace hri := hide hri
      obtain ⟨kk, hkv⟩ : ∃ kk, Hid (K t = kk) := ⟨_, rfl⟩
      have hkl : Hid (kk.length = gr.length) := by show _ = _; rw [← hkv.out, hKl.out]
      have hkr : Hid (keyR gr (rows s) = kk) := by show _ = _; rw [← hks.out, hkv.out]
      have hIt := hIa.out t htm
      have hmem := hLm.out t htm
      rw [hkv.out] at hIt hmem
      obtain ⟨gi, hgi1, hgi2⟩ := mem_getDL hmem
      rw [hLn.out] at hgi1
      rw [gidK_of hLU.out (by rw [hLn.out]; exact hgi1) hgi2] at hIt
      have hT : Hid (I.take (t + 1) = I.take t ++ [(gi : Int)]) := by show _ = _; rw [take_snocI I t (by rw [hIl.out]; exact htm), hIt]
      have hgz : Hid (cmpL (fD L gi) kk = 0) := by show cmpL (L.getD gi []) kk = 0; rw [hgi2, cmpL_self]
      have hgl2 : Hid (∀ i, i < gi → cmpL (fD L i) kk ≠ 0) := fun i hi => by
        have := hLU.out.up i gi hi (by rw [hLn.out]; exact hgi1)
        rw [hgi2] at this
        show cmpL (L.getD i []) kk ≠ 0
        omega
      replace hgi2 := hide hgi2
      clear hIt hmem
      go_wp2_with (go_at_call 91; refine (keyOf gr (rows s) r1 ga rc1 gc k (hrl.out s hsN) _ hri (hg.out.ext (hX.out.trans hX1.out)) hgi (by omega) (by omega)).mono ?_; rintro e w1 ⟨ka, kc, rfl, ok, x1⟩; dsimp only)
      rw [hkr.out] at ok ⊢
      have hX2 : Hid (Ext W1 w1) := hX1.out.trans x1
      have hkk := hide ok.ints
      replace hO := hide (OwnI.ext hO.out x1)
      clear ok x1 c1 c2 hX1 hri
      go_wp2_with fail
      obtain ⟨W2, hW2⟩ : ∃ W2, W2 = w1 := ⟨_, rfl⟩
      rw [← hW2] at hX2 hkk hO
      rw [← hW2]
      clear hW2
      go_loopw [19] (fun i wr => ∃ q : Nat, i = .int .i64 q ∧ q ≤ gi ∧ Hid (Ext W2 wr)) (fun i _ => n - (intOf i).toNat)
      case atStart => exact ⟨0, rfl, Nat.zero_le _, Ext.refl W2⟩
      obtain ⟨q, rfl, hq, hX3⟩ := hrel
      have hqn : q < n := by omega
      have hqn' : (q : Int) < n := by omega
      obtain ⟨a1, c1, e1, o1⟩ := (hrows.out.ext (hX2.out.trans hX3.out)) q hqn
      obtain ⟨g', eg, gk⟩ := ownsRow_cell (ownsRow_ext hown.out (hX2.out.trans hX3.out)) q hqn
      subst eg
      rw [e1] at gk
      have hxi := hide o1.ints
      have hfl := hide (hLl.out q hqn)
      rw [hfl.out] at gk
      have hki := hide (hkk.out.ext hX3.out)
      obtain ⟨cv, hcv⟩ : ∃ cv, Hid (cmpL (fD L q) kk = cv) := ⟨_, rfl⟩
      clear o1 e1
      by_cases hqg : q < gi
      · have hb1 : (cv != 0) = true := by have := hgl2.out q hqg; rw [hcv.out] at this; simpa using this
        go_wp2_with (go_at_call 92; refine (cmpKeys (fD L q) kk a1 ka c1 kc gr.length kk.length hfl hkl hkl.out _ hxi hki (by omega)).mono ?_; rintro e w2 ⟨rfl, x2⟩; rw [hcv.out]; dsimp only)
        go_roundw
        case rel => exact ⟨q + 1, by go_num, by omega, hX3.out.trans x2⟩
        case measure => simp [intOf]; omega
      · obtain rfl : q = gi := by omega
        have hb0 : Hid (cv = 0) := by show _ = _; rw [← hcv.out]; exact hgz.out
        have hb1 : (cv != 0) = false := by rw [hb0.out]; rfl
        have hln : Hid ((I.take t).length < 2 ^ 39) := by show _ < _; rw [List.length_take]; omega
        generalize I.take t = J at *
        go_wp2_with (first | (go_at_call 92; refine (cmpKeys (fD L q) kk a1 ka c1 kc gr.length kk.length hfl hkl hkl.out _ hxi hki (by omega)).mono ?_; rintro e w2 ⟨rfl, x2⟩; rw [hcv.out]; have hX4 : Hid (Ext w (w2.alloc (.cells #[.int .i64 (q : Int)] 3))) := ((hX.out.trans hX2.out).trans (hX3.out.trans x2)).alloc _; have hG4 := hide (OwnI.alloc (OwnI.ext hO.out (hX3.out.trans x2)) (.cells #[.int .i64 (q : Int)] 3)); have hblk := hide (heap_alloc_new w2 (.cells #[.int .i64 (q : Int)] 3)); have hX5 : Hid (Ext W1 (w2.alloc (.cells #[.int .i64 (q : Int)] 3))) := (hX2.out.trans (hX3.out.trans x2)).alloc _; dsimp only) | (at_builtin; refine app_int rfl rfl W1.heap.size hX5.out.size _ J (q : Int) rfl hG4.out w2.heap.size 1 (by rfl) hblk.out hln.out ?_; intro g7 cap7 w7 O7 hgr7 hor7 hlt7))
        have hX7 : Hid (Ext W1 w7) := hX5.out.grown hgr7 (fun b hb => (World.ownsRow.lt hG4.out b hb).1)
        have hO7 := hide O7
        clear O7 hgr7 hor7 hlt7
        go_roundw
        case rel => exact ⟨t + 1, by go_num, by omega, by rw [hT.out]; exact hO7.out, hX7.out⟩
        case measure => simp [intOf]; omega
    · have htm' : ¬ (t : Int) < m := by omega
      have hfin : Hid (I.take t = I) := List.take_of_length_le (by rw [hIl.out]; omega)
      rw [hfin.out] at hO
      obtain ⟨pa, pc, rfl, _⟩ := hO.out.form
      have hAt := hide (RowsI.at (hrows.out.ext hX1.out) (ownsRow_ext hown.out hX1.out))
      have hLn' : Hid (n = L.length) := hLn.out.symm
      go_wp2_with fail
      go_ret2
      refine ⟨ya, yc, pa, pc, ?_, ?_, ?_, hX.out.trans hX1.out⟩
      · rw [hGK.out, hI.out, hLn.out]; rfl
      · rw [hGK.out, hLn.out]; exact hAt.out
      · rw [hI.out]; exact OwnI.mono hO.out hX.out.size
end Go.Proofs.YbyabwGreat
