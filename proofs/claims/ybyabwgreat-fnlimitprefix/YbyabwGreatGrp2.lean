/- Walk: impl.sortIdx -/
import Derived.Test.YbyabwGreatGrp1
import Derived.Test.YbyabwGreatEx4
import Derived.Test.YbyabwGreatStI
namespace Go.Proofs.YbyabwGreat
open Go.RowKit
set_option maxRecDepth 100000
set_option linter.unusedVariables false
set_option linter.unusedSimpArgs false

def idxL (m : Nat) : List Int := (List.range m).map (fun (i : Nat) => (i : Int))
theorem idxL_len (m : Nat) : (idxL m).length = m := by simp [idxL]
theorem idxL_at (m i : Nat) (h : i < m) : (idxL m).getD i 0 = (i : Int) := by simp [idxL, h]
theorem idxL_mem (m : Nat) (v : Int) : v ∈ idxL m ↔ ∃ j : Nat, j < m ∧ (j : Int) = v := by simp [idxL]
def RetOrd (K : Nat → List Int) (m : Nat) (w : World) : Ending → World → Prop := fun en w' => ∃ S a cap, en = .returned (.slice a m cap) ∧ OwnI w' w.heap.size 3 (.slice a m cap) S ∧ KS.SortedOf (RK K) (idxL m) S ∧ Ext w w'
/-- What the inner loop holds of the row that is being filled. -/
def FillK (R : Int → Int → Prop) (S D E : List Int) (lo mid hi i j k n : Nat) : Prop := KS.MInv R S E lo mid hi i j k ∧ E.length = n ∧ ∀ p, p < lo → E.getD p 0 = D.getD p 0
theorem FillK.left {R : Int → Int → Prop} (htr : ∀ a b c, R a b → R b c → R a c) {S D E : List Int} {lo mid hi i j k n : Nat} (h : FillK R S D E lo mid hi i j k n) (hk : k < n) (hi' : i < mid) (hS : KS.SegUp R S lo mid) (hc : hi ≤ j ∨ R (S.getD i 0) (S.getD j 0)) : FillK R S D (E.set k (S.getD i 0)) lo mid hi (i + 1) j (k + 1) n :=
  ⟨h.1.left htr (by rw [h.2.1]; exact hk) hi' hS hc, by rw [List.length_set]; exact h.2.1, fun p hp => by
    rw [getD_set E k _ (by rw [h.2.1]; exact hk), if_neg, h.2.2 p hp]
    have := h.1.kk; have := h.1.i0; have := h.1.j0
    omega⟩
theorem FillK.right {R : Int → Int → Prop} (htr : ∀ a b c, R a b → R b c → R a c) {S D E : List Int} {lo mid hi i j k n : Nat} (h : FillK R S D E lo mid hi i j k n) (hk : k < n) (hj : j < hi) (hS : KS.SegUp R S mid hi) (hc : mid ≤ i ∨ R (S.getD j 0) (S.getD i 0)) : FillK R S D (E.set k (S.getD j 0)) lo mid hi i (j + 1) (k + 1) n :=
  ⟨h.1.right htr (by rw [h.2.1]; exact hk) hj hS hc, by rw [List.length_set]; exact h.2.1, fun p hp => by
    rw [getD_set E k _ (by rw [h.2.1]; exact hk), if_neg, h.2.2 p hp]
    have := h.1.kk; have := h.1.i0; have := h.1.j0
    omega⟩
theorem sinv_at {K : Nat → List Int} {m wd : Nat} {S : List Int} (h : KS.SInv (RK K) (idxL m) S wd) {i : Nat} (hi : i < m) : ∃ a : Nat, a < m ∧ S.getD i 0 = (a : Int) := by
  have hl : S.length = m := by rw [h.len, idxL_len]
  have h1 := (h.mem (S.getD i 0)).1 ⟨i, Nat.zero_le _, by omega, rfl⟩
  obtain ⟨p, _, hp, e⟩ := h1
  rw [idxL_len] at hp
  rw [idxL_at m p hp] at e
  exact ⟨p, hp, e.symm⟩

set_option maxHeartbeats 16000000 in
theorem sortIdx (K : Nat → List Int) (wk m : Nat) (rk : List Int) (ra : Option Addr) (rc : Nat) (w : World) (hf : Hid (FlatK K wk m rk)) (hr : Hid (IntsAt w ra rk)) (hrl : rk.length ≤ 16777216) (hwk : wk ≤ 65600) (hm0 : m ≤ 65536) :
    Calls Yabn.prog 80 #[.int .i64 m, .slice ra rk.length rc, .int .i64 wk] w (RetOrd K m w) := by
  have htr : Hid (∀ a b c, RK K a b → RK K b c → RK K a c) := fun a b c => RK_trans hf.out.kl a b c
  go_enter Yabn.func80, Yabn.ntmps80
  go_wp2_with (at_make; refine mk_int rfl rfl m rfl rfl (by omega) w.heap.size rfl ?_; intro w1 hown1 hx1 hsz1; replace hown1 := hide hown1; replace hx1 := hide hx1)
  obtain ⟨xs, hxs⟩ : ∃ xs, Hid (idxL m = xs) := ⟨_, rfl⟩
  have hxl : xs.length = m := by rw [← hxs.out]; exact idxL_len m
  have hxa : Hid (∀ i, i < m → xs.getD i 0 = (i : Int)) := fun i hi => by rw [← hxs.out]; exact idxL_at m i hi
  go_loopw [8] (fun i wr => ∃ r : Nat, i = .int .i64 r ∧ r ≤ m ∧ Hid (OwnI wr w.heap.size 3 (.slice (some ⟨w.heap.size, 0, none⟩) m m) (mixR xs (List.replicate m 0) r)) ∧ Hid (Ext w wr)) (fun i _ => m - (intOf i).toNat)
  case atStart => exact ⟨0, rfl, Nat.zero_le _, by rw [mixR_zero]; exact hown1, hx1⟩
  clear hown1 hx1 hsz1
  obtain ⟨r, rfl, hrm, hO, hX⟩ := hrel
  have hml : (mixR xs (List.replicate m 0) r).length = m := by rw [mixR_len _ _ _ (by simp [hxl])]; simp
  by_cases hlt : r < m
  · have hlt' : (r : Int) < m := by omega
    have hset := hide (mixR_set xs (List.replicate m 0) r (by simp [hxl]) (by omega))
    rw [hxa.out r hlt] at hset
    replace hml := hide hml
    go_wp2_with (refine wpList_stI (g := w.heap.size) (i := r) rfl rfl (by rfl) (by rfl) hO.out hml.out.symm (by rw [hml.out]; exact hlt) size_int ?_; intro w3 hU3 hg3; have hO9 := hide (hU3.congr hset.out); have hX9 : Hid (Ext w w3) := hX.out.grown hg3 (fun q hq => by cases hq; exact Nat.le_refl _); clear hU3 hg3)
    go_roundw
    case rel => exact ⟨r + 1, by go_num, by omega, hO9.out, hX9.out⟩
    case measure => simp [intOf]; omega
  have hlt' : ¬ (r : Int) < m := by omega
  have hfin : Hid (mixR xs (List.replicate m 0) r = idxL m) := by
    obtain rfl : r = m := by omega
    have := mixR_all xs (List.replicate r 0) (by simp [hxl])
    rw [hxl] at this
    rw [hxs.out]
    exact this
  have hown2 := hide (hO.out.congr hfin.out)
  clear hml hlt hrm hO hfin hxa hxl hxs
  obtain ⟨w2, rfl⟩ : ∃ w2, w2 = wr := ⟨_, rfl⟩
  go_wp2_with (at_make; refine mk_int rfl rfl m rfl rfl (by omega) w2.heap.size rfl ?_; intro w3 hown3 hx3 hsz3; replace hown3 := hide hown3; replace hx3 := hide hx3)
  have hw2s : w.heap.size < w2.heap.size := (OwnI.lt hown2.out).2
  have hs3 := hide ((hown2.out).ext hx3.out)
  replace hown3 := hide (hown3.out.mono (base' := w.heap.size) (by omega))
  have hX3 : Hid (Ext w w3) := hX.out.trans hx3.out
  clear hown2 hX hx3
  go_loopw [7, 9, 10] (fun ps pd pw wr => ∃ (s d wd : Nat) (S D : List Int), ps = (.slice (some ⟨s, 0, none⟩) m m) ∧ pd = (.slice (some ⟨d, 0, none⟩) m m) ∧ pw = .int .i64 wd ∧ 0 < wd ∧ wd ≤ 131072 ∧ Hid (s ≠ d) ∧ Hid (KS.SInv (RK K) (idxL m) S wd) ∧ Hid (D.length = m) ∧ Hid (OwnI wr w.heap.size 3 (.slice (some ⟨s, 0, none⟩) m m) S) ∧ Hid (OwnI wr w.heap.size 3 (.slice (some ⟨d, 0, none⟩) m m) D) ∧ Hid (Ext w wr)) (fun _ _ pw _ => m - (intOf pw).toNat)
  case atStart => exact ⟨w.heap.size, w2.heap.size, 1, idxL m, _, rfl, rfl, by go_num, by omega, by omega, (by simp only [Hid, ne_eq]; omega), KS.SInv.start _, (by simp [Hid]), hs3, hown3, hX3⟩
  clear hown3 hs3 hX3
  obtain ⟨s, d, wd, S, D, rfl, rfl, rfl, hwd, hwd2, hne, hinv, hDl, hS, hD, hX⟩ := hrel
  obtain ⟨W, rfl⟩ : ∃ W, W = wr := ⟨_, rfl⟩
  have hSl : Hid (S.length = m) := hinv.out.len.trans (idxL_len m)
  by_cases hlt : wd < m
  · have hlt' : (wd : Int) < m := by omega
    have hdw : w.heap.size ≤ (⟨d, 0, none⟩ : Addr).block := (OwnI.lt hD.out).1
    have hap : Hid (Apart (.slice (some ⟨s, 0, none⟩) m m) (.slice (some ⟨d, 0, none⟩) m m)) := .inr (by simp [Value.ownBlock]; exact hne.out)
    go_wp2
    go_loopw [11] (fun pl wr => ∃ (lo b : Nat) (D : List Int), pl = .int .i64 lo ∧ Hid (lo = b * (2 * wd)) ∧ lo < m + 2 * wd ∧ Hid (KS.PInv (RK K) S D wd b) ∧ Hid (OwnI wr w.heap.size 3 (.slice (some ⟨s, 0, none⟩) m m) S) ∧ Hid (OwnI wr w.heap.size 3 (.slice (some ⟨d, 0, none⟩) m m) D) ∧ Hid (Ext w wr)) (fun pl _ => m - (intOf pl).toNat)
    case atStart => exact ⟨0, 0, D, rfl, (by simp [Hid]), by omega, KS.PInv.start S D wd (hDl.out.trans hSl.out.symm), hS, hD, hX⟩
    clear hD hS hX hDl
    obtain ⟨lo, b, D, rfl, hlo, hlb, hpi, hS, hD, hX⟩ := hrel
    by_cases hln : lo < m
    · have hln' : (lo : Int) < m := by omega
      by_cases hm : lo + wd ≤ m
      · have hm' : ¬ (m : Int) < (lo : Int) + wd := by omega
        by_cases hh : lo + 2 * wd ≤ m
        · have hh' : ¬ (m : Int) < (lo : Int) + 2 * wd := by omega
          go_wp2
          obtain ⟨mid, hmid⟩ : ∃ mid : Nat, mid = lo + wd := ⟨_, rfl⟩
          obtain ⟨hi, hhi⟩ : ∃ hi : Nat, hi = lo + 2 * wd := ⟨_, rfl⟩
          have hmN : Hid (mid = min (lo + wd) S.length) := by simp only [Hid]; rw [hSl.out]; omega
          have hhN : Hid (hi = min (lo + 2 * wd) S.length) := by simp only [Hid]; rw [hSl.out]; omega
          have q1 : lo ≤ mid := by omega
          have q2 : mid ≤ hi := by omega
          have q3 : hi ≤ m := by omega
          rw [show (lo : Int) + wd = (mid : Int) by omega, show (lo : Int) + 2 * wd = (hi : Int) by omega]
          clear hmid hhi hm hh hm' hh'
          have hseg := hide (hinv.out.segs (b := b) (lo := lo) (mid := mid) (hi := hi) hlo.out hmN.out hhN.out)
          go_loopw [14, 15, 16] (fun pi pj pk wr => ∃ (i j k : Nat) (E : List Int), pi = .int .i64 i ∧ pj = .int .i64 j ∧ pk = .int .i64 k ∧ Hid (FillK (RK K) S D E lo mid hi i j k m) ∧ Hid (OwnI wr w.heap.size 3 (.slice (some ⟨d, 0, none⟩) m m) E) ∧ Hid (OwnI wr w.heap.size 3 (.slice (some ⟨s, 0, none⟩) m m) S) ∧ Hid (Ext w wr)) (fun pi pj pk _ => mid + hi - (intOf pi).toNat - (intOf pj).toNat)
          case atStart => exact ⟨lo, mid, lo, D, rfl, by go_num, rfl, ⟨KS.MInv.start S D lo _ _ (by omega) (by omega), hpi.out.len.trans hSl.out, fun p hp => rfl⟩, hD, hS, hX⟩
          clear hD hS hX
          obtain ⟨i, j, k, E, rfl, rfl, rfl, hF, hD, hS, hX⟩ := hrel
          have hmi0 := hF.out.1.i0
          have hmi1 := hF.out.1.i1
          have hmj0 := hF.out.1.j0
          have hmj1 := hF.out.1.j1
          have hmk := hF.out.1.kk
          have hEl := hF.out.2.1
          by_cases hji : j < hi
          · have hjI : (j : Int) < (hi : Nat) := by omega
            have d1 : decide (((hi : Nat) : Int) ≤ (j : Int)) = false := by simp; omega
            have d2 : decide (hi ≤ j) = false := by simp; omega
            have hjn : (j : Int) < m := by omega
            have gj := OwnI.cellAt hS.out j (by rw [hSl.out]; omega)
            have hkn : (k : Int) < m := by omega
            have gk := OwnI.cellAt hD.out k (by omega)
            have fk := OwnI.frozenAt hD.out hEl.symm k
            obtain ⟨ja, hja, hzj⟩ := sinv_at hinv.out (i := j) (by omega)
            replace hzj := hide hzj
            generalize E.getD k 0 = zk at gk
            by_cases hii : i < mid
            · have hiI : (i : Int) < (mid : Nat) := by omega
              have d3 : decide ((i : Int) < ((mid : Nat) : Int)) = true := by simp; omega
              have d4 : decide (i < mid) = true := by simp; omega
              have hin : (i : Int) < m := by omega
              have gi := OwnI.cellAt hS.out i (by rw [hSl.out]; omega)
              obtain ⟨ia, hia, hzi⟩ := sinv_at hinv.out (i := i) (by omega)
              replace hzi := hide hzi
              obtain ⟨CV, hCV⟩ : ∃ v, Hid (cmpL (K ia) (K ja) = v) := ⟨_, rfl⟩
              have hRij : Hid (RK K (S.getD i 0) (S.getD j 0) ↔ CV ≤ 0) := by unfold RK; rw [hzi.out, hzj.out, Int.toNat_natCast, Int.toNat_natCast, hCV.out]; exact Iff.rfl
              have hRji : Hid (¬ CV ≤ 0 → RK K (S.getD j 0) (S.getD i 0)) := fun hh => by unfold RK; rw [hzi.out, hzj.out, Int.toNat_natCast, Int.toNat_natCast, cmpL_neg, hCV.out]; omega
              by_cases hle : CV ≤ 0
              · have hnew := hF.out.left htr.out (by omega) hii hseg.out.1 (.inr (hRij.out.2 hle))
                clear hRij hRji
                generalize S.getD i 0 = zi at *
                generalize S.getD j 0 = zj at *
                have hled : decide (CV ≤ 0) = true := by simpa using hle
                replace hnew := hide hnew
                have hst := hide (OwnI.stored hD.out hEl.symm k zi)
                have hSk := hide (hS.out.but (v' := (.slice (some ⟨d, 0, none⟩) m m)) (grown_setCell wr ⟨d, k, none⟩ (.int .i64 zi)) hap.out)
                have hXk := hide (hX.out.setCell (p := ⟨d, k, none⟩) hdw (.int .i64 zi))
                clear hEl
                as_aux_lemma =>
                  go_wp2
                  refine Dr.region_text (by kernel_rfl) ?_
                  go_wp2_with (go_at_call 81; refine (cmpKey K wk m rk ra rc ia ja zi zj hzi.out hzj.out _ hf (hr.out.ext hX.out.drew) hia hja hrl hwk).mono ?_; rintro e wx ⟨rfl, rfl⟩; rw [hCV.out]; dsimp only)
                  refine ⟨by rfl, ?_⟩
                  go_wp2
                  go_roundw
                  case rel => exact ⟨i + 1, j, k + 1, _, by go_num, by go_num, by go_num, hnew.out, hst.out.drew, hSk.out.drew, hXk.out.drew⟩
                  case measure => simp [intOf]; omega
              · have hnew := hF.out.right htr.out (by omega) hji hseg.out.2 (.inr (hRji.out hle))
                clear hRij hRji
                generalize S.getD i 0 = zi at *
                generalize S.getD j 0 = zj at *
                have hled : decide (CV ≤ 0) = false := by simpa using hle
                clear hle
                replace hnew := hide hnew
                have hst := hide (OwnI.stored hD.out hEl.symm k zj)
                have hSk := hide (hS.out.but (v' := (.slice (some ⟨d, 0, none⟩) m m)) (grown_setCell wr ⟨d, k, none⟩ (.int .i64 zj)) hap.out)
                have hXk := hide (hX.out.setCell (p := ⟨d, k, none⟩) hdw (.int .i64 zj))
                clear hEl
                as_aux_lemma =>
                  go_wp2
                  refine Dr.region_text (by kernel_rfl) ?_
                  go_wp2_with (go_at_call 81; refine (cmpKey K wk m rk ra rc ia ja zi zj hzi.out hzj.out _ hf (hr.out.ext hX.out.drew) hia hja hrl hwk).mono ?_; rintro e wx ⟨rfl, rfl⟩; rw [hCV.out]; dsimp only)
                  refine ⟨by rfl, ?_⟩
                  go_wp2
                  go_roundw
                  case rel => exact ⟨i, j + 1, k + 1, _, by go_num, by go_num, by go_num, hnew.out, hst.out.drew, hSk.out.drew, hXk.out.drew⟩
                  case measure => simp [intOf]; omega
            · have hiI : ¬ (i : Int) < (mid : Nat) := by omega
              have d3 : decide ((i : Int) < ((mid : Nat) : Int)) = false := by simp; omega
              have d4 : decide (i < mid) = false := by simp; omega
              have hnew := hF.out.right htr.out (by omega) hji hseg.out.2 (.inl (by omega))
              clear hzj
              generalize S.getD j 0 = zj at *
              replace hnew := hide hnew
              have hst := hide (OwnI.stored hD.out hEl.symm k zj)
              have hSk := hide (hS.out.but (v' := (.slice (some ⟨d, 0, none⟩) m m)) (grown_setCell wr ⟨d, k, none⟩ (.int .i64 zj)) hap.out)
              have hXk := hide (hX.out.setCell (p := ⟨d, k, none⟩) hdw (.int .i64 zj))
              clear hEl
              as_aux_lemma =>
                go_wp2
                refine Dr.region_text (by kernel_rfl) ?_
                go_wp2
                refine ⟨by rfl, ?_⟩
                go_wp2
                go_roundw
                case rel => exact ⟨i, j + 1, k + 1, _, by go_num, by go_num, by go_num, hnew.out, hst.out.drew, hSk.out.drew, hXk.out.drew⟩
                case measure => simp [intOf]; omega
          have hjI : ¬ (j : Int) < (hi : Nat) := by omega
          by_cases hii : i < mid
          · have hiI : (i : Int) < (mid : Nat) := by omega
            have hin : (i : Int) < m := by omega
            have hkn : (k : Int) < m := by omega
            have gi := OwnI.cellAt hS.out i (by rw [hSl.out]; omega)
            have gk := OwnI.cellAt hD.out k (by omega)
            have fk := OwnI.frozenAt hD.out hEl.symm k
            generalize E.getD k 0 = zk at gk
            have hnew := hF.out.left htr.out (by omega) hii hseg.out.1 (.inl (by omega))
            generalize S.getD i 0 = zi at *
            have hjJ : ((hi : Nat) : Int) ≤ (j : Int) := by omega
            have d1 : decide (((hi : Nat) : Int) ≤ (j : Int)) = true := by simp; omega
            have d2 : decide (hi ≤ j) = true := by simp; omega
            replace hnew := hide hnew
            have hst := hide (OwnI.stored hD.out hEl.symm k zi)
            have hSk := hide (hS.out.but (v' := (.slice (some ⟨d, 0, none⟩) m m)) (grown_setCell wr ⟨d, k, none⟩ (.int .i64 zi)) hap.out)
            have hXk := hide (hX.out.setCell (p := ⟨d, k, none⟩) hdw (.int .i64 zi))
            clear hEl
            as_aux_lemma =>
              go_wp2
              refine Dr.region_text (by kernel_rfl) ?_
              go_wp2
              refine ⟨by rfl, ?_⟩
              go_wp2
              go_roundw
              case rel => exact ⟨i + 1, j, k + 1, _, by go_num, by go_num, by go_num, hnew.out, hst.out.drew, hSk.out.drew, hXk.out.drew⟩
              case measure => simp [intOf]; omega
          · have hiI : ¬ (i : Int) < (mid : Nat) := by omega
            have hmv : KS.MInv (RK K) S E lo mid hi mid hi hi := by
              have ei : i = mid := by omega
              have ej : j = hi := by omega
              have ek : k = hi := by omega
              have := hF.out.1
              rwa [ei, ej, ek] at this
            have hstep := hide (hpi.out.step hlo.out (by rw [hSl.out]; exact hln) hmN.out hhN.out (hEl.trans (hpi.out.len.trans hSl.out).symm) hF.out.2.2 hmv)
            clear hmv
            have hlo2 : Hid (lo + 2 * wd = (b + 1) * (2 * wd)) := by simp only [Hid]; rw [Nat.add_mul, Nat.one_mul, ← hlo.out]
            clear hEl hmi0 hmi1 hmj0 hmj1 hmk hji hii
            as_aux_lemma =>
              go_wp2
              go_roundw
              case rel => exact ⟨lo + 2 * wd, b + 1, _, by go_num, hlo2.out, by omega, hstep.out, hS.out, hD.out, hX.out⟩
              case measure => simp [intOf]; omega
        · have hh' : (m : Int) < (lo : Int) + 2 * wd := by omega
          go_wp2
          obtain ⟨mid, hmid⟩ : ∃ mid : Nat, mid = lo + wd := ⟨_, rfl⟩
          have hmN : Hid (mid = min (lo + wd) S.length) := by simp only [Hid]; rw [hSl.out]; omega
          have hhN : Hid (m = min (lo + 2 * wd) S.length) := by simp only [Hid]; rw [hSl.out]; omega
          have q1 : lo ≤ mid := by omega
          have q2 : mid ≤ m := by omega
          rw [show (lo : Int) + wd = (mid : Int) by omega]
          clear hmid hm hh hm' hh'
          have hseg := hide (hinv.out.segs (b := b) (lo := lo) (mid := mid) (hi := m) hlo.out hmN.out hhN.out)
          go_loopw [14, 15, 16] (fun pi pj pk wr => ∃ (i j k : Nat) (E : List Int), pi = .int .i64 i ∧ pj = .int .i64 j ∧ pk = .int .i64 k ∧ Hid (FillK (RK K) S D E lo mid m i j k m) ∧ Hid (OwnI wr w.heap.size 3 (.slice (some ⟨d, 0, none⟩) m m) E) ∧ Hid (OwnI wr w.heap.size 3 (.slice (some ⟨s, 0, none⟩) m m) S) ∧ Hid (Ext w wr)) (fun pi pj pk _ => mid + m - (intOf pi).toNat - (intOf pj).toNat)
          case atStart => exact ⟨lo, mid, lo, D, rfl, by go_num, rfl, ⟨KS.MInv.start S D lo _ _ (by omega) (by omega), hpi.out.len.trans hSl.out, fun p hp => rfl⟩, hD, hS, hX⟩
          clear hD hS hX
          obtain ⟨i, j, k, E, rfl, rfl, rfl, hF, hD, hS, hX⟩ := hrel
          have hmi0 := hF.out.1.i0
          have hmi1 := hF.out.1.i1
          have hmj0 := hF.out.1.j0
          have hmj1 := hF.out.1.j1
          have hmk := hF.out.1.kk
          have hEl := hF.out.2.1
          by_cases hji : j < m
          · have hjI : (j : Int) < (m : Nat) := by omega
            have d1 : decide (((m : Nat) : Int) ≤ (j : Int)) = false := by simp; omega
            have d2 : decide (m ≤ j) = false := by simp; omega
            have hjn : (j : Int) < m := by omega
            have gj := OwnI.cellAt hS.out j (by rw [hSl.out]; omega)
            have hkn : (k : Int) < m := by omega
            have gk := OwnI.cellAt hD.out k (by omega)
            have fk := OwnI.frozenAt hD.out hEl.symm k
            obtain ⟨ja, hja, hzj⟩ := sinv_at hinv.out (i := j) (by omega)
            replace hzj := hide hzj
            generalize E.getD k 0 = zk at gk
            by_cases hii : i < mid
            · have hiI : (i : Int) < (mid : Nat) := by omega
              have d3 : decide ((i : Int) < ((mid : Nat) : Int)) = true := by simp; omega
              have d4 : decide (i < mid) = true := by simp; omega
              have hin : (i : Int) < m := by omega
              have gi := OwnI.cellAt hS.out i (by rw [hSl.out]; omega)
              obtain ⟨ia, hia, hzi⟩ := sinv_at hinv.out (i := i) (by omega)
              replace hzi := hide hzi
              obtain ⟨CV, hCV⟩ : ∃ v, Hid (cmpL (K ia) (K ja) = v) := ⟨_, rfl⟩
              have hRij : Hid (RK K (S.getD i 0) (S.getD j 0) ↔ CV ≤ 0) := by unfold RK; rw [hzi.out, hzj.out, Int.toNat_natCast, Int.toNat_natCast, hCV.out]; exact Iff.rfl
              have hRji : Hid (¬ CV ≤ 0 → RK K (S.getD j 0) (S.getD i 0)) := fun hh => by unfold RK; rw [hzi.out, hzj.out, Int.toNat_natCast, Int.toNat_natCast, cmpL_neg, hCV.out]; omega
              by_cases hle : CV ≤ 0
              · have hnew := hF.out.left htr.out (by omega) hii hseg.out.1 (.inr (hRij.out.2 hle))
                clear hRij hRji
                generalize S.getD i 0 = zi at *
                generalize S.getD j 0 = zj at *
                have hled : decide (CV ≤ 0) = true := by simpa using hle
                replace hnew := hide hnew
                have hst := hide (OwnI.stored hD.out hEl.symm k zi)
                have hSk := hide (hS.out.but (v' := (.slice (some ⟨d, 0, none⟩) m m)) (grown_setCell wr ⟨d, k, none⟩ (.int .i64 zi)) hap.out)
                have hXk := hide (hX.out.setCell (p := ⟨d, k, none⟩) hdw (.int .i64 zi))
                clear hEl
                as_aux_lemma =>
                  go_wp2
                  refine Dr.region_text (by kernel_rfl) ?_
                  go_wp2_with (go_at_call 81; refine (cmpKey K wk m rk ra rc ia ja zi zj hzi.out hzj.out _ hf (hr.out.ext hX.out.drew) hia hja hrl hwk).mono ?_; rintro e wx ⟨rfl, rfl⟩; rw [hCV.out]; dsimp only)
                  refine ⟨by rfl, ?_⟩
                  go_wp2
                  go_roundw
                  case rel => exact ⟨i + 1, j, k + 1, _, by go_num, by go_num, by go_num, hnew.out, hst.out.drew, hSk.out.drew, hXk.out.drew⟩
                  case measure => simp [intOf]; omega
              · have hnew := hF.out.right htr.out (by omega) hji hseg.out.2 (.inr (hRji.out hle))
                clear hRij hRji
                generalize S.getD i 0 = zi at *
                generalize S.getD j 0 = zj at *
                have hled : decide (CV ≤ 0) = false := by simpa using hle
                clear hle
                replace hnew := hide hnew
                have hst := hide (OwnI.stored hD.out hEl.symm k zj)
                have hSk := hide (hS.out.but (v' := (.slice (some ⟨d, 0, none⟩) m m)) (grown_setCell wr ⟨d, k, none⟩ (.int .i64 zj)) hap.out)
                have hXk := hide (hX.out.setCell (p := ⟨d, k, none⟩) hdw (.int .i64 zj))
                clear hEl
                as_aux_lemma =>
                  go_wp2
                  refine Dr.region_text (by kernel_rfl) ?_
                  go_wp2_with (go_at_call 81; refine (cmpKey K wk m rk ra rc ia ja zi zj hzi.out hzj.out _ hf (hr.out.ext hX.out.drew) hia hja hrl hwk).mono ?_; rintro e wx ⟨rfl, rfl⟩; rw [hCV.out]; dsimp only)
                  refine ⟨by rfl, ?_⟩
                  go_wp2
                  go_roundw
                  case rel => exact ⟨i, j + 1, k + 1, _, by go_num, by go_num, by go_num, hnew.out, hst.out.drew, hSk.out.drew, hXk.out.drew⟩
                  case measure => simp [intOf]; omega
            · have hiI : ¬ (i : Int) < (mid : Nat) := by omega
              have d3 : decide ((i : Int) < ((mid : Nat) : Int)) = false := by simp; omega
              have d4 : decide (i < mid) = false := by simp; omega
              have hnew := hF.out.right htr.out (by omega) hji hseg.out.2 (.inl (by omega))
              clear hzj
              generalize S.getD j 0 = zj at *
              replace hnew := hide hnew
              have hst := hide (OwnI.stored hD.out hEl.symm k zj)
              have hSk := hide (hS.out.but (v' := (.slice (some ⟨d, 0, none⟩) m m)) (grown_setCell wr ⟨d, k, none⟩ (.int .i64 zj)) hap.out)
              have hXk := hide (hX.out.setCell (p := ⟨d, k, none⟩) hdw (.int .i64 zj))
              clear hEl
              as_aux_lemma =>
                go_wp2
                refine Dr.region_text (by kernel_rfl) ?_
                go_wp2
                refine ⟨by rfl, ?_⟩
                go_wp2
                go_roundw
                case rel => exact ⟨i, j + 1, k + 1, _, by go_num, by go_num, by go_num, hnew.out, hst.out.drew, hSk.out.drew, hXk.out.drew⟩
                case measure => simp [intOf]; omega
          have hjI : ¬ (j : Int) < (m : Nat) := by omega
          by_cases hii : i < mid
          · have hiI : (i : Int) < (mid : Nat) := by omega
            have hin : (i : Int) < m := by omega
            have hkn : (k : Int) < m := by omega
            have gi := OwnI.cellAt hS.out i (by rw [hSl.out]; omega)
            have gk := OwnI.cellAt hD.out k (by omega)
            have fk := OwnI.frozenAt hD.out hEl.symm k
            generalize E.getD k 0 = zk at gk
            have hnew := hF.out.left htr.out (by omega) hii hseg.out.1 (.inl (by omega))
            generalize S.getD i 0 = zi at *
            have hjJ : ((m : Nat) : Int) ≤ (j : Int) := by omega
            have d1 : decide (((m : Nat) : Int) ≤ (j : Int)) = true := by simp; omega
            have d2 : decide (m ≤ j) = true := by simp; omega
            replace hnew := hide hnew
            have hst := hide (OwnI.stored hD.out hEl.symm k zi)
            have hSk := hide (hS.out.but (v' := (.slice (some ⟨d, 0, none⟩) m m)) (grown_setCell wr ⟨d, k, none⟩ (.int .i64 zi)) hap.out)
            have hXk := hide (hX.out.setCell (p := ⟨d, k, none⟩) hdw (.int .i64 zi))
            clear hEl
            as_aux_lemma =>
              go_wp2
              refine Dr.region_text (by kernel_rfl) ?_
              go_wp2
              refine ⟨by rfl, ?_⟩
              go_wp2
              go_roundw
              case rel => exact ⟨i + 1, j, k + 1, _, by go_num, by go_num, by go_num, hnew.out, hst.out.drew, hSk.out.drew, hXk.out.drew⟩
              case measure => simp [intOf]; omega
          · have hiI : ¬ (i : Int) < (mid : Nat) := by omega
            have hmv : KS.MInv (RK K) S E lo mid m mid m m := by
              have ei : i = mid := by omega
              have ej : j = m := by omega
              have ek : k = m := by omega
              have := hF.out.1
              rwa [ei, ej, ek] at this
            have hstep := hide (hpi.out.step hlo.out (by rw [hSl.out]; exact hln) hmN.out hhN.out (hEl.trans (hpi.out.len.trans hSl.out).symm) hF.out.2.2 hmv)
            clear hmv
            have hlo2 : Hid (lo + 2 * wd = (b + 1) * (2 * wd)) := by simp only [Hid]; rw [Nat.add_mul, Nat.one_mul, ← hlo.out]
            clear hEl hmi0 hmi1 hmj0 hmj1 hmk hji hii
            as_aux_lemma =>
              go_wp2
              go_roundw
              case rel => exact ⟨lo + 2 * wd, b + 1, _, by go_num, hlo2.out, by omega, hstep.out, hS.out, hD.out, hX.out⟩
              case measure => simp [intOf]; omega
      · have hm' : (m : Int) < (lo : Int) + wd := by omega
        have hh' : (m : Int) < (lo : Int) + 2 * wd := by omega
        go_wp2
        have hmN : Hid (m = min (lo + wd) S.length) := by simp only [Hid]; rw [hSl.out]; omega
        have hhN : Hid (m = min (lo + 2 * wd) S.length) := by simp only [Hid]; rw [hSl.out]; omega
        have q1 : lo ≤ m := by omega
        clear hm hm' hh'
        have hseg := hide (hinv.out.segs (b := b) (lo := lo) (mid := m) (hi := m) hlo.out hmN.out hhN.out)
        go_loopw [14, 15, 16] (fun pi pj pk wr => ∃ (i j k : Nat) (E : List Int), pi = .int .i64 i ∧ pj = .int .i64 j ∧ pk = .int .i64 k ∧ Hid (FillK (RK K) S D E lo m m i j k m) ∧ Hid (OwnI wr w.heap.size 3 (.slice (some ⟨d, 0, none⟩) m m) E) ∧ Hid (OwnI wr w.heap.size 3 (.slice (some ⟨s, 0, none⟩) m m) S) ∧ Hid (Ext w wr)) (fun pi pj pk _ => m + m - (intOf pi).toNat - (intOf pj).toNat)
        case atStart => exact ⟨lo, m, lo, D, rfl, by go_num, rfl, ⟨KS.MInv.start S D lo _ _ (by omega) (by omega), hpi.out.len.trans hSl.out, fun p hp => rfl⟩, hD, hS, hX⟩
        clear hD hS hX
        obtain ⟨i, j, k, E, rfl, rfl, rfl, hF, hD, hS, hX⟩ := hrel
        have hmi0 := hF.out.1.i0
        have hmi1 := hF.out.1.i1
        have hmj0 := hF.out.1.j0
        have hmj1 := hF.out.1.j1
        have hmk := hF.out.1.kk
        have hEl := hF.out.2.1
        have hji : ¬ j < m := by omega
        have hjI : ¬ (j : Int) < (m : Nat) := by omega
        by_cases hii : i < m
        · have hiI : (i : Int) < (m : Nat) := by omega
          have hin : (i : Int) < m := by omega
          have hkn : (k : Int) < m := by omega
          have gi := OwnI.cellAt hS.out i (by rw [hSl.out]; omega)
          have gk := OwnI.cellAt hD.out k (by omega)
          have fk := OwnI.frozenAt hD.out hEl.symm k
          generalize E.getD k 0 = zk at gk
          have hnew := hF.out.left htr.out (by omega) hii hseg.out.1 (.inl (by omega))
          generalize S.getD i 0 = zi at *
          have hjJ : ((m : Nat) : Int) ≤ (j : Int) := by omega
          have d1 : decide (((m : Nat) : Int) ≤ (j : Int)) = true := by simp; omega
          have d2 : decide (m ≤ j) = true := by simp; omega
          replace hnew := hide hnew
          have hst := hide (OwnI.stored hD.out hEl.symm k zi)
          have hSk := hide (hS.out.but (v' := (.slice (some ⟨d, 0, none⟩) m m)) (grown_setCell wr ⟨d, k, none⟩ (.int .i64 zi)) hap.out)
          have hXk := hide (hX.out.setCell (p := ⟨d, k, none⟩) hdw (.int .i64 zi))
          clear hEl
          as_aux_lemma =>
            go_wp2
            refine Dr.region_text (by kernel_rfl) ?_
            go_wp2
            refine ⟨by rfl, ?_⟩
            go_wp2
            go_roundw
            case rel => exact ⟨i + 1, j, k + 1, _, by go_num, by go_num, by go_num, hnew.out, hst.out.drew, hSk.out.drew, hXk.out.drew⟩
            case measure => simp [intOf]; omega
        · have hiI : ¬ (i : Int) < (m : Nat) := by omega
          have hmv : KS.MInv (RK K) S E lo m m m m m := by
            have ei : i = m := by omega
            have ej : j = m := by omega
            have ek : k = m := by omega
            have := hF.out.1
            rwa [ei, ej, ek] at this
          have hstep := hide (hpi.out.step hlo.out (by rw [hSl.out]; exact hln) hmN.out hhN.out (hEl.trans (hpi.out.len.trans hSl.out).symm) hF.out.2.2 hmv)
          clear hmv
          have hlo2 : Hid (lo + 2 * wd = (b + 1) * (2 * wd)) := by simp only [Hid]; rw [Nat.add_mul, Nat.one_mul, ← hlo.out]
          clear hEl hmi0 hmi1 hmj0 hmj1 hmk hji hii
          as_aux_lemma =>
            go_wp2
            go_roundw
            case rel => exact ⟨lo + 2 * wd, b + 1, _, by go_num, hlo2.out, by omega, hstep.out, hS.out, hD.out, hX.out⟩
            case measure => simp [intOf]; omega
    · have hln' : ¬ (lo : Int) < m := by omega
      have hnx := hide (hinv.out.next hpi.out hwd (by rw [hSl.out, ← hlo.out]; omega))
      have hDl : Hid (S.length = m) := hSl
      have hne2 : Hid (d ≠ s) := fun e => hne.out e.symm
      clear hln hpi
      go_wp2
      go_roundw
      case rel => exact ⟨d, s, wd * 2, D, S, rfl, rfl, by go_num, by omega, by omega, hne2.out, hnx.out, hDl.out, hD.out, hS.out, hX.out⟩
      case measure => simp [intOf]; omega
  · have hlt' : ¬ (wd : Int) < m := by omega
    have hso := hide (hinv.out.sorted (by rw [hSl.out]; omega))
    go_wp2
    go_ret
    exact ⟨S, _, _, rfl, hS.out, hso.out, hX.out⟩
end Go.Proofs.YbyabwGreat
