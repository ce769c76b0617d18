/- Walk: impl.sortInt64 -/
import Derived.Test.YbyabwFrame
import Derived.Test.YbyabwCol2
import Derived.Test.YbyabwDraw
import Derived.Test.YbyabwPlainSort
namespace Go.Proofs.Ybyabw
open Go.RowKit
set_option maxRecDepth 100000
set_option linter.unusedVariables false

def RetSort (xs : List Int) (w : World) : Ending → World → Prop := fun en w' => ∃ S a cap, en = .returned (.slice a xs.length cap) ∧ OwnI w' w.heap.size 2 (.slice a xs.length cap) S ∧ SortedOf xs S ∧ Ext w w'

/-- What the inner loop holds of the row that is being filled. -/
def Fill (S D E : List Int) (lo mid hi i j k n : Nat) : Prop := MInv S E lo mid hi i j k ∧ E.length = n ∧ ∀ p, p < lo → E.getD p 0 = D.getD p 0
theorem Fill.left {S D E : List Int} {lo mid hi i j k n : Nat} (h : Fill S D E lo mid hi i j k n) (hk : k < n) (hi' : i < mid) (hS : SegUp S lo mid) (hc : hi ≤ j ∨ S.getD i 0 ≤ S.getD j 0) : Fill S D (E.set k (S.getD i 0)) lo mid hi (i + 1) j (k + 1) n :=
  ⟨h.1.left (by rw [h.2.1]; exact hk) hi' hS hc, by rw [List.length_set]; exact h.2.1, fun p hp => by
    rw [getD_set E k _ (by rw [h.2.1]; exact hk), if_neg, h.2.2 p hp]
    have := h.1.kk; have := h.1.i0; have := h.1.j0
    omega⟩
theorem Fill.right {S D E : List Int} {lo mid hi i j k n : Nat} (h : Fill S D E lo mid hi i j k n) (hk : k < n) (hj : j < hi) (hS : SegUp S mid hi) (hc : mid ≤ i ∨ S.getD j 0 ≤ S.getD i 0) : Fill S D (E.set k (S.getD j 0)) lo mid hi i (j + 1) (k + 1) n :=
  ⟨h.1.right (by rw [h.2.1]; exact hk) hj hS hc, by rw [List.length_set]; exact h.2.1, fun p hp => by
    rw [getD_set E k _ (by rw [h.2.1]; exact hk), if_neg, h.2.2 p hp]
    have := h.1.kk; have := h.1.i0; have := h.1.j0
    omega⟩


set_option maxHeartbeats 8000000 in
theorem sortInt64 (xs : List Int) (a : Option Addr) (c : Nat) (w : World) (h : Hid (IntsAt w a xs)) (hl : xs.length ≤ 65536) :
    Calls Yabn.prog 141 #[.slice a xs.length c] w (RetSort xs w) := by
  go_enter Yabn.func141, Yabn.ntmps141
  go_wp2_with (first
    | (at_make; refine mk_i64 rfl rfl xs.length rfl rfl (by omega) w.heap.size rfl ?_; intro w1 hown1 hx1 hsz1; replace hown1 := hide hown1; replace hx1 := hide hx1)
    | (refine wpList_cpI rfl rfl 2 Yabn.underlying23 size_int64 w.heap.size w.heap.size xs.length xs.length (List.replicate xs.length 0) xs (by rfl) (by simp) hown1.out a xs.length c (by rfl) rfl (h.out.ext hx1.out) (by simp) ?_; intro w2 hown2 hgr2; have hs2 := hgr2.size; have hx2 : Hid (Ext w w2) := hx1.out.grown hgr2 (by intro k hk; cases hk; exact Nat.le_refl _); replace hown2 := hide hown2; clear hgr2)
    | (at_make; refine mk_i64 rfl rfl xs.length rfl rfl (by omega) w2.heap.size rfl ?_; intro w3 hown3 hx3 hsz3; replace hown3 := hide hown3; replace hx3 := hide hx3))
  have hap3 := apart_base hown2.out hown3.out (Nat.le_refl _)
  have hs3 := hide ((hown2.out).ext hx3.out)
  replace hown3 := hide (hown3.out.mono (base' := w.heap.size) (by omega))
  have hX3 : Hid (Ext w w3) := hx2.out.trans hx3.out
  clear hown2 hx2 hx3 hown1 hx1
  go_loopw [4, 5, 6] (fun ps pd pw wr => ∃ (s d wd : Nat) (S D : List Int), ps = (.slice (some ⟨s, 0, none⟩) xs.length xs.length) ∧ pd = (.slice (some ⟨d, 0, none⟩) xs.length xs.length) ∧ pw = .int .i64 wd ∧ 0 < wd ∧ wd ≤ 131072 ∧ Hid (s ≠ d) ∧ Hid (SInv xs S wd) ∧ Hid (D.length = xs.length) ∧ Hid (OwnI wr w.heap.size 2 (.slice (some ⟨s, 0, none⟩) xs.length xs.length) S) ∧ Hid (OwnI wr w.heap.size 2 (.slice (some ⟨d, 0, none⟩) xs.length xs.length) D) ∧ Hid (Ext w wr)) (fun _ _ pw _ => xs.length - (intOf pw).toNat)
  case atStart => exact ⟨w.heap.size, w2.heap.size, 1, xs, _, rfl, rfl, by go_num, by omega, by omega, (by simp only [Hid, ne_eq]; omega), SInv.start xs, (by simp [Hid]), hs3, hown3, hX3⟩
  clear hown3 hs3 hX3 hap3
  obtain ⟨s, d, wd, S, D, rfl, rfl, rfl, hwd, hwd2, hne, hinv, hDl, hS, hD, hX⟩ := hrel
  obtain ⟨W, rfl⟩ : ∃ W, W = wr := ⟨_, rfl⟩
  have hSl : Hid (S.length = xs.length) := hinv.out.len
  by_cases hlt : wd < xs.length
  · have hlt' : (wd : Int) < xs.length := by omega
    have hdw : w.heap.size ≤ (⟨d, 0, none⟩ : Addr).block := (OwnI.lt hD.out).1
    have hap : Hid (Apart (.slice (some ⟨s, 0, none⟩) xs.length xs.length) (.slice (some ⟨d, 0, none⟩) xs.length xs.length)) := .inr (by simp [Value.ownBlock]; exact hne.out)
    go_wp2
    go_loopw [7] (fun pl wr => ∃ (lo b : Nat) (D : List Int), pl = .int .i64 lo ∧ Hid (lo = b * (2 * wd)) ∧ lo < xs.length + 2 * wd ∧ Hid (PInv S D wd b) ∧ Hid (OwnI wr w.heap.size 2 (.slice (some ⟨s, 0, none⟩) xs.length xs.length) S) ∧ Hid (OwnI wr w.heap.size 2 (.slice (some ⟨d, 0, none⟩) xs.length xs.length) D) ∧ Hid (Ext w wr)) (fun pl _ => xs.length - (intOf pl).toNat)
    case atStart => exact ⟨0, 0, D, rfl, (by simp [Hid]), by omega, PInv.start S D wd (hDl.out.trans hSl.out.symm), hS, hD, hX⟩
    clear hD hS hX hDl
    obtain ⟨lo, b, D, rfl, hlo, hlb, hpi, hS, hD, hX⟩ := hrel
    by_cases hln : lo < xs.length
    · have hln' : (lo : Int) < xs.length := by omega
      by_cases hm : lo + wd ≤ xs.length
      · have hm' : ¬ (xs.length : Int) < (lo : Int) + wd := by omega
        by_cases hh : lo + 2 * wd ≤ xs.length
        · have hh' : ¬ (xs.length : Int) < (lo : Int) + 2 * wd := by omega
          go_wp2
          obtain ⟨mid, hmid⟩ : ∃ mid : Nat, mid = lo + wd := ⟨_, rfl⟩
          obtain ⟨hi, hhi⟩ : ∃ hi : Nat, hi = lo + 2 * wd := ⟨_, rfl⟩
          have hmN : Hid (mid = min (lo + wd) S.length) := by simp only [Hid]; rw [hSl.out]; omega
          have hhN : Hid (hi = min (lo + 2 * wd) S.length) := by simp only [Hid]; rw [hSl.out]; omega
          have q1 : lo ≤ mid := by omega
          have q2 : mid ≤ hi := by omega
          have q3 : hi ≤ xs.length := by omega
          rw [show (lo : Int) + wd = (mid : Int) by omega, show (lo : Int) + 2 * wd = (hi : Int) by omega]
          clear hmid hhi hm hh hm' hh'
          have hseg := hide (hinv.out.segs (b := b) (lo := lo) (mid := mid) (hi := hi) hlo.out hmN.out hhN.out)
          go_loopw [10, 11, 12] (fun pi pj pk wr => ∃ (i j k : Nat) (E : List Int), pi = .int .i64 i ∧ pj = .int .i64 j ∧ pk = .int .i64 k ∧ Hid (Fill S D E lo mid hi i j k xs.length) ∧ Hid (OwnI wr w.heap.size 2 (.slice (some ⟨d, 0, none⟩) xs.length xs.length) E) ∧ Hid (OwnI wr w.heap.size 2 (.slice (some ⟨s, 0, none⟩) xs.length xs.length) S) ∧ Hid (Ext w wr)) (fun pi pj _ _ => (mid - (intOf pi).toNat) + (hi - (intOf pj).toNat))
          case atStart => exact ⟨lo, mid, lo, D, rfl, by go_num, rfl, ⟨MInv.start S D lo _ _ (by omega) (by omega), hpi.out.len.trans hSl.out, fun p hp => rfl⟩, hD, hS, hX⟩
          clear hD hS hX
          obtain ⟨i, j, k, E, rfl, rfl, rfl, hF, hD, hS, hX⟩ := hrel
          have hmi0 := hF.out.1.i0
          have hmi1 := hF.out.1.i1
          have hmj0 := hF.out.1.j0
          have hmj1 := hF.out.1.j1
          have hmk := hF.out.1.kk
          have hEl := hF.out.2.1
          by_cases hji : j < hi
          · have hjI : (j : Int) < (hi : Nat) := by omega
            have d1 : decide (((hi : Nat) : Int) ≤ (j : Int)) = false := by simp; omega
            have d2 : decide (hi ≤ j) = false := by simp; omega
            have hjn : (j : Int) < xs.length := by omega
            have gj := OwnI.cellAt hS.out j (by rw [hSl.out]; omega)
            have hkn : (k : Int) < xs.length := by omega
            have gk := OwnI.cellAt hD.out k (by omega)
            have fk := OwnI.frozenAt hD.out hEl.symm k
            generalize E.getD k 0 = zk at gk
            by_cases hii : i < mid
            · have hiI : (i : Int) < (mid : Nat) := by omega
              have d3 : decide ((i : Int) < ((mid : Nat) : Int)) = true := by simp; omega
              have d4 : decide (i < mid) = true := by simp; omega
              have hin : (i : Int) < xs.length := by omega
              have gi := OwnI.cellAt hS.out i (by rw [hSl.out]; omega)
              by_cases hle : S.getD i 0 ≤ S.getD j 0
              · have hnew := hF.out.left (by omega) hii hseg.out.1 (.inr hle)
                generalize S.getD i 0 = zi at *
                generalize S.getD j 0 = zj at *
                have hled : decide (zi ≤ zj) = true := by simpa using hle
                replace hnew := hide hnew
                have hst := hide (OwnI.stored hD.out hEl.symm k zi)
                have hSk := hide (hS.out.but (v' := (.slice (some ⟨d, 0, none⟩) xs.length xs.length)) (grown_setCell wr ⟨d, k, none⟩ (.int .i64 zi)) hap.out)
                have hXk := hide (hX.out.setCell (p := ⟨d, k, none⟩) hdw (.int .i64 zi))
                clear hEl
                as_aux_lemma =>
                  go_wp2
                  refine Dr.region_text (by kernel_rfl) ?_
                  go_wp2
                  refine ⟨by rfl, ?_⟩
                  go_wp2
                  go_roundw
                  case rel => exact ⟨i + 1, j, k + 1, _, by go_num, by go_num, by go_num, hnew.out, hst.out.drew, hSk.out.drew, hXk.out.drew⟩
                  case measure => simp [intOf]; omega
              · have hnew := hF.out.right (by omega) hji hseg.out.2 (.inr (by omega))
                generalize S.getD i 0 = zi at *
                generalize S.getD j 0 = zj at *
                have hled : decide (zi ≤ zj) = false := by simpa using hle
                clear hle
                replace hnew := hide hnew
                have hst := hide (OwnI.stored hD.out hEl.symm k zj)
                have hSk := hide (hS.out.but (v' := (.slice (some ⟨d, 0, none⟩) xs.length xs.length)) (grown_setCell wr ⟨d, k, none⟩ (.int .i64 zj)) hap.out)
                have hXk := hide (hX.out.setCell (p := ⟨d, k, none⟩) hdw (.int .i64 zj))
                clear hEl
                as_aux_lemma =>
                  go_wp2
                  refine Dr.region_text (by kernel_rfl) ?_
                  go_wp2
                  refine ⟨by rfl, ?_⟩
                  go_wp2
                  go_roundw
                  case rel => exact ⟨i, j + 1, k + 1, _, by go_num, by go_num, by go_num, hnew.out, hst.out.drew, hSk.out.drew, hXk.out.drew⟩
                  case measure => simp [intOf]; omega
            · have hiI : ¬ (i : Int) < (mid : Nat) := by omega
              have d3 : decide ((i : Int) < ((mid : Nat) : Int)) = false := by simp; omega
              have d4 : decide (i < mid) = false := by simp; omega
              have hnew := hF.out.right (by omega) hji hseg.out.2 (.inl (by omega))
              generalize S.getD j 0 = zj at *
              replace hnew := hide hnew
              have hst := hide (OwnI.stored hD.out hEl.symm k zj)
              have hSk := hide (hS.out.but (v' := (.slice (some ⟨d, 0, none⟩) xs.length xs.length)) (grown_setCell wr ⟨d, k, none⟩ (.int .i64 zj)) hap.out)
              have hXk := hide (hX.out.setCell (p := ⟨d, k, none⟩) hdw (.int .i64 zj))
              clear hEl
              as_aux_lemma =>
                go_wp2
                refine Dr.region_text (by kernel_rfl) ?_
                go_wp2
                refine ⟨by rfl, ?_⟩
                go_wp2
                go_roundw
                case rel => exact ⟨i, j + 1, k + 1, _, by go_num, by go_num, by go_num, hnew.out, hst.out.drew, hSk.out.drew, hXk.out.drew⟩
                case measure => simp [intOf]; omega
          have hjI : ¬ (j : Int) < (hi : Nat) := by omega
          by_cases hii : i < mid
          · have hiI : (i : Int) < (mid : Nat) := by omega
            have hin : (i : Int) < xs.length := by omega
            have hkn : (k : Int) < xs.length := by omega
            have gi := OwnI.cellAt hS.out i (by rw [hSl.out]; omega)
            have gk := OwnI.cellAt hD.out k (by omega)
            have fk := OwnI.frozenAt hD.out hEl.symm k
            generalize E.getD k 0 = zk at gk
            have hnew := hF.out.left (by omega) hii hseg.out.1 (.inl (by omega))
            generalize S.getD i 0 = zi at *
            have hjJ : ((hi : Nat) : Int) ≤ (j : Int) := by omega
            have d1 : decide (((hi : Nat) : Int) ≤ (j : Int)) = true := by simp; omega
            have d2 : decide (hi ≤ j) = true := by simp; omega
            replace hnew := hide hnew
            have hst := hide (OwnI.stored hD.out hEl.symm k zi)
            have hSk := hide (hS.out.but (v' := (.slice (some ⟨d, 0, none⟩) xs.length xs.length)) (grown_setCell wr ⟨d, k, none⟩ (.int .i64 zi)) hap.out)
            have hXk := hide (hX.out.setCell (p := ⟨d, k, none⟩) hdw (.int .i64 zi))
            clear hEl
            as_aux_lemma =>
              go_wp2
              refine Dr.region_text (by kernel_rfl) ?_
              go_wp2
              refine ⟨by rfl, ?_⟩
              go_wp2
              go_roundw
              case rel => exact ⟨i + 1, j, k + 1, _, by go_num, by go_num, by go_num, hnew.out, hst.out.drew, hSk.out.drew, hXk.out.drew⟩
              case measure => simp [intOf]; omega
          · have hiI : ¬ (i : Int) < (mid : Nat) := by omega
            have hmv : MInv S E lo mid hi mid hi hi := by
              have ei : i = mid := by omega
              have ej : j = hi := by omega
              have ek : k = hi := by omega
              have := hF.out.1
              rwa [ei, ej, ek] at this
            have hstep := hide (hpi.out.step hlo.out (by rw [hSl.out]; exact hln) hmN.out hhN.out (hEl.trans (hpi.out.len.trans hSl.out).symm) hF.out.2.2 hmv)
            clear hmv
            have hlo2 : Hid (lo + 2 * wd = (b + 1) * (2 * wd)) := by simp only [Hid]; rw [Nat.add_mul, Nat.one_mul, ← hlo.out]
            clear hEl hmi0 hmi1 hmj0 hmj1 hmk hji hii
            as_aux_lemma =>
              go_wp2
              go_roundw
              case rel => exact ⟨lo + 2 * wd, b + 1, _, by go_num, hlo2.out, by omega, hstep.out, hS.out, hD.out, hX.out⟩
              case measure => simp [intOf]; omega
        · have hh' : (xs.length : Int) < (lo : Int) + 2 * wd := by omega
          go_wp2
          obtain ⟨mid, hmid⟩ : ∃ mid : Nat, mid = lo + wd := ⟨_, rfl⟩
          have hmN : Hid (mid = min (lo + wd) S.length) := by simp only [Hid]; rw [hSl.out]; omega
          have hhN : Hid (xs.length = min (lo + 2 * wd) S.length) := by simp only [Hid]; rw [hSl.out]; omega
          have q1 : lo ≤ mid := by omega
          have q2 : mid ≤ xs.length := by omega
          rw [show (lo : Int) + wd = (mid : Int) by omega]
          clear hmid hm hh hm' hh'
          have hseg := hide (hinv.out.segs (b := b) (lo := lo) (mid := mid) (hi := xs.length) hlo.out hmN.out hhN.out)
          go_loopw [10, 11, 12] (fun pi pj pk wr => ∃ (i j k : Nat) (E : List Int), pi = .int .i64 i ∧ pj = .int .i64 j ∧ pk = .int .i64 k ∧ Hid (Fill S D E lo mid xs.length i j k xs.length) ∧ Hid (OwnI wr w.heap.size 2 (.slice (some ⟨d, 0, none⟩) xs.length xs.length) E) ∧ Hid (OwnI wr w.heap.size 2 (.slice (some ⟨s, 0, none⟩) xs.length xs.length) S) ∧ Hid (Ext w wr)) (fun pi pj _ _ => (mid - (intOf pi).toNat) + (xs.length - (intOf pj).toNat))
          case atStart => exact ⟨lo, mid, lo, D, rfl, by go_num, rfl, ⟨MInv.start S D lo _ _ (by omega) (by omega), hpi.out.len.trans hSl.out, fun p hp => rfl⟩, hD, hS, hX⟩
          clear hD hS hX
          obtain ⟨i, j, k, E, rfl, rfl, rfl, hF, hD, hS, hX⟩ := hrel
          have hmi0 := hF.out.1.i0
          have hmi1 := hF.out.1.i1
          have hmj0 := hF.out.1.j0
          have hmj1 := hF.out.1.j1
          have hmk := hF.out.1.kk
          have hEl := hF.out.2.1
          by_cases hji : j < xs.length
          · have hjI : (j : Int) < (xs.length : Nat) := by omega
            have d1 : decide (((xs.length : Nat) : Int) ≤ (j : Int)) = false := by simp; omega
            have d2 : decide (xs.length ≤ j) = false := by simp; omega
            have hjn : (j : Int) < xs.length := by omega
            have gj := OwnI.cellAt hS.out j (by rw [hSl.out]; omega)
            have hkn : (k : Int) < xs.length := by omega
            have gk := OwnI.cellAt hD.out k (by omega)
            have fk := OwnI.frozenAt hD.out hEl.symm k
            generalize E.getD k 0 = zk at gk
            by_cases hii : i < mid
            · have hiI : (i : Int) < (mid : Nat) := by omega
              have d3 : decide ((i : Int) < ((mid : Nat) : Int)) = true := by simp; omega
              have d4 : decide (i < mid) = true := by simp; omega
              have hin : (i : Int) < xs.length := by omega
              have gi := OwnI.cellAt hS.out i (by rw [hSl.out]; omega)
              by_cases hle : S.getD i 0 ≤ S.getD j 0
              · have hnew := hF.out.left (by omega) hii hseg.out.1 (.inr hle)
                generalize S.getD i 0 = zi at *
                generalize S.getD j 0 = zj at *
                have hled : decide (zi ≤ zj) = true := by simpa using hle
                replace hnew := hide hnew
                have hst := hide (OwnI.stored hD.out hEl.symm k zi)
                have hSk := hide (hS.out.but (v' := (.slice (some ⟨d, 0, none⟩) xs.length xs.length)) (grown_setCell wr ⟨d, k, none⟩ (.int .i64 zi)) hap.out)
                have hXk := hide (hX.out.setCell (p := ⟨d, k, none⟩) hdw (.int .i64 zi))
                clear hEl
                as_aux_lemma =>
                  go_wp2
                  refine Dr.region_text (by kernel_rfl) ?_
                  go_wp2
                  refine ⟨by rfl, ?_⟩
                  go_wp2
                  go_roundw
                  case rel => exact ⟨i + 1, j, k + 1, _, by go_num, by go_num, by go_num, hnew.out, hst.out.drew, hSk.out.drew, hXk.out.drew⟩
                  case measure => simp [intOf]; omega
              · have hnew := hF.out.right (by omega) hji hseg.out.2 (.inr (by omega))
                generalize S.getD i 0 = zi at *
                generalize S.getD j 0 = zj at *
                have hled : decide (zi ≤ zj) = false := by simpa using hle
                clear hle
                replace hnew := hide hnew
                have hst := hide (OwnI.stored hD.out hEl.symm k zj)
                have hSk := hide (hS.out.but (v' := (.slice (some ⟨d, 0, none⟩) xs.length xs.length)) (grown_setCell wr ⟨d, k, none⟩ (.int .i64 zj)) hap.out)
                have hXk := hide (hX.out.setCell (p := ⟨d, k, none⟩) hdw (.int .i64 zj))
                clear hEl
                as_aux_lemma =>
                  go_wp2
                  refine Dr.region_text (by kernel_rfl) ?_
                  go_wp2
                  refine ⟨by rfl, ?_⟩
                  go_wp2
                  go_roundw
                  case rel => exact ⟨i, j + 1, k + 1, _, by go_num, by go_num, by go_num, hnew.out, hst.out.drew, hSk.out.drew, hXk.out.drew⟩
                  case measure => simp [intOf]; omega
            · have hiI : ¬ (i : Int) < (mid : Nat) := by omega
              have d3 : decide ((i : Int) < ((mid : Nat) : Int)) = false := by simp; omega
              have d4 : decide (i < mid) = false := by simp; omega
              have hnew := hF.out.right (by omega) hji hseg.out.2 (.inl (by omega))
              generalize S.getD j 0 = zj at *
              replace hnew := hide hnew
              have hst := hide (OwnI.stored hD.out hEl.symm k zj)
              have hSk := hide (hS.out.but (v' := (.slice (some ⟨d, 0, none⟩) xs.length xs.length)) (grown_setCell wr ⟨d, k, none⟩ (.int .i64 zj)) hap.out)
              have hXk := hide (hX.out.setCell (p := ⟨d, k, none⟩) hdw (.int .i64 zj))
              clear hEl
              as_aux_lemma =>
                go_wp2
                refine Dr.region_text (by kernel_rfl) ?_
                go_wp2
                refine ⟨by rfl, ?_⟩
                go_wp2
                go_roundw
                case rel => exact ⟨i, j + 1, k + 1, _, by go_num, by go_num, by go_num, hnew.out, hst.out.drew, hSk.out.drew, hXk.out.drew⟩
                case measure => simp [intOf]; omega
          have hjI : ¬ (j : Int) < (xs.length : Nat) := by omega
          by_cases hii : i < mid
          · have hiI : (i : Int) < (mid : Nat) := by omega
            have hin : (i : Int) < xs.length := by omega
            have hkn : (k : Int) < xs.length := by omega
            have gi := OwnI.cellAt hS.out i (by rw [hSl.out]; omega)
            have gk := OwnI.cellAt hD.out k (by omega)
            have fk := OwnI.frozenAt hD.out hEl.symm k
            generalize E.getD k 0 = zk at gk
            have hnew := hF.out.left (by omega) hii hseg.out.1 (.inl (by omega))
            generalize S.getD i 0 = zi at *
            have hjJ : ((xs.length : Nat) : Int) ≤ (j : Int) := by omega
            have d1 : decide (((xs.length : Nat) : Int) ≤ (j : Int)) = true := by simp; omega
            have d2 : decide (xs.length ≤ j) = true := by simp; omega
            replace hnew := hide hnew
            have hst := hide (OwnI.stored hD.out hEl.symm k zi)
            have hSk := hide (hS.out.but (v' := (.slice (some ⟨d, 0, none⟩) xs.length xs.length)) (grown_setCell wr ⟨d, k, none⟩ (.int .i64 zi)) hap.out)
            have hXk := hide (hX.out.setCell (p := ⟨d, k, none⟩) hdw (.int .i64 zi))
            clear hEl
            as_aux_lemma =>
              go_wp2
              refine Dr.region_text (by kernel_rfl) ?_
              go_wp2
              refine ⟨by rfl, ?_⟩
              go_wp2
              go_roundw
              case rel => exact ⟨i + 1, j, k + 1, _, by go_num, by go_num, by go_num, hnew.out, hst.out.drew, hSk.out.drew, hXk.out.drew⟩
              case measure => simp [intOf]; omega
          · have hiI : ¬ (i : Int) < (mid : Nat) := by omega
            have hmv : MInv S E lo mid xs.length mid xs.length xs.length := by
              have ei : i = mid := by omega
              have ej : j = xs.length := by omega
              have ek : k = xs.length := by omega
              have := hF.out.1
              rwa [ei, ej, ek] at this
            have hstep := hide (hpi.out.step hlo.out (by rw [hSl.out]; exact hln) hmN.out hhN.out (hEl.trans (hpi.out.len.trans hSl.out).symm) hF.out.2.2 hmv)
            clear hmv
            have hlo2 : Hid (lo + 2 * wd = (b + 1) * (2 * wd)) := by simp only [Hid]; rw [Nat.add_mul, Nat.one_mul, ← hlo.out]
            clear hEl hmi0 hmi1 hmj0 hmj1 hmk hji hii
            as_aux_lemma =>
              go_wp2
              go_roundw
              case rel => exact ⟨lo + 2 * wd, b + 1, _, by go_num, hlo2.out, by omega, hstep.out, hS.out, hD.out, hX.out⟩
              case measure => simp [intOf]; omega
      · have hm' : (xs.length : Int) < (lo : Int) + wd := by omega
        have hh' : (xs.length : Int) < (lo : Int) + 2 * wd := by omega
        go_wp2
        have hmN : Hid (xs.length = min (lo + wd) S.length) := by simp only [Hid]; rw [hSl.out]; omega
        have hhN : Hid (xs.length = min (lo + 2 * wd) S.length) := by simp only [Hid]; rw [hSl.out]; omega
        have q1 : lo ≤ xs.length := by omega
        clear hm hm' hh'
        have hseg := hide (hinv.out.segs (b := b) (lo := lo) (mid := xs.length) (hi := xs.length) hlo.out hmN.out hhN.out)
        go_loopw [10, 11, 12] (fun pi pj pk wr => ∃ (i j k : Nat) (E : List Int), pi = .int .i64 i ∧ pj = .int .i64 j ∧ pk = .int .i64 k ∧ Hid (Fill S D E lo xs.length xs.length i j k xs.length) ∧ Hid (OwnI wr w.heap.size 2 (.slice (some ⟨d, 0, none⟩) xs.length xs.length) E) ∧ Hid (OwnI wr w.heap.size 2 (.slice (some ⟨s, 0, none⟩) xs.length xs.length) S) ∧ Hid (Ext w wr)) (fun pi pj _ _ => (xs.length - (intOf pi).toNat) + (xs.length - (intOf pj).toNat))
        case atStart => exact ⟨lo, xs.length, lo, D, rfl, by go_num, rfl, ⟨MInv.start S D lo _ _ (by omega) (by omega), hpi.out.len.trans hSl.out, fun p hp => rfl⟩, hD, hS, hX⟩
        clear hD hS hX
        obtain ⟨i, j, k, E, rfl, rfl, rfl, hF, hD, hS, hX⟩ := hrel
        have hmi0 := hF.out.1.i0
        have hmi1 := hF.out.1.i1
        have hmj0 := hF.out.1.j0
        have hmj1 := hF.out.1.j1
        have hmk := hF.out.1.kk
        have hEl := hF.out.2.1
        have hji : ¬ j < xs.length := by omega
        have hjI : ¬ (j : Int) < (xs.length : Nat) := by omega
        by_cases hii : i < xs.length
        · have hiI : (i : Int) < (xs.length : Nat) := by omega
          have hin : (i : Int) < xs.length := by omega
          have hkn : (k : Int) < xs.length := by omega
          have gi := OwnI.cellAt hS.out i (by rw [hSl.out]; omega)
          have gk := OwnI.cellAt hD.out k (by omega)
          have fk := OwnI.frozenAt hD.out hEl.symm k
          generalize E.getD k 0 = zk at gk
          have hnew := hF.out.left (by omega) hii hseg.out.1 (.inl (by omega))
          generalize S.getD i 0 = zi at *
          have hjJ : ((xs.length : Nat) : Int) ≤ (j : Int) := by omega
          have d1 : decide (((xs.length : Nat) : Int) ≤ (j : Int)) = true := by simp; omega
          have d2 : decide (xs.length ≤ j) = true := by simp; omega
          replace hnew := hide hnew
          have hst := hide (OwnI.stored hD.out hEl.symm k zi)
          have hSk := hide (hS.out.but (v' := (.slice (some ⟨d, 0, none⟩) xs.length xs.length)) (grown_setCell wr ⟨d, k, none⟩ (.int .i64 zi)) hap.out)
          have hXk := hide (hX.out.setCell (p := ⟨d, k, none⟩) hdw (.int .i64 zi))
          clear hEl
          as_aux_lemma =>
            go_wp2
            refine Dr.region_text (by kernel_rfl) ?_
            go_wp2
            refine ⟨by rfl, ?_⟩
            go_wp2
            go_roundw
            case rel => exact ⟨i + 1, j, k + 1, _, by go_num, by go_num, by go_num, hnew.out, hst.out.drew, hSk.out.drew, hXk.out.drew⟩
            case measure => simp [intOf]; omega
        · have hiI : ¬ (i : Int) < (xs.length : Nat) := by omega
          have hmv : MInv S E lo xs.length xs.length xs.length xs.length xs.length := by
            have ei : i = xs.length := by omega
            have ej : j = xs.length := by omega
            have ek : k = xs.length := by omega
            have := hF.out.1
            rwa [ei, ej, ek] at this
          have hstep := hide (hpi.out.step hlo.out (by rw [hSl.out]; exact hln) hmN.out hhN.out (hEl.trans (hpi.out.len.trans hSl.out).symm) hF.out.2.2 hmv)
          clear hmv
          have hlo2 : Hid (lo + 2 * wd = (b + 1) * (2 * wd)) := by simp only [Hid]; rw [Nat.add_mul, Nat.one_mul, ← hlo.out]
          clear hEl hmi0 hmi1 hmj0 hmj1 hmk hji hii
          as_aux_lemma =>
            go_wp2
            go_roundw
            case rel => exact ⟨lo + 2 * wd, b + 1, _, by go_num, hlo2.out, by omega, hstep.out, hS.out, hD.out, hX.out⟩
            case measure => simp [intOf]; omega
    · have hln' : ¬ (lo : Int) < xs.length := by omega
      have hnx := hide (hinv.out.next hpi.out hwd (by rw [hSl.out, ← hlo.out]; omega))
      have hDl : Hid (S.length = xs.length) := hSl
      have hne2 : Hid (d ≠ s) := fun e => hne.out e.symm
      clear hln hpi
      go_wp2
      go_roundw
      case rel => exact ⟨d, s, wd * 2, D, S, rfl, rfl, by go_num, by omega, by omega, hne2.out, hnx.out, hDl.out, hD.out, hS.out, hX.out⟩
      case measure => simp [intOf]; omega
  · have hlt' : ¬ (wd : Int) < xs.length := by omega
    have hso := hide (hinv.out.sorted (by rw [hSl.out]; omega))
    go_wp2
    go_ret
    exact ⟨S, _, _, rfl, hS.out, hso.out, hX.out⟩
end Go.Proofs.Ybyabw
