/- Walks: spec.RefEncodeDict -/
import Derived.Test.YbyabwGreatEnc1
import Derived.Test.YbyabwGreatPlainEnc2
namespace Go.Proofs.YbyabwGreat
open Go.RowKit
set_option maxRecDepth 100000
set_option linter.unusedVariables false

set_option maxHeartbeats 1000000 in
theorem RefEncodeDict_no (xs : List Int) (a : Option Addr) (c : Nat) (w : World) (hl : 65536 < (xs.length : Int)) :
    Calls Yabn.prog 67 #[.slice a xs.length c] w (RetCol col0 w) := by
  go_enter Yabn.func67, Yabn.ntmps67
  go_wp2
  exact bodyPost_ret (v := .agg #[.int .i64 0, .slice none 0 0, .slice none 0 0, .slice none 0 0, .slice none 0 0]) (by simp [results, Yabn.results67, go_sem]) rfl (retCol_zero ((Ext.refl w).alloc _))

theorem map_idx_succ (xs d : List Int) (k : Nat) (h : k < xs.length) : (xs.take k).map (idx d) ++ [idx d (xs.getD k 0)] = (xs.take (k + 1)).map (idx d) := by
  rw [← take_succ_getD xs k h]
  simp

set_option maxHeartbeats 4000000 in
theorem RefEncodeDict_yes (xs : List Int) (a : Option Addr) (c : Nat) (w : World) (h : Hid (IntsAt w a xs)) (hl : ¬ 65536 < (xs.length : Int)) :
    Calls Yabn.prog 67 #[.slice a xs.length c] w (RetCol (encD xs) w) := by
  go_enter Yabn.func67, Yabn.ntmps67
  go_wp2
  go_loopw [3, 4] (fun v i wr => ∃ k : Nat, i = .int .i64 k ∧ k ≤ xs.length ∧ Hid (OwnI wr (w.heap.size + 1) 2 v (dictOf (xs.take k))) ∧ Hid (Ext w wr) ∧ Hid (Blk wr w.heap.size 69 colZ)) (fun _ i _ => xs.length - (intOf i).toNat)
  case atStart => exact ⟨0, rfl, by omega, OwnI.nil _ _ _, (Ext.refl w).alloc _, Blk.new w _ _⟩
  obtain ⟨k, rfl, hk, hown, hext, hbox⟩ := hrel
  obtain ⟨W, rfl⟩ : ∃ W, W = wr := ⟨_, rfl⟩
  by_cases hlt : k < xs.length
  · have hlt' : (k : Int) < xs.length := by omega
    obtain ⟨b, off, rfl, g1⟩ := (h.out.ext hext.out) k hlt
    have hsn := dictOf_snoc (xs.take k) (xs.getD k 0)
    rw [take_succ_getD xs k hlt] at hsn
    have hup := (dictOf_spec (xs.take k)).1
    have hdl := dictOf_len (xs.take k)
    have hln : (xs.take k).length = k := by simp; omega
    rw [hln] at hdl
    have hbs := hbox.out.lt
    have hb1 := cell_lt g1
    simp only at hb1
    generalize xs.getD k 0 = y at *
    generalize dictOf (xs.take k) = D at *
    obtain ⟨ad, cd, rfl, hf⟩ := hown.out.form
    replace hup := hide hup
    replace hsn := hide hsn
    have hdl2 : (D.length : Int) ≤ 65536 := by omega
    clear hln
    go_wp2
    go_loopw [6, 7] (fun p f wr => ∃ (m : Nat) (q : Bool), p = .int .i64 m ∧ f = .bool q ∧ m ≤ D.length ∧ Hid (∀ j, j < m → D.getD j 0 ≤ y) ∧ Hid (q = true ↔ ∃ j, j < m ∧ D.getD j 0 = y) ∧ wr = W) (fun p _ _ => D.length - (intOf p).toNat)
    case atStart => exact ⟨0, false, rfl, rfl, by omega, fun j hj => by omega, (by constructor <;> (intro h'; first | (cases h'; done) | (obtain ⟨j, hj, _⟩ := h'; omega))), rfl⟩
    obtain ⟨m, q, rfl, rfl, hm, hle, hq, rfl⟩ := hrel
    by_cases hgo : m < D.length ∧ D.getD m 0 ≤ y
    · obtain ⟨hmd, hmy⟩ := hgo
      have hmd' : (m : Int) < D.length := by omega
      obtain ⟨b2, off2, rfl, g2⟩ := (OwnI.ints hown.out) m hmd
      have hle' : ∀ j, j < m + 1 → D.getD j 0 ≤ y := by
        intro j hj
        by_cases hjm : j < m
        · exact hle.out j hjm
        · have : j = m := by omega
          subst this; exact hmy
      have hq1 : D.getD m 0 = y → (true = true ↔ ∃ j, j < m + 1 ∧ D.getD j 0 = y) := fun e => ⟨fun _ => ⟨m, by omega, e⟩, fun _ => rfl⟩
      have hq2 : ¬ D.getD m 0 = y → (q = true ↔ ∃ j, j < m + 1 ∧ D.getD j 0 = y) := by
        intro e
        rw [hq.out]
        constructor
        · rintro ⟨j, hj, he⟩; exact ⟨j, by omega, he⟩
        · rintro ⟨j, hj, he⟩
          by_cases hjm : j < m
          · exact ⟨j, hjm, he⟩
          · have : j = m := by omega
            subst this; exact absurd he e
      generalize D.getD m 0 = z at *
      replace hle' := hide hle'
      by_cases hzy : z = y
      · have hzb : (z == y) = true := by simp [hzy]
        replace hq1 := hide (hq1 hzy)
        clear hq2
        replace hzy := hide hzy
        go_wp2
        go_roundw
        case rel => exact ⟨m + 1, true, by go_num, rfl, by omega, hle', hq1, by first | rfl | trivial⟩
        case measure => simp [intOf]; omega
      · have hzb : (z == y) = false := by simp [hzy]
        replace hq2 := hide (hq2 hzy)
        clear hq1
        replace hzy := hide hzy
        go_wp2
        go_roundw
        case rel => exact ⟨m + 1, q, by go_num, rfl, by omega, hle', hq2, by first | rfl | trivial⟩
        case measure => simp [intOf]; omega
    have hgt : m < D.length → y < D.getD m 0 := fun h' => by
      have : ¬ D.getD m 0 ≤ y := fun e => hgo ⟨h', e⟩
      omega
    have hmem := mem_of_prefix hup.out hm hgt
    have hqm : q = true ↔ y ∈ D := by rw [hmem]; exact hq.out
    have hin1 : q = true → insD y D = D := fun e => insD_mem y D hup.out (hqm.1 e)
    have hin2 : q = false → insD y D = D.take m ++ y :: D.drop m := fun e => by
      refine insD_at y D m hup.out hm (fun j hj => ?_) hgt
      have h1 := hle.out j hj
      have h2 : ¬ D.getD j 0 = y := fun e' => by
        have := hqm.2 (hmem.2 ⟨j, hj, e'⟩)
        rw [e] at this; cases this
      omega
    replace hin1 := hide hin1
    replace hin2 := hide hin2
    clear hq hqm hmem hgt hle hup
    have hmi : (m : Int) ≤ D.length := by omega
    have hbase := hown.out.block
    by_cases hmd : m < D.length
    · obtain ⟨b2, off2, rfl, g2⟩ := (OwnI.ints hown.out) m hmd
      have hzy : ¬ D.getD m 0 ≤ y := fun e => hgo ⟨hmd, e⟩
      generalize D.getD m 0 = z at *
      have hzb : decide (z ≤ y) = false := by simpa using hzy
      have hmd' : (m : Int) < D.length := by omega
      clear hzy hgo
      replace hmd := hide hmd
      cases q with
      | true =>
        have hin := hin1.out rfl
        rw [hin] at hsn
        clear hin1 hin2 hin
        go_wp2
        go_roundw
        case rel => exact ⟨k + 1, by go_num, by omega, by rw [hsn.out]; exact hown, hext, hbox⟩
        case measure => simp [intOf]; omega
      | false =>
        have hin := hin2.out rfl
        rw [hin] at hsn
        clear hin1 hin2 hin
        have hDl : D.length < 2 ^ 39 := by omega
        go_wp2_with (at_builtin; refine app_i64 rfl rfl (w.heap.size + 1) (by simp; omega) _ D 0 rfl (hown.out.alloc _) wr.heap.size 1 (by rfl) (heap_alloc_new wr _) hDl ?_; intro g cap w2 hown2 hgr hor hlt2; replace hgr := hide hgr; replace hown2 := hide hown2; replace hor := hide hor)
        have hx2 : Hid (Ext w w2) := (hext.out.alloc _).grown hgr.out (fun q hq => by have := hbase q hq; omega)
        have hb2 : Hid (Blk w2 w.heap.size 69 colZ) := (hbox.out.alloc _).grown hgr.out (fun hq => by have := hbase _ hq; omega)
        rw [shiftL_end] at hown2
        have hgb := (OwnI.lt hown2.out).1
        clear hgr hor hlt2 hown hext hbox hbase
        go_loopw [8] (fun i wr => ∃ j : Nat, i = .int .i64 j ∧ m ≤ j ∧ j ≤ D.length ∧ Hid (OwnI wr (w.heap.size + 1) 2 (.slice (some ⟨g, 0, none⟩) (D.length + 1) cap) (shiftL D j)) ∧ Hid (Ext w wr) ∧ Hid (Blk wr w.heap.size 69 colZ)) (fun i _ => (intOf i).toNat - m)
        case atStart => exact ⟨D.length, by go_num, hm, by omega, hown2, hx2, hb2⟩
        clear hown2 hx2 hb2
        obtain ⟨j, rfl, hj1, hj2, hown, hext, hbox⟩ := hrel
        have hlen := length_shiftL D j hj2
        by_cases hjm : m < j
        · obtain ⟨i, rfl⟩ : ∃ i, j = i + 1 := ⟨j - 1, by omega⟩
          have hg1 := OwnI.cellAt hown.out i (by omega)
          have hg2 := OwnI.cellAt hown.out (i + 1) (by omega)
          have hg3 := OwnI.frozenAt hown.out hlen.symm (i + 1)
          rw [shiftL_get D i (by omega)] at hg1
          have hst := OwnI.stored hown.out hlen.symm (i + 1) (D.getD i 0)
          rw [shiftL_step D i (by omega)] at hst
          generalize (shiftL D (i + 1)).getD (i + 1) 0 = z2 at hg2
          generalize D.getD i 0 = z1 at *
          replace hst := hide hst
          have hib : (i : Int) < D.length := by omega
          have hjm' : (m : Int) < (i : Int) + 1 := by omega
          clear hlen hown
          go_wp2
          go_roundw
          case rel => exact ⟨i, by go_num, by omega, by omega, hst, hext.out.setCell (by simp; omega) _, hbox.out.setCell (by simp; omega) _⟩
          case measure => simp [intOf]; omega
        · have hjm2 : j = m := by omega
          subst hjm2
          have hg2 := OwnI.cellAt hown.out j (by omega)
          have hg3 := OwnI.frozenAt hown.out hlen.symm j
          have hst := OwnI.stored hown.out hlen.symm j y
          rw [shiftL_set D j (by omega)] at hst
          generalize (shiftL D j).getD j 0 = z2 at hg2
          have hjb : (j : Int) < (D.length : Int) + 1 := by omega
          replace hst := hide hst
          clear hlen hown
          go_wp2
          go_roundw
          case rel => exact ⟨k + 1, by go_num, by omega, by rw [hsn.out]; exact hst, hext.out.setCell (by simp; omega) _, hbox.out.setCell (by simp; omega) _⟩
          case measure => simp [intOf]; omega
    · have hmd' : ¬ (m : Int) < D.length := by omega
      clear hgo
      replace hmd := hide hmd
      cases q with
      | true =>
        have hin := hin1.out rfl
        rw [hin] at hsn
        clear hin1 hin2 hin
        go_wp2
        go_roundw
        case rel => exact ⟨k + 1, by go_num, by omega, by rw [hsn.out]; exact hown, hext, hbox⟩
        case measure => simp [intOf]; omega
      | false =>
        have hin := hin2.out rfl
        rw [hin] at hsn
        clear hin1 hin2 hin
        have hDl : D.length < 2 ^ 39 := by omega
        go_wp2_with (at_builtin; refine app_i64 rfl rfl (w.heap.size + 1) (by simp; omega) _ D 0 rfl (hown.out.alloc _) wr.heap.size 1 (by rfl) (heap_alloc_new wr _) hDl ?_; intro g cap w2 hown2 hgr hor hlt2; replace hgr := hide hgr; replace hown2 := hide hown2; replace hor := hide hor)
        have hx2 : Hid (Ext w w2) := (hext.out.alloc _).grown hgr.out (fun q hq => by have := hbase q hq; omega)
        have hb2 : Hid (Blk w2 w.heap.size 69 colZ) := (hbox.out.alloc _).grown hgr.out (fun hq => by have := hbase _ hq; omega)
        rw [shiftL_end] at hown2
        have hgb := (OwnI.lt hown2.out).1
        clear hgr hor hlt2 hown hext hbox hbase
        go_loopw [8] (fun i wr => ∃ j : Nat, i = .int .i64 j ∧ m ≤ j ∧ j ≤ D.length ∧ Hid (OwnI wr (w.heap.size + 1) 2 (.slice (some ⟨g, 0, none⟩) (D.length + 1) cap) (shiftL D j)) ∧ Hid (Ext w wr) ∧ Hid (Blk wr w.heap.size 69 colZ)) (fun i _ => (intOf i).toNat - m)
        case atStart => exact ⟨D.length, by go_num, hm, by omega, hown2, hx2, hb2⟩
        clear hown2 hx2 hb2
        obtain ⟨j, rfl, hj1, hj2, hown, hext, hbox⟩ := hrel
        have hlen := length_shiftL D j hj2
        by_cases hjm : m < j
        · exfalso; have := hmd.out; omega
        · have hjm2 : j = m := by omega
          subst hjm2
          have hg2 := OwnI.cellAt hown.out j (by omega)
          have hg3 := OwnI.frozenAt hown.out hlen.symm j
          have hst := OwnI.stored hown.out hlen.symm j y
          rw [shiftL_set D j (by omega)] at hst
          generalize (shiftL D j).getD j 0 = z2 at hg2
          have hjb : (j : Int) < (D.length : Int) + 1 := by omega
          replace hst := hide hst
          clear hlen hown
          go_wp2
          go_roundw
          case rel => exact ⟨k + 1, by go_num, by omega, by rw [hsn.out]; exact hst, hext.out.setCell (by simp; omega) _, hbox.out.setCell (by simp; omega) _⟩
          case measure => simp [intOf]; omega
  have e : xs.take k = xs := List.take_of_length_le (by omega)
  rw [e] at hown
  have hup := (dictOf_spec xs).1
  have hmemD := (dictOf_spec xs).2
  have hDl := dictOf_len xs
  generalize hD : dictOf xs = D at *
  replace hD := hide hD
  replace hup := hide hup
  replace hmemD := hide hmemD
  obtain ⟨ad, cd, rfl, _⟩ := hown.out.form
  have hDi : (D.length : Int) ≤ 65536 := by omega
  clear e
  go_wp2
  go_loopw [9, 10] (fun v i wr => ∃ k : Nat, i = .int .i64 k ∧ k ≤ xs.length ∧ Hid (OwnI wr W.heap.size 3 v ((xs.take k).map (idx D))) ∧ Hid (Ext W wr)) (fun _ i _ => xs.length - (intOf i).toNat)
  case atStart => exact ⟨0, rfl, by omega, OwnI.nil _ _ _, Ext.refl W⟩
  clear hlt hk
  obtain ⟨k, rfl, hk, hownc, hext2⟩ := hrel
  obtain ⟨W2, rfl⟩ : ∃ W2, W2 = wr := ⟨_, rfl⟩
  by_cases hlt : k < xs.length
  · have hlt' : (k : Int) < xs.length := by omega
    obtain ⟨b, off, rfl, g1⟩ := (h.out.ext (hext.out.trans hext2.out)) k hlt
    have hms := map_idx_succ xs D k hlt
    have hmem : xs.getD k 0 ∈ D := (hmemD.out _).2 (mem_of_getD hlt)
    obtain ⟨t, ht, hte⟩ := exists_at hmem
    have hidx := idx_eq hup.out ht hte
    have hln : ((xs.take k).map (idx D)).length < 2 ^ 39 := by simp; omega
    rw [hidx] at hms
    generalize xs.getD k 0 = y at *
    generalize (xs.take k).map (idx D) = cs at *
    replace hms := hide hms
    replace hte := hide hte
    replace hln := hide hln
    have hti : (t : Int) < D.length := by omega
    clear hmem hidx
    go_wp2
    go_loopw [11, 12, 13] (fun l r p wr => ∃ (lo hi : Nat), l = .int .i64 lo ∧ r = .int .i64 ((hi : Int) - 1) ∧ p = .int .i64 0 ∧ lo ≤ t ∧ t < hi ∧ hi ≤ D.length ∧ Hid (Ext W2 wr)) (fun l r _ _ => (intOf r - intOf l + 1).toNat)
    case atStart => exact ⟨0, D.length, rfl, by go_num, rfl, by omega, by omega, by omega, Ext.refl W2⟩
    obtain ⟨lo, hi, rfl, rfl, rfl, hlo, hhi, hhl, hext3⟩ := hrel
    have hmid : ∃ mid : Nat, (mid : Int) = (lo : Int) + ((hi : Int) - 1 - lo) / 2 ∧ lo ≤ mid ∧ mid < hi := ⟨lo + (hi - 1 - lo) / 2, by omega, by omega, by omega⟩
    obtain ⟨mid, hmide, hml, hmh⟩ := hmid
    obtain ⟨b2, off2, rfl, g2⟩ := ((OwnI.ints hown.out).ext (hext2.out.trans hext3.out)) mid (by omega)
    have g3 := hext3.out.cell g1
    have hll : (lo : Int) ≤ (hi : Int) - 1 := by omega
    have hlt3 : D.getD mid 0 < y ↔ mid < t := by rw [← hte.out]; exact up_lt_of hup.out (by omega) ht
    have heq3 : D.getD mid 0 = y ↔ mid = t := by
      constructor
      · intro e
        rw [← hte.out] at e
        rcases Nat.lt_trichotomy mid t with h' | h' | h'
        · have := Up.getD_lt hup.out h' ht; omega
        · exact h'
        · have := Up.getD_lt hup.out h' (by omega); omega
      · intro e; subst e; exact hte.out
    generalize D.getD mid 0 = z at *
    have hmi : (mid : Int) < D.length := by omega
    replace hmide := hide hmide
    replace hlt3 := hide hlt3
    replace heq3 := hide heq3
    go_wp2
    rw [← hmide.out]
    by_cases he : z = y
    · have heb : (z == y) = true := by simp [he]
      have hmt : mid = t := heq3.out.1 he
      subst hmt
      replace he := hide he
      clear hlt3 heq3 hmide
      refine Dr.region_text (by kernel_rfl) ?_
      go_wp2
      refine ⟨by rfl, ?_⟩
      have hsz : W.heap.size ≤ wr.heap.size := by have := hext2.out.size; have := hext3.out.size; omega
      go_wp2_with (at_builtin; refine app_int rfl rfl W.heap.size (by simp; omega) _ cs mid rfl ((OwnI.drew (hownc.out.ext hext3.out)).alloc _) wr.heap.size 1 (by rfl) (heap_alloc_new wr.drew _) hln.out ?_; intro g cap w2 hown2 hgr hor hlt2; replace hgr := hide hgr; replace hown2 := hide hown2; replace hor := hide hor)
      go_roundw
      case rel =>
        refine ⟨k + 1, by go_num, by omega, hown2.out.congr hms.out, ((hext2.out.trans hext3.out).drew.alloc _).grown hgr.out ?_⟩
        intro q hq; exact hownc.out.block q hq
      case measure => simp [intOf]; omega
    · have heb : (z == y) = false := by simp [he]
      have hmt : ¬ mid = t := fun e => he (heq3.out.2 e)
      by_cases hz : z < y
      · have hmt2 := hlt3.out.1 hz
        replace he := hide he
        clear hlt3 heq3 hmide
        refine Dr.region_text (by kernel_rfl) ?_
        go_wp2
        refine ⟨by rfl, ?_⟩
        go_wp2
        refine Dr.region_text (by kernel_rfl) ?_
        go_wp2
        refine ⟨by rfl, ?_⟩
        go_wp2
        go_roundw
        case rel => exact ⟨mid + 1, hi, by go_num, rfl, rfl, by omega, by omega, by omega, hext3.out.drew.drew⟩
        case measure => simp [intOf]; omega
      · have hzb : decide (z < y) = false := by simpa using hz
        have hmt2 : t < mid := by have : ¬ mid < t := fun e => hz (hlt3.out.2 e); omega
        replace he := hide he
        clear hlt3 heq3 hmide
        refine Dr.region_text (by kernel_rfl) ?_
        go_wp2
        refine ⟨by rfl, ?_⟩
        go_wp2
        refine Dr.region_text (by kernel_rfl) ?_
        go_wp2
        refine ⟨by rfl, ?_⟩
        go_wp2
        go_roundw
        case rel => exact ⟨lo, mid, rfl, by go_num, rfl, by omega, by omega, by omega, hext3.out.drew.drew⟩
        case measure => simp [intOf]; omega
  · have e : xs.take k = xs := List.take_of_length_le (by omega)
    rw [e] at hownc
    obtain ⟨ac, cc, rfl, _⟩ := hownc.out.form
    have hcl : (xs.map (idx D)).length = xs.length := by simp
    generalize hcs : xs.map (idx D) = cs at *
    replace hcs := hide hcs
    have hbox2 := hide (hbox.out.ext hext2.out)
    have hbs := hbox.out.lt
    clear e hcl
    go_wp2_with (refine wpList_storeB (vs := [.int .i64 1, .slice none 0 0, .slice ad D.length cd, .slice ac cs.length cc, .slice none 0 0]) rfl rfl (by rfl) (by rfl) hbox2.out size_col rfl (by simp [Value.oneCell']) ?_; intro w2 hb2 hgr; replace hgr := hide hgr; replace hb2 := hide hb2)
    refine bodyPost_ret (results_cell1 rfl (by rfl) hb2.out Yabn.underlying69 size_col) rfl ?_
    have hx2 : Ext w w2 := (hext.out.trans hext2.out).grown hgr.out (by intro k hk; cases hk; exact Nat.le_refl _)
    have ho2 := (hown.out.ext hext2.out).kept hgr.out (by omega)
    have ho3 := hownc.out.kept hgr.out hbs
    refine ⟨none, ad, ac, none, 0, cd, cc, 0, ?_, ⟨OwnI.nil _ _ _, ?_, ?_, OwnP.nil _ _ _⟩, hx2⟩
    · simp only [encD, hD.out, hcs.out]; rfl
    · simp only [encD, hD.out]; exact ho2.mono (by omega)
    · simp only [encD, hD.out, hcs.out]; exact ho3.mono hext.out.size

end Go.Proofs.YbyabwGreat
