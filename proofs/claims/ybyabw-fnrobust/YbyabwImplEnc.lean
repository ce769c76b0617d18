/- Walks: impl.EncodePlain, impl.EncodeRLE -/
import Derived.Test.YbyabwColL
import Derived.Test.YbyabwEnc3
namespace Go.Proofs.Ybyabw
open Go.RowKit
set_option maxRecDepth 100000
set_option linter.unusedVariables false

theorem retC_zero {w w' : World} (h : Ext w w') : RetC 27 col0 w (.returned (.agg #[.int .i64 0, .slice none 0 0, .slice none 0 0, .slice none 0 0, .slice none 0 0])) w' :=
  ⟨none, none, none, none, 0, 0, 0, 0, rfl, OwnC.make (OwnI.nil _ _ _) (OwnI.nil _ _ _) (OwnI.nil _ _ _) (OwnP.nil _ _ _) (apart_nil _ _ _) (Nat.le_refl _), h⟩

set_option maxHeartbeats 1000000 in
theorem EncodePlain_no (xs : List Int) (a : Option Addr) (c : Nat) (w : World) (hl : 65536 < (xs.length : Int)) :
    Calls Yabn.prog 91 #[.slice a xs.length c] w (RetC 27 col0 w) := by
  go_enter Yabn.func91, Yabn.ntmps91
  go_wp2
  exact bodyPost_ret (v := .agg #[.int .i64 0, .slice none 0 0, .slice none 0 0, .slice none 0 0, .slice none 0 0]) (by simp [results, Yabn.results91, go_sem]) rfl (retC_zero ((Ext.refl w).alloc _))

set_option maxHeartbeats 1000000 in
theorem EncodeRLE_no (xs : List Int) (a : Option Addr) (c : Nat) (w : World) (hl : 65536 < (xs.length : Int)) :
    Calls Yabn.prog 93 #[.slice a xs.length c] w (RetC 27 col0 w) := by
  go_enter Yabn.func93, Yabn.ntmps93
  go_wp2
  exact bodyPost_ret (v := .agg #[.int .i64 0, .slice none 0 0, .slice none 0 0, .slice none 0 0, .slice none 0 0]) (by simp [results, Yabn.results93, go_sem]) rfl (retC_zero ((Ext.refl w).alloc _))

set_option maxHeartbeats 1000000 in
theorem EncodeDict_no (xs : List Int) (a : Option Addr) (c : Nat) (w : World) (hl : 65536 < (xs.length : Int)) :
    Calls Yabn.prog 92 #[.slice a xs.length c] w (RetC 27 col0 w) := by
  go_enter Yabn.func92, Yabn.ntmps92
  go_wp2
  exact bodyPost_ret (v := .agg #[.int .i64 0, .slice none 0 0, .slice none 0 0, .slice none 0 0, .slice none 0 0]) (by simp [results, Yabn.results92, go_sem]) rfl (retC_zero ((Ext.refl w).alloc _))


set_option maxHeartbeats 1000000 in
theorem EncodePlain_yes (xs : List Int) (a : Option Addr) (c : Nat) (w : World) (h : Hid (IntsAt w a xs)) (hl : ¬ 65536 < (xs.length : Int)) :
    Calls Yabn.prog 91 #[.slice a xs.length c] w (RetC 27 (encP xs) w) := by
  have hnew := hide (Blk.new w #[.int .i64 0, .slice none 0 0, .slice none 0 0, .slice none 0 0, .slice none 0 0] 29)
  go_enter Yabn.func91, Yabn.ntmps91
  go_wp2_with (first
    | (at_make; refine mk_i64 rfl rfl xs.length rfl rfl (by omega) (w.heap.size + 1) (by simp) ?_; intro w1 hown hx1 hsz; have hb1 := hide (hnew.out.ext hx1); replace hown := hide hown)
    | (refine wpList_cpI rfl rfl 2 Yabn.underlying23 size_int64 (w.heap.size + 1) (w.heap.size + 1) xs.length xs.length (List.replicate xs.length 0) xs (by rfl) (by simp) (unhide hown) a xs.length c (by rfl) rfl (h.out.ext (((Ext.refl w).alloc _).trans hx1)) (by simp) ?_; intro w2 hown2 hgr; have hb2 := hide (hb1.out.grown hgr (by simp)); replace hown2 := hide hown2; replace hgr := hide hgr)
    | (refine wpList_storeB (vs := [.int .i64 0, .slice (some ⟨w.heap.size + 1, 0, none⟩) xs.length xs.length, .slice none 0 0, .slice none 0 0, .slice none 0 0]) rfl rfl (by rfl) (by rfl) hb2.out size_col rfl (by simp [Value.oneCell']) ?_; intro w3 hb3 hgr3; replace hgr3 := hide hgr3; replace hb3 := hide hb3))
  refine bodyPost_ret (results_cell1 rfl (by rfl) hb3.out Yabn.underlying29 size_col) rfl ?_
  have hx3 : Ext w w3 := ((((Ext.refl w).alloc _).trans hx1).grown hgr.out (by intro k hk; cases hk; omega)).grown hgr3.out (by intro k hk; cases hk; exact Nat.le_refl _)
  have ho3 := hown2.out.kept hgr3.out (by omega)
  exact ⟨_, none, none, none, _, 0, 0, 0, rfl, OwnC.make (ho3.mono (by omega)) (OwnI.nil _ _ _) (OwnI.nil _ _ _) (OwnP.nil _ _ _) (apart_nil _ _ _).symm (Nat.le_refl _), hx3⟩

set_option maxHeartbeats 1000000 in
theorem EncodeRLE_yes (xs : List Int) (a : Option Addr) (c : Nat) (w : World) (h : Hid (IntsAt w a xs)) (hl : ¬ 65536 < (xs.length : Int)) :
    Calls Yabn.prog 93 #[.slice a xs.length c] w (RetC 27 (encR xs) w) := by
  go_enter Yabn.func93, Yabn.ntmps93
  go_wp2
  go_loopw [3, 4] (fun v i wr => ∃ k : Nat, i = .int .i64 k ∧ k ≤ xs.length ∧ Hid (OwnP wr (w.heap.size + 1) 27 v (rle (xs.take k))) ∧ Hid (Ext w wr) ∧ Hid (Blk wr w.heap.size 29 colZ)) (fun _ i _ => xs.length - (intOf i).toNat)
  case atStart => exact ⟨0, rfl, by omega, OwnP.nil _ _ _, (Ext.refl w).alloc _, Blk.new w _ _⟩
  obtain ⟨k, rfl, hk, hown, hext, hbox⟩ := hrel
  by_cases hlt : k < xs.length
  · have hlt' : (k : Int) < xs.length := by omega
    obtain ⟨b, off, rfl, g1⟩ := (h.out.ext hext.out) k hlt
    have hsn := rle_snoc (xs.take k) (xs.getD k 0)
    rw [take_succ_getD xs k hlt] at hsn
    have hok := rle_ok (xs.take k)
    have hln : (xs.take k).length = k := by simp; omega
    rw [hln] at hok
    have hbs := hbox.out.lt
    have hb1 := cell_lt g1
    simp only at hb1
    generalize xs.getD k 0 = y at *
    generalize rle (xs.take k) = rs at *
    have hrl := hok.len
    by_cases hcond : rs ≠ [] ∧ (rs.getD (rs.length - 1) (0, 0)).1 = y
    · have hpos : 0 < rs.length := List.length_pos_iff.2 hcond.1
      have hposi : (0 : Int) < rs.length := by omega
      obtain ⟨ar, cr, rfl, hf⟩ := hown.out.form
      obtain ⟨g, rfl⟩ : ∃ g, ar = some ⟨g, 0, none⟩ := by
        rcases hf with ⟨rfl, _⟩ | hf
        · have := (OwnP.pairs hown.out) 0 hpos
          obtain ⟨_, _, e, _⟩ := this
          cases e
        · exact hf
      have hlast := (OwnP.pairs hown.out).at (rs.length - 1) (by omega)
      have hst := fun u => OwnP.stored2 hown.out rfl (rs.length - 1) (by omega) u
      have hfz := OwnP.frozenAt hown.out rfl ((rs.length - 1) * 2 + 1)
      have hcb := hok.pos (rs.length - 1) (by omega)
      have hset : rleStep rs y = rs.set (rs.length - 1) (y, (rs.getD (rs.length - 1) (0, 0)).2 + 1) := by unfold rleStep; rw [if_pos hcond]
      rw [hset] at hsn
      simp only [Nat.zero_add] at hlast
      rw [hcond.2] at hlast hst
      have hgl := (OwnP.lt hown.out)
      have hlm : ((rs.length : Int) - 1).toNat = rs.length - 1 := by omega
      have hlm2 : (rs.length : Int) - 1 = ((rs.length - 1 : Nat) : Int) := by omega
      generalize (rs.getD (rs.length - 1) (0, 0)).2 = z at *
      clear hcond hset hf hok
      replace hst := hide (hst (z + 1))
      replace hsn := hide hsn
      replace hln := hide hln
      obtain ⟨hl1, hl2⟩ := hlast
      generalize hm : rs.length - 1 = m at *
      have hrm : rs.length = m + 1 := by omega
      have hmb : (m : Int) < 65536 := by omega
      rw [hrm] at hst
      rw [hrm]
      clear hm hlm hlm2 hown hpos hposi hrl hrm
      have hzb : z < 65537 := by omega
      have hz0 : 0 ≤ z := by omega
      go_wp2
      refine Dr.region_text (by kernel_rfl) ?_
      go_wp2
      refine ⟨by rfl, ?_⟩
      go_wp2
      go_roundw
      case rel => exact ⟨k + 1, by go_num, by omega, by rw [hsn.out]; exact hst.out.drew, hext.out.drew.setCell (by simp; omega) _, (Blk.drew hbox.out).setCell (by simp; omega) _⟩
      case measure => simp [intOf]; omega
    · have hset : rleStep rs y = rs ++ [(y, 1)] := by unfold rleStep; rw [if_neg hcond]
      rw [hset] at hsn
      have hrl2 : rs.length < 2 ^ 39 := by omega
      replace hsn := hide hsn
      replace hrl2 := hide hrl2
      replace hok := hide hok
      clear hset
      by_cases h0 : rs.length = 0
      · obtain rfl : rs = [] := List.eq_nil_of_length_eq_zero h0
        obtain ⟨ar, cr, rfl, hf⟩ := hown.out.form
        clear hcond hf
        simp only [List.length_nil] at *
        go_wp2
        refine Dr.region_text (by kernel_rfl) ?_
        go_wp2
        refine ⟨by rfl, ?_⟩
        go_wp2_with (at_builtin; refine app_run rfl rfl (w.heap.size + 1) (by simp; omega) _ [] y 1 rfl ((OwnP.drew hown.out).alloc _) wr.heap.size 1 (by rfl) (heap_alloc_new wr.drew _) hrl2.out ?_; intro g cap w2 hown2 hgr hor hlt2; replace hgr := hide hgr; replace hown2 := hide hown2; replace hor := hide hor)
        go_roundw
        case rel =>
          refine ⟨k + 1, by go_num, by omega, by rw [hsn.out]; exact hown2, (hext.out.drew.alloc _).grown hgr.out ?_, ((Blk.drew hbox.out).alloc _).grown hgr.out ?_⟩
          · intro q hq; have := hown.out.block q hq; omega
          · intro hq; have := hown.out.block _ hq; omega
        case measure => simp [intOf]; omega
      · have hpos : 0 < rs.length := by omega
        have hne : ¬ (rs.getD (rs.length - 1) (0, 0)).1 = y := fun e => hcond ⟨List.length_pos_iff.1 hpos, e⟩
        obtain ⟨ar, cr, rfl, hf⟩ := hown.out.form
        obtain ⟨g, rfl⟩ : ∃ g, ar = some ⟨g, 0, none⟩ := by
          rcases hf with ⟨rfl, _⟩ | hf
          · have := (OwnP.pairs hown.out) 0 hpos
            obtain ⟨_, _, e, _⟩ := this
            cases e
          · exact hf
        have hlast := ((OwnP.pairs hown.out).at (rs.length - 1) (by omega)).1
        simp only [Nat.zero_add] at hlast
        generalize (rs.getD (rs.length - 1) (0, 0)).1 = z at *
        have hneb : (z == y) = false := by simpa using hne
        clear hcond hf hne
        have hgl := (OwnP.lt hown.out)
        generalize hm : rs.length - 1 = m at *
        have hrm : rs.length = m + 1 := by omega
        have hown' := hown
        rw [hrm] at hown
        have hmb : (m : Int) < 65536 := by omega
        replace hown' := hide hown'
        replace hrm' := hide hrm
        rw [hrm]
        clear hm hpos h0 hrl hrm hln
        go_wp2
        refine Dr.region_text (by kernel_rfl) ?_
        go_wp2
        refine ⟨by rfl, ?_⟩
        go_wp2_with (at_builtin; refine app_run rfl rfl (w.heap.size + 1) (by simp; omega) _ rs y 1 rfl ((OwnP.drew hown.out).alloc _) wr.heap.size 1 (by rfl) (heap_alloc_new wr.drew _) hrl2.out ?_; intro g2 cap w2 hown2 hgr hor hlt2; replace hgr := hide hgr; replace hown2 := hide hown2; replace hor := hide hor)
        go_roundw
        case rel =>
          refine ⟨k + 1, by go_num, by omega, by rw [hsn.out]; exact hown2, (hext.out.drew.alloc _).grown hgr.out ?_, ((Blk.drew hbox.out).alloc _).grown hgr.out ?_⟩
          · intro q hq; have := hown.out.block q hq; omega
          · intro hq; have := hown.out.block _ hq; omega
        case measure => simp [intOf]; omega
  · have e : xs.take k = xs := List.take_of_length_le (by omega)
    rw [e] at hown
    obtain ⟨p, q, rfl, _⟩ := hown.out.form
    clear e
    generalize hrs : rle xs = rs at *
    replace hrs := hide hrs
    go_wp2_with (refine wpList_storeB (vs := [.int .i64 2, .slice none 0 0, .slice none 0 0, .slice none 0 0, .slice p rs.length q]) rfl rfl (by rfl) (by rfl) hbox.out size_col rfl (by simp [Value.oneCell']) ?_; intro w2 hb2 hgr; replace hgr := hide hgr; replace hb2 := hide hb2)
    refine bodyPost_ret (results_cell1 rfl (by rfl) hb2.out Yabn.underlying29 size_col) rfl ?_
    have hx2 : Ext w w2 := hext.out.grown hgr.out (by intro k hk; cases hk; exact Nat.le_refl _)
    have ho2 := hown.out.kept hgr.out (by omega)
    have hcE : encR xs = ⟨2, [], [], [], rs⟩ := by simp only [encR, hrs.out]
    rw [hcE]
    exact ⟨none, none, none, p, 0, 0, 0, q, rfl, OwnC.make (OwnI.nil _ _ _) (OwnI.nil _ _ _) (OwnI.nil _ _ _) (ho2.mono (by omega)) (apart_nil _ _ _) (Nat.le_refl _), hx2⟩

end Go.Proofs.Ybyabw
