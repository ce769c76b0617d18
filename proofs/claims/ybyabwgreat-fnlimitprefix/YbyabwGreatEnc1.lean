/- Walks: spec.RefEncodePlain, RefEncodeRLE -/
import Derived.Test.YbyabwGreatTab1
import Derived.Test.YbyabwGreatLaws2
import Derived.Test.YbyabwGreatPlainEnc
import Derived.Test.YbyabwGreatStruct
namespace Go.Proofs.YbyabwGreat
open Go.RowKit
set_option maxRecDepth 100000
set_option linter.unusedVariables false

/-- A new column, its rows the call's own. -/
structure OwnCol (w : World) (base : Nat) (c : Col) (a1 a2 a3 a4 : Option Addr) (c1 c2 c3 c4 : Nat) : Prop where
  plain : OwnI w base 2 (.slice a1 c.plain.length c1) c.plain
  dict : OwnI w base 2 (.slice a2 c.dict.length c2) c.dict
  codes : OwnI w base 3 (.slice a3 c.codes.length c3) c.codes
  runs : OwnP w base 132 (.slice a4 c.runs.length c4) c.runs

theorem OwnCol.colAt {w : World} {base : Nat} {c : Col} {a1 a2 a3 a4 : Option Addr} {c1 c2 c3 c4 : Nat} (h : OwnCol w base c a1 a2 a3 a4 c1 c2 c3 c4) : ColAt w c a1 a2 a3 a4 :=
  ⟨OwnI.ints h.plain, OwnI.ints h.dict, OwnI.ints h.codes, OwnP.pairs h.runs⟩
theorem OwnCol.mono {w : World} {base base' : Nat} {c : Col} {a1 a2 a3 a4 : Option Addr} {c1 c2 c3 c4 : Nat} (h : OwnCol w base c a1 a2 a3 a4 c1 c2 c3 c4) (hb : base' ≤ base) : OwnCol w base' c a1 a2 a3 a4 c1 c2 c3 c4 :=
  ⟨h.plain.mono hb, h.dict.mono hb, h.codes.mono hb, h.runs.mono hb⟩
theorem OwnCol.ext {w w' : World} {base : Nat} {c : Col} {a1 a2 a3 a4 : Option Addr} {c1 c2 c3 c4 : Nat} (h : OwnCol w base c a1 a2 a3 a4 c1 c2 c3 c4) (he : Ext w w') : OwnCol w' base c a1 a2 a3 a4 c1 c2 c3 c4 :=
  ⟨h.plain.ext he, h.dict.ext he, h.codes.ext he, h.runs.ext he⟩

theorem size_col : (Yabn.prog.info? 69).map (·.size) = some 5 := by kernel_rfl
abbrev colZ : List Value := [.int .i64 0, .slice none 0 0, .slice none 0 0, .slice none 0 0, .slice none 0 0]

def colV (c : Col) (a1 a2 a3 a4 : Option Addr) (c1 c2 c3 c4 : Nat) : Value := colArg c.kind c.plain c.dict c.codes c.runs a1 a2 a3 a4 c1 c2 c3 c4

/-- A call that hands back a new column. -/
def RetCol (c : Col) (w : World) : Ending → World → Prop := fun e w' => ∃ a1 a2 a3 a4 c1 c2 c3 c4, e = .returned (colV c a1 a2 a3 a4 c1 c2 c3 c4) ∧ OwnCol w' w.heap.size c a1 a2 a3 a4 c1 c2 c3 c4 ∧ Ext w w'

theorem retCol_zero {w w' : World} (h : Ext w w') : RetCol col0 w (.returned (.agg #[.int .i64 0, .slice none 0 0, .slice none 0 0, .slice none 0 0, .slice none 0 0])) w' :=
  ⟨none, none, none, none, 0, 0, 0, 0, rfl, ⟨OwnI.nil _ _ _, OwnI.nil _ _ _, OwnI.nil _ _ _, OwnP.nil _ _ _⟩, h⟩

theorem take_succ_getD (xs : List Int) (k : Nat) (h : k < xs.length) : xs.take k ++ [xs.getD k 0] = xs.take (k + 1) := by
  rw [List.take_succ_eq_append_getElem h]; simp [List.getElem?_eq_getElem h]

set_option maxHeartbeats 1000000 in
theorem RefEncodePlain_no (xs : List Int) (a : Option Addr) (c : Nat) (w : World) (hl : 65536 < (xs.length : Int)) :
    Calls Yabn.prog 66 #[.slice a xs.length c] w (RetCol col0 w) := by
  go_enter Yabn.func66, Yabn.ntmps66
  go_wp2
  exact bodyPost_ret (v := .agg #[.int .i64 0, .slice none 0 0, .slice none 0 0, .slice none 0 0, .slice none 0 0]) (by simp [results, Yabn.results66, go_sem]) rfl (retCol_zero ((Ext.refl w).alloc _))

set_option maxHeartbeats 1000000 in
theorem RefEncodePlain_yes (xs : List Int) (a : Option Addr) (c : Nat) (w : World) (h : Hid (IntsAt w a xs)) (hl : ¬ 65536 < (xs.length : Int)) :
    Calls Yabn.prog 66 #[.slice a xs.length c] w (RetCol (encP xs) w) := by
  go_enter Yabn.func66, Yabn.ntmps66
  go_wp2
  go_loopw [3, 4] (fun v i wr => ∃ k : Nat, i = .int .i64 k ∧ k ≤ xs.length ∧ Hid (OwnI wr (w.heap.size + 1) 2 v (xs.take k)) ∧ Hid (Ext w wr) ∧ Hid (Blk wr w.heap.size 69 colZ)) (fun _ i _ => xs.length - (intOf i).toNat)
  case atStart => exact ⟨0, rfl, by omega, OwnI.nil _ _ _, (Ext.refl w).alloc _, Blk.new w _ _⟩
  obtain ⟨k, rfl, hk, hown, hext, hbox⟩ := hrel
  by_cases hlt : k < xs.length
  · have hlt' : (k : Int) < xs.length := by omega
    obtain ⟨b, off, rfl, g1⟩ := (h.out.ext hext.out) k hlt
    have htk := take_succ_getD xs k hlt
    have hln : (xs.take k).length < 2 ^ 39 := by simp; omega
    have hbs := hbox.out.lt
    generalize xs.getD k 0 = y at *
    generalize xs.take k = ps at *
    replace htk := hide htk
    replace hln := hide hln
    have hb1 := cell_lt g1
    simp only at hb1
    go_wp2_with (at_builtin; refine app_i64 rfl rfl (w.heap.size + 1) (by simp; omega) _ ps y rfl (hown.out.alloc _) wr.heap.size 1 (by rfl) (heap_alloc_new wr _) hln.out ?_; intro g cap w2 hown2 hgr hor hlt2; replace hgr := hide hgr; replace hown2 := hide hown2; replace hor := hide hor)
    go_roundw
    case rel =>
      refine ⟨k + 1, by go_num, by omega, hown2.out.congr htk.out, (hext.out.alloc _).grown hgr.out ?_, (hbox.out.alloc _).grown hgr.out ?_⟩
      · intro q hq; have := hown.out.block q hq; omega
      · intro hq; have := hown.out.block _ hq; omega
    case measure => simp [intOf]; omega
  · have e : xs.take k = xs := List.take_of_length_le (by omega)
    rw [e] at hown
    obtain ⟨p, q, rfl, _⟩ := hown.out.form
    clear e
    go_wp2_with (refine wpList_storeB (vs := [.int .i64 0, .slice p xs.length q, .slice none 0 0, .slice none 0 0, .slice none 0 0]) rfl rfl (by rfl) (by rfl) hbox.out size_col rfl (by simp [Value.oneCell']) ?_; intro w2 hb2 hgr; replace hgr := hide hgr; replace hb2 := hide hb2)
    refine bodyPost_ret (results_cell1 rfl (by rfl) hb2.out Yabn.underlying69 size_col) rfl ?_
    have hx2 : Ext w w2 := hext.out.grown hgr.out (by intro k hk; cases hk; exact Nat.le_refl _)
    have ho2 : OwnI w2 (w.heap.size + 1) 2 (.slice p xs.length q) xs := hown.out.kept hgr.out (by omega)
    exact ⟨p, none, none, none, q, 0, 0, 0, rfl, ⟨ho2.mono (by omega), OwnI.nil _ _ _, OwnI.nil _ _ _, OwnP.nil _ _ _⟩, hx2⟩

set_option maxHeartbeats 1000000 in
theorem RefEncodeRLE_no (xs : List Int) (a : Option Addr) (c : Nat) (w : World) (hl : 65536 < (xs.length : Int)) :
    Calls Yabn.prog 68 #[.slice a xs.length c] w (RetCol col0 w) := by
  go_enter Yabn.func68, Yabn.ntmps68
  go_wp2
  exact bodyPost_ret (v := .agg #[.int .i64 0, .slice none 0 0, .slice none 0 0, .slice none 0 0, .slice none 0 0]) (by simp [results, Yabn.results68, go_sem]) rfl (retCol_zero ((Ext.refl w).alloc _))

set_option maxHeartbeats 1000000 in
theorem RefEncodeRLE_yes (xs : List Int) (a : Option Addr) (c : Nat) (w : World) (h : Hid (IntsAt w a xs)) (hl : ¬ 65536 < (xs.length : Int)) :
    Calls Yabn.prog 68 #[.slice a xs.length c] w (RetCol (encR xs) w) := by
  go_enter Yabn.func68, Yabn.ntmps68
  go_wp2
  go_loopw [3, 4] (fun v i wr => ∃ k : Nat, i = .int .i64 k ∧ k ≤ xs.length ∧ Hid (OwnP wr (w.heap.size + 1) 132 v (rle (xs.take k))) ∧ Hid (Ext w wr) ∧ Hid (Blk wr w.heap.size 69 colZ)) (fun _ i _ => xs.length - (intOf i).toNat)
  case atStart => exact ⟨0, rfl, by omega, OwnP.nil _ _ _, (Ext.refl w).alloc _, Blk.new w _ _⟩
  obtain ⟨k, rfl, hk, hown, hext, hbox⟩ := hrel
  by_cases hlt : k < xs.length
  · have hlt' : (k : Int) < xs.length := by omega
    obtain ⟨b, off, rfl, g1⟩ := (h.out.ext hext.out) k hlt
    have hsn := rle_snoc (xs.take k) (xs.getD k 0)
    rw [take_succ_getD xs k hlt] at hsn
    have hok := rle_ok (xs.take k)
    have hln : (xs.take k).length = k := by simp; omega
    rw [hln] at hok
    have hbs := hbox.out.lt
    have hb1 := cell_lt g1
    simp only at hb1
    generalize xs.getD k 0 = y at *
    generalize rle (xs.take k) = rs at *
    have hrl := hok.len
    by_cases hcond : rs ≠ [] ∧ (rs.getD (rs.length - 1) (0, 0)).1 = y
    · have hpos : 0 < rs.length := List.length_pos_iff.2 hcond.1
      have hposi : (0 : Int) < rs.length := by omega
      obtain ⟨ar, cr, rfl, hf⟩ := hown.out.form
      obtain ⟨g, rfl⟩ : ∃ g, ar = some ⟨g, 0, none⟩ := by
        rcases hf with ⟨rfl, _⟩ | hf
        · have := (OwnP.pairs hown.out) 0 hpos
          obtain ⟨_, _, e, _⟩ := this
          cases e
        · exact hf
      have hlast := (OwnP.pairs hown.out).at (rs.length - 1) (by omega)
      have hst := fun u => OwnP.stored2 hown.out rfl (rs.length - 1) (by omega) u
      have hfz := OwnP.frozenAt hown.out rfl ((rs.length - 1) * 2 + 1)
      have hcb := hok.pos (rs.length - 1) (by omega)
      have hset : rleStep rs y = rs.set (rs.length - 1) (y, (rs.getD (rs.length - 1) (0, 0)).2 + 1) := by unfold rleStep; rw [if_pos hcond]
      rw [hset] at hsn
      simp only [Nat.zero_add] at hlast
      rw [hcond.2] at hlast hst
      have hgl := (OwnP.lt hown.out)
      have hlm : ((rs.length : Int) - 1).toNat = rs.length - 1 := by omega
      have hlm2 : (rs.length : Int) - 1 = ((rs.length - 1 : Nat) : Int) := by omega
      generalize (rs.getD (rs.length - 1) (0, 0)).2 = z at *
      clear hcond hset hf hok
      replace hst := hide (hst (z + 1))
      replace hsn := hide hsn
      replace hln := hide hln
      obtain ⟨hl1, hl2⟩ := hlast
      generalize hm : rs.length - 1 = m at *
      have hrm : rs.length = m + 1 := by omega
      have hmb : (m : Int) < 65536 := by omega
      rw [hrm] at hst
      rw [hrm]
      clear hm hlm hlm2 hown hpos hposi hrl hrm
      have hzb : z < 65537 := by omega
      have hz0 : 0 ≤ z := by omega
      go_wp2
      refine Dr.region_text (by kernel_rfl) ?_
      go_wp2
      refine ⟨by rfl, ?_⟩
      go_wp2
      go_roundw
      case rel => exact ⟨k + 1, by go_num, by omega, by rw [hsn.out]; exact hst.out.drew, hext.out.drew.setCell (by simp; omega) _, (Blk.drew hbox.out).setCell (by simp; omega) _⟩
      case measure => simp [intOf]; omega
    · have hset : rleStep rs y = rs ++ [(y, 1)] := by unfold rleStep; rw [if_neg hcond]
      rw [hset] at hsn
      have hrl2 : rs.length < 2 ^ 39 := by omega
      replace hsn := hide hsn
      replace hrl2 := hide hrl2
      replace hok := hide hok
      clear hset
      by_cases h0 : rs.length = 0
      · obtain rfl : rs = [] := List.eq_nil_of_length_eq_zero h0
        obtain ⟨ar, cr, rfl, hf⟩ := hown.out.form
        clear hcond hf
        simp only [List.length_nil] at *
        go_wp2
        refine Dr.region_text (by kernel_rfl) ?_
        go_wp2
        refine ⟨by rfl, ?_⟩
        go_wp2_with (at_builtin; refine app_run rfl rfl (w.heap.size + 1) (by simp; omega) _ [] y 1 rfl ((OwnP.drew hown.out).alloc _) wr.heap.size 1 (by rfl) (heap_alloc_new wr.drew _) hrl2.out ?_; intro g cap w2 hown2 hgr hor hlt2; replace hgr := hide hgr; replace hown2 := hide hown2; replace hor := hide hor)
        go_roundw
        case rel =>
          refine ⟨k + 1, by go_num, by omega, by rw [hsn.out]; exact hown2, (hext.out.drew.alloc _).grown hgr.out ?_, ((Blk.drew hbox.out).alloc _).grown hgr.out ?_⟩
          · intro q hq; have := hown.out.block q hq; omega
          · intro hq; have := hown.out.block _ hq; omega
        case measure => simp [intOf]; omega
      · have hpos : 0 < rs.length := by omega
        have hne : ¬ (rs.getD (rs.length - 1) (0, 0)).1 = y := fun e => hcond ⟨List.length_pos_iff.1 hpos, e⟩
        obtain ⟨ar, cr, rfl, hf⟩ := hown.out.form
        obtain ⟨g, rfl⟩ : ∃ g, ar = some ⟨g, 0, none⟩ := by
          rcases hf with ⟨rfl, _⟩ | hf
          · have := (OwnP.pairs hown.out) 0 hpos
            obtain ⟨_, _, e, _⟩ := this
            cases e
          · exact hf
        have hlast := ((OwnP.pairs hown.out).at (rs.length - 1) (by omega)).1
        simp only [Nat.zero_add] at hlast
        generalize (rs.getD (rs.length - 1) (0, 0)).1 = z at *
        have hneb : (z == y) = false := by simpa using hne
        clear hcond hf hne
        have hgl := (OwnP.lt hown.out)
        generalize hm : rs.length - 1 = m at *
        have hrm : rs.length = m + 1 := by omega
        have hown' := hown
        rw [hrm] at hown
        have hmb : (m : Int) < 65536 := by omega
        replace hown' := hide hown'
        replace hrm' := hide hrm
        rw [hrm]
        clear hm hpos h0 hrl hrm hln
        go_wp2
        refine Dr.region_text (by kernel_rfl) ?_
        go_wp2
        refine ⟨by rfl, ?_⟩
        go_wp2_with (at_builtin; refine app_run rfl rfl (w.heap.size + 1) (by simp; omega) _ rs y 1 rfl ((OwnP.drew hown.out).alloc _) wr.heap.size 1 (by rfl) (heap_alloc_new wr.drew _) hrl2.out ?_; intro g2 cap w2 hown2 hgr hor hlt2; replace hgr := hide hgr; replace hown2 := hide hown2; replace hor := hide hor)
        go_roundw
        case rel =>
          refine ⟨k + 1, by go_num, by omega, by rw [hsn.out]; exact hown2, (hext.out.drew.alloc _).grown hgr.out ?_, ((Blk.drew hbox.out).alloc _).grown hgr.out ?_⟩
          · intro q hq; have := hown.out.block q hq; omega
          · intro hq; have := hown.out.block _ hq; omega
        case measure => simp [intOf]; omega
  · have e : xs.take k = xs := List.take_of_length_le (by omega)
    rw [e] at hown
    obtain ⟨p, q, rfl, _⟩ := hown.out.form
    clear e
    generalize hrs : rle xs = rs at *
    replace hrs := hide hrs
    go_wp2_with (refine wpList_storeB (vs := [.int .i64 2, .slice none 0 0, .slice none 0 0, .slice none 0 0, .slice p rs.length q]) rfl rfl (by rfl) (by rfl) hbox.out size_col rfl (by simp [Value.oneCell']) ?_; intro w2 hb2 hgr; replace hgr := hide hgr; replace hb2 := hide hb2)
    refine bodyPost_ret (results_cell1 rfl (by rfl) hb2.out Yabn.underlying69 size_col) rfl ?_
    have hx2 : Ext w w2 := hext.out.grown hgr.out (by intro k hk; cases hk; exact Nat.le_refl _)
    have ho2 := hown.out.kept hgr.out (by omega)
    refine ⟨none, none, none, p, 0, 0, 0, q, ?_, ⟨OwnI.nil _ _ _, OwnI.nil _ _ _, OwnI.nil _ _ _, ?_⟩, hx2⟩
    · simp only [encR, hrs.out]; rfl
    · simp only [encR, hrs.out]; exact ho2.mono (by omega)

end Go.Proofs.YbyabwGreat
