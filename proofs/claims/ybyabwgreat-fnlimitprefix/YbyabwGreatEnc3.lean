/- Walks: spec.RefEncode -/
import Derived.Test.YbyabwGreatEnc2
namespace Go.Proofs.YbyabwGreat
open Go.RowKit
set_option maxRecDepth 100000
set_option linter.unusedVariables false

def encOf (kind : Int) (xs : List Int) : Col :=
  if 65536 < xs.length then col0 else if kind = 0 then encP xs else if kind = 1 then encD xs else if kind = 2 then encR xs else col0

theorem RefEncodePlain (xs : List Int) (a : Option Addr) (c : Nat) (w : World) (h : IntsAt w a xs) : Calls Yabn.prog 66 #[.slice a xs.length c] w (RetCol (encOf 0 xs) w) := by
  unfold encOf
  by_cases hl : 65536 < xs.length
  · rw [if_pos hl]; exact RefEncodePlain_no xs a c w (by omega)
  · rw [if_neg hl]; exact RefEncodePlain_yes xs a c w h (by omega)
theorem RefEncodeDict (xs : List Int) (a : Option Addr) (c : Nat) (w : World) (h : IntsAt w a xs) : Calls Yabn.prog 67 #[.slice a xs.length c] w (RetCol (encOf 1 xs) w) := by
  unfold encOf
  by_cases hl : 65536 < xs.length
  · rw [if_pos hl]; exact RefEncodeDict_no xs a c w (by omega)
  · rw [if_neg hl]; exact RefEncodeDict_yes xs a c w h (by omega)
theorem RefEncodeRLE (xs : List Int) (a : Option Addr) (c : Nat) (w : World) (h : IntsAt w a xs) : Calls Yabn.prog 68 #[.slice a xs.length c] w (RetCol (encOf 2 xs) w) := by
  unfold encOf
  by_cases hl : 65536 < xs.length
  · rw [if_pos hl]; exact RefEncodeRLE_no xs a c w (by omega)
  · rw [if_neg hl]; exact RefEncodeRLE_yes xs a c w h (by omega)

theorem OwnCol.kept {w w' : World} {base b : Nat} {c : Col} {a1 a2 a3 a4 : Option Addr} {c1 c2 c3 c4 : Nat} (h : OwnCol w base c a1 a2 a3 a4 c1 c2 c3 c4) (hg : w.grownBy w' (some b)) (hb : b < base) : OwnCol w' base c a1 a2 a3 a4 c1 c2 c3 c4 :=
  ⟨h.plain.kept hg hb, h.dict.kept hg hb, h.codes.kept hg hb, h.runs.kept hg hb⟩

/-- The cells of a column. -/
def colCells (c : Col) (a1 a2 a3 a4 : Option Addr) (c1 c2 c3 c4 : Nat) : List Value := [.int .i64 c.kind, .slice a1 c.plain.length c1, .slice a2 c.dict.length c2, .slice a3 c.codes.length c3, .slice a4 c.runs.length c4]
theorem colCells_one (c : Col) (a1 a2 a3 a4 : Option Addr) (c1 c2 c3 c4 : Nat) : ∀ u ∈ colCells c a1 a2 a3 a4 c1 c2 c3 c4, u.oneCell' = true := by simp [colCells, Value.oneCell']

set_option maxHeartbeats 1000000 in
theorem RefEncode_0 (xs : List Int) (a : Option Addr) (c : Nat) (w : World) (h : Hid (IntsAt w a xs)) :
    Calls Yabn.prog 27 #[.slice a xs.length c, .int .i64 0] w (RetCol (encOf 0 xs) w) := by
  have hnew := hide (Blk.new w #[.int .i64 0, .slice none 0 0, .slice none 0 0, .slice none 0 0, .slice none 0 0] 69)
  go_enter Yabn.func27, Yabn.ntmps27
  go_wp2_with (first
    | (go_at_call 66; refine (RefEncodePlain xs a c _ (h.out.ext ((Ext.refl w).alloc _))).mono ?_; rintro e w1 ⟨a1, a2, a3, a4, c1, c2, c3, c4, rfl, ho, hx⟩; have hb := hide (hnew.out.ext hx); replace ho := hide ho; replace hx := hide hx)
    | (refine wpList_storeB (vs := colCells (encOf 0 xs) a1 a2 a3 a4 c1 c2 c3 c4) rfl rfl (by rfl) (by rfl) hb.out size_col rfl (colCells_one _ _ _ _ _ _ _ _ _) ?_; intro w2 hb2 hgr; replace hgr := hide hgr; replace hb2 := hide hb2))
  refine bodyPost_ret (results_cell1 rfl (by rfl) hb2.out Yabn.underlying69 size_col) rfl ?_
  have hx2 : Ext w w2 := (((Ext.refl w).alloc _).trans hx.out).grown hgr.out (by intro k hk; cases hk; exact Nat.le_refl _)
  have ho2 := ho.out.kept hgr.out (by simp)
  exact ⟨a1, a2, a3, a4, c1, c2, c3, c4, rfl, ho2.mono (by simp), hx2⟩

set_option maxHeartbeats 1000000 in
theorem RefEncode_1 (xs : List Int) (a : Option Addr) (c : Nat) (w : World) (h : Hid (IntsAt w a xs)) :
    Calls Yabn.prog 27 #[.slice a xs.length c, .int .i64 1] w (RetCol (encOf 1 xs) w) := by
  have hnew := hide (Blk.new w #[.int .i64 0, .slice none 0 0, .slice none 0 0, .slice none 0 0, .slice none 0 0] 69)
  go_enter Yabn.func27, Yabn.ntmps27
  go_wp2_with (first
    | (go_at_call 67; refine (RefEncodeDict xs a c _ (h.out.ext ((Ext.refl w).alloc _))).mono ?_; rintro e w1 ⟨a1, a2, a3, a4, c1, c2, c3, c4, rfl, ho, hx⟩; have hb := hide (hnew.out.ext hx); replace ho := hide ho; replace hx := hide hx)
    | (refine wpList_storeB (vs := colCells (encOf 1 xs) a1 a2 a3 a4 c1 c2 c3 c4) rfl rfl (by rfl) (by rfl) hb.out size_col rfl (colCells_one _ _ _ _ _ _ _ _ _) ?_; intro w2 hb2 hgr; replace hgr := hide hgr; replace hb2 := hide hb2))
  refine bodyPost_ret (results_cell1 rfl (by rfl) hb2.out Yabn.underlying69 size_col) rfl ?_
  have hx2 : Ext w w2 := (((Ext.refl w).alloc _).trans hx.out).grown hgr.out (by intro k hk; cases hk; exact Nat.le_refl _)
  have ho2 := ho.out.kept hgr.out (by simp)
  exact ⟨a1, a2, a3, a4, c1, c2, c3, c4, rfl, ho2.mono (by simp), hx2⟩

set_option maxHeartbeats 1000000 in
theorem RefEncode_2 (xs : List Int) (a : Option Addr) (c : Nat) (w : World) (h : Hid (IntsAt w a xs)) :
    Calls Yabn.prog 27 #[.slice a xs.length c, .int .i64 2] w (RetCol (encOf 2 xs) w) := by
  have hnew := hide (Blk.new w #[.int .i64 0, .slice none 0 0, .slice none 0 0, .slice none 0 0, .slice none 0 0] 69)
  go_enter Yabn.func27, Yabn.ntmps27
  go_wp2_with (first
    | (go_at_call 68; refine (RefEncodeRLE xs a c _ (h.out.ext ((Ext.refl w).alloc _))).mono ?_; rintro e w1 ⟨a1, a2, a3, a4, c1, c2, c3, c4, rfl, ho, hx⟩; have hb := hide (hnew.out.ext hx); replace ho := hide ho; replace hx := hide hx)
    | (refine wpList_storeB (vs := colCells (encOf 2 xs) a1 a2 a3 a4 c1 c2 c3 c4) rfl rfl (by rfl) (by rfl) hb.out size_col rfl (colCells_one _ _ _ _ _ _ _ _ _) ?_; intro w2 hb2 hgr; replace hgr := hide hgr; replace hb2 := hide hb2))
  refine bodyPost_ret (results_cell1 rfl (by rfl) hb2.out Yabn.underlying69 size_col) rfl ?_
  have hx2 : Ext w w2 := (((Ext.refl w).alloc _).trans hx.out).grown hgr.out (by intro k hk; cases hk; exact Nat.le_refl _)
  have ho2 := ho.out.kept hgr.out (by simp)
  exact ⟨a1, a2, a3, a4, c1, c2, c3, c4, rfl, ho2.mono (by simp), hx2⟩

theorem RefEncode (kind : Int) (xs : List Int) (a : Option Addr) (c : Nat) (w : World) (h : IntsAt w a xs) (hk : kind = 0 ∨ kind = 1 ∨ kind = 2) :
    Calls Yabn.prog 27 #[.slice a xs.length c, .int .i64 kind] w (RetCol (encOf kind xs) w) := by
  rcases hk with rfl | rfl | rfl
  · exact RefEncode_0 xs a c w h
  · exact RefEncode_1 xs a c w h
  · exact RefEncode_2 xs a c w h
end Go.Proofs.YbyabwGreat
