/- Walks: spec.Itoa, TokenText, RenderTokens -/
import Derived.Test.YbyabwGreatGenP
import Derived.Test.YbyabwGreatStruct
import Derived.Test.YbyabwGreatOwnP
import Derived.Test.YbyabwGreatFrame
import Derived.Test.YbyabwGreatLex1
import Derived.Laws.IdiomStrings
import Derived.Lib.AppendStr
namespace Go.Proofs.YbyabwGreat
open Go.RowKit
set_option maxRecDepth 100000
set_option linter.unusedVariables false

def bs (l : List UInt8) : List Value := l.map fun b => Value.int .u8 b.toNat
def RetStr (l : List UInt8) (w : World) : Ending → World → Prop := fun en w' => en = .returned (.string (tx l)) ∧ Ext w w'

set_option maxHeartbeats 1000000 in
theorem Itoa_0 (w : World) : Calls Yabn.prog 6 #[.int .i64 0] w (RetStr (itoa 0) w) := by
  go_enter Yabn.func6, Yabn.ntmps6
  go_wp2
  go_ret
  exact ⟨rfl, Ext.refl w⟩

set_option maxHeartbeats 2000000 in
theorem Itoa_1 (u : Nat) (h0 : ((u : Int) == 0) = false) (hu : (u : Int) ≤ 9223372036854775807) (w : World) : Calls Yabn.prog 6 #[.int .i64 u] w (RetStr (ndig u) w) := by
  have hneg : decide ((u : Int) < 0) = false := by simp
  have hwr : IntKind.u64.wrap (u : Int) = u := (IntKind.wrap_u64 _).trans (by omega)
  go_enter Yabn.func6, Yabn.ntmps6
  go_wp2
  have hu0 : Hid (u ≠ 0) := by intro hh; subst hh; simp at h0
  clear h0 hneg hwr
  go_loopw [4, 6] (fun uu ii wr => ∃ (x i : Nat) (l : List UInt8) (vs : List Value), uu = .int .u64 x ∧ ii = .int .i64 i ∧ x ≤ u ∧ i ≤ 24 ∧ (ndig x).length ≤ i ∧ Hid (ndig u = ndig x ++ l) ∧ Hid (Blk wr w.heap.size 48 vs) ∧ Hid (vs.length = 24 ∧ vs.drop i = bs l ∧ l.length + i = 24) ∧ Hid (Ext w wr)) (fun uu _ _ => (intOf uu).toNat)
  case atStart => exact ⟨u, 24, [], _, rfl, rfl, by omega, by omega, Nat.le_trans (ndig_len 20 u (by omega)) (by omega), by simp [Hid], Blk.new w _ _, ⟨rfl, rfl, rfl⟩, (Ext.refl w).alloc _⟩
  obtain ⟨x, i, l, vs, rfl, rfl, hx, hi, hnl, hnd, hb, hvs, hext⟩ := hrel
  by_cases hx0 : x = 0
  · subst hx0
    clear hnl hx
    have hl24 := hvs.out.2.2
    have hi' : (i : Int) ≤ 24 := by omega
    have hcv := run_convert_bytes_back (P := Yabn.prog) wr 22 9 5 ⟨w.heap.size, i, none⟩ (24 - i) l Yabn.underlying22 Yabn.underlying5 Yabn.underlying9 (fun j hj => by
      have e : vs[i + j]? = some (.int .u8 (l[j].toNat : Int)) := by
        have h1 : (vs.drop i)[j]? = some (.int .u8 (l[j].toNat : Int)) := by rw [hvs.out.2.1]; simp [bs, List.getElem?_eq_getElem hj]
        rwa [List.getElem?_drop] at h1
      have := hb.out.box (i + j) _ e
      rw [Addr.add_lit]
      exact this)
    rw [show l.length = 24 - i by omega] at hcv
    have hend : Hid (ndig u = l) := by rw [hnd.out, ndig_zero]; rfl
    have hlp : 0 < l.length := by rw [← hend.out]; exact List.length_pos_iff.2 (ndig_ne u hu0.out)
    have hi2 : (i : Int) < 24 := by omega
    have hi3 : i < 24 := by omega
    have hi4 : ¬ 24 - i = 0 := by omega
    clear hi hl24 hlp
    go_wp2
    go_ret
    exact ⟨by rw [hend.out]; rfl, hext.out⟩
  · rw [ndig_pos x hx0] at hnl
    have hnd' : Hid (ndig u = ndig (x / 10) ++ (UInt8.ofNat (48 + x % 10) :: l)) := by rw [hnd.out, ndig_pos x hx0]; simp [Hid]
    simp only [List.length_append, List.length_singleton] at hnl
    obtain ⟨j, rfl⟩ : ∃ j, i = j + 1 := ⟨i - 1, by omega⟩
    have hx1 : 0 < (x : Int) := by omega
    have hj : (j : Int) < 24 := by omega
    have fk := hb.out.frozen j
    obtain ⟨y, hy⟩ : ∃ y, vs[j]? = some y := ⟨_, List.getElem?_eq_getElem (by have := hvs.out.1; omega)⟩
    have gj := hb.out.box j y hy
    replace hy := hide hy
    have hd : Hid (((UInt8.ofNat (48 + x % 10)).toNat : Int) = 48 + (x : Int) % 10) := by rw [dig_toNat]; simp [Hid]
    have hw1 : IntKind.u8.wrap (48 + (x : Int) % 10) = 48 + (x : Int) % 10 := by rw [IntKind.wrap_u8]; omega
    go_wp2
    go_roundw
    case rel =>
      refine ⟨x / 10, j, UInt8.ofNat (48 + x % 10) :: l, vs.set j (.int .u8 (48 + (x : Int) % 10)), by simp, by go_num, by omega, by omega, by omega, hnd'.out, hb.out.stored j _, ⟨by simpa using hvs.out.1, ?_, ?_⟩, hext.out.setCell (Nat.le_refl _) _⟩
      · have h1 := hvs.out.1
        have h2 := hvs.out.2.1
        rw [List.drop_eq_getElem_cons (by simp; omega)]
        simp [bs] at h2 ⊢
        refine ⟨?_, ?_⟩
        · have := hd.out
          simp at this
          exact this.symm
        · rw [List.drop_set_of_lt (by omega)]
          exact h2
      · have := hvs.out.2.2
        simp only [List.length_cons]
        omega
    case measure => simp [intOf]; omega
theorem Itoa (u : Nat) (hu : (u : Int) ≤ 9223372036854775807) (w : World) : Calls Yabn.prog 6 #[.int .i64 u] w (RetStr (itoa u) w) := by
  by_cases h : u = 0
  · subst h
    exact Itoa_0 w
  · have := Itoa_1 u (by simp; omega) hu w
    unfold itoa
    rw [if_neg h]
    exact this

set_option maxHeartbeats 1000000 in
theorem TokenText_1 (w : World) : Calls Yabn.prog 70 #[.agg #[.int .i64 1, .int .i64 0]] w (RetStr (ttext (1, 0)) w) := by
  have hb0 : Box (w.alloc (.cells #[.int .i64 1, .int .i64 0] 95)) w.heap.size [.int .i64 1, .int .i64 0] := Box.new w _ _
  have m0 := hb0 0 _ rfl
  replace hb0 := hide hb0
  go_enter Yabn.func70, Yabn.ntmps70
  go_wp2
  go_ret
  exact ⟨rfl, (Ext.refl w).alloc _⟩
set_option maxHeartbeats 1000000 in
theorem TokenText_2 (w : World) : Calls Yabn.prog 70 #[.agg #[.int .i64 2, .int .i64 0]] w (RetStr (ttext (2, 0)) w) := by
  have hb0 : Box (w.alloc (.cells #[.int .i64 2, .int .i64 0] 95)) w.heap.size [.int .i64 2, .int .i64 0] := Box.new w _ _
  have m0 := hb0 0 _ rfl
  replace hb0 := hide hb0
  go_enter Yabn.func70, Yabn.ntmps70
  go_wp2
  go_ret
  exact ⟨rfl, (Ext.refl w).alloc _⟩
set_option maxHeartbeats 1000000 in
theorem TokenText_3 (w : World) : Calls Yabn.prog 70 #[.agg #[.int .i64 3, .int .i64 0]] w (RetStr (ttext (3, 0)) w) := by
  have hb0 : Box (w.alloc (.cells #[.int .i64 3, .int .i64 0] 95)) w.heap.size [.int .i64 3, .int .i64 0] := Box.new w _ _
  have m0 := hb0 0 _ rfl
  replace hb0 := hide hb0
  go_enter Yabn.func70, Yabn.ntmps70
  go_wp2
  go_ret
  exact ⟨rfl, (Ext.refl w).alloc _⟩
set_option maxHeartbeats 1000000 in
theorem TokenText_4 (w : World) : Calls Yabn.prog 70 #[.agg #[.int .i64 4, .int .i64 0]] w (RetStr (ttext (4, 0)) w) := by
  have hb0 : Box (w.alloc (.cells #[.int .i64 4, .int .i64 0] 95)) w.heap.size [.int .i64 4, .int .i64 0] := Box.new w _ _
  have m0 := hb0 0 _ rfl
  replace hb0 := hide hb0
  go_enter Yabn.func70, Yabn.ntmps70
  go_wp2
  go_ret
  exact ⟨rfl, (Ext.refl w).alloc _⟩
set_option maxHeartbeats 1000000 in
theorem TokenText_5 (w : World) : Calls Yabn.prog 70 #[.agg #[.int .i64 5, .int .i64 0]] w (RetStr (ttext (5, 0)) w) := by
  have hb0 : Box (w.alloc (.cells #[.int .i64 5, .int .i64 0] 95)) w.heap.size [.int .i64 5, .int .i64 0] := Box.new w _ _
  have m0 := hb0 0 _ rfl
  replace hb0 := hide hb0
  go_enter Yabn.func70, Yabn.ntmps70
  go_wp2
  go_ret
  exact ⟨rfl, (Ext.refl w).alloc _⟩
set_option maxHeartbeats 1000000 in
theorem TokenText_6 (w : World) : Calls Yabn.prog 70 #[.agg #[.int .i64 6, .int .i64 0]] w (RetStr (ttext (6, 0)) w) := by
  have hb0 : Box (w.alloc (.cells #[.int .i64 6, .int .i64 0] 95)) w.heap.size [.int .i64 6, .int .i64 0] := Box.new w _ _
  have m0 := hb0 0 _ rfl
  replace hb0 := hide hb0
  go_enter Yabn.func70, Yabn.ntmps70
  go_wp2
  go_ret
  exact ⟨rfl, (Ext.refl w).alloc _⟩
set_option maxHeartbeats 1000000 in
theorem TokenText_7 (w : World) : Calls Yabn.prog 70 #[.agg #[.int .i64 7, .int .i64 0]] w (RetStr (ttext (7, 0)) w) := by
  have hb0 : Box (w.alloc (.cells #[.int .i64 7, .int .i64 0] 95)) w.heap.size [.int .i64 7, .int .i64 0] := Box.new w _ _
  have m0 := hb0 0 _ rfl
  replace hb0 := hide hb0
  go_enter Yabn.func70, Yabn.ntmps70
  go_wp2
  go_ret
  exact ⟨rfl, (Ext.refl w).alloc _⟩
set_option maxHeartbeats 1000000 in
theorem TokenText_8 (w : World) : Calls Yabn.prog 70 #[.agg #[.int .i64 8, .int .i64 0]] w (RetStr (ttext (8, 0)) w) := by
  have hb0 : Box (w.alloc (.cells #[.int .i64 8, .int .i64 0] 95)) w.heap.size [.int .i64 8, .int .i64 0] := Box.new w _ _
  have m0 := hb0 0 _ rfl
  replace hb0 := hide hb0
  go_enter Yabn.func70, Yabn.ntmps70
  go_wp2
  go_ret
  exact ⟨rfl, (Ext.refl w).alloc _⟩
set_option maxHeartbeats 1000000 in
theorem TokenText_9 (w : World) : Calls Yabn.prog 70 #[.agg #[.int .i64 9, .int .i64 0]] w (RetStr (ttext (9, 0)) w) := by
  have hb0 : Box (w.alloc (.cells #[.int .i64 9, .int .i64 0] 95)) w.heap.size [.int .i64 9, .int .i64 0] := Box.new w _ _
  have m0 := hb0 0 _ rfl
  replace hb0 := hide hb0
  go_enter Yabn.func70, Yabn.ntmps70
  go_wp2
  go_ret
  exact ⟨rfl, (Ext.refl w).alloc _⟩
set_option maxHeartbeats 1000000 in
theorem TokenText_10 (w : World) : Calls Yabn.prog 70 #[.agg #[.int .i64 10, .int .i64 0]] w (RetStr (ttext (10, 0)) w) := by
  have hb0 : Box (w.alloc (.cells #[.int .i64 10, .int .i64 0] 95)) w.heap.size [.int .i64 10, .int .i64 0] := Box.new w _ _
  have m0 := hb0 0 _ rfl
  replace hb0 := hide hb0
  go_enter Yabn.func70, Yabn.ntmps70
  go_wp2
  go_ret
  exact ⟨rfl, (Ext.refl w).alloc _⟩
set_option maxHeartbeats 1000000 in
theorem TokenText_11 (w : World) : Calls Yabn.prog 70 #[.agg #[.int .i64 11, .int .i64 0]] w (RetStr (ttext (11, 0)) w) := by
  have hb0 : Box (w.alloc (.cells #[.int .i64 11, .int .i64 0] 95)) w.heap.size [.int .i64 11, .int .i64 0] := Box.new w _ _
  have m0 := hb0 0 _ rfl
  replace hb0 := hide hb0
  go_enter Yabn.func70, Yabn.ntmps70
  go_wp2
  go_ret
  exact ⟨rfl, (Ext.refl w).alloc _⟩
set_option maxHeartbeats 1000000 in
theorem TokenText_12 (w : World) : Calls Yabn.prog 70 #[.agg #[.int .i64 12, .int .i64 0]] w (RetStr (ttext (12, 0)) w) := by
  have hb0 : Box (w.alloc (.cells #[.int .i64 12, .int .i64 0] 95)) w.heap.size [.int .i64 12, .int .i64 0] := Box.new w _ _
  have m0 := hb0 0 _ rfl
  replace hb0 := hide hb0
  go_enter Yabn.func70, Yabn.ntmps70
  go_wp2
  go_ret
  exact ⟨rfl, (Ext.refl w).alloc _⟩
set_option maxHeartbeats 1000000 in
theorem TokenText_15 (w : World) : Calls Yabn.prog 70 #[.agg #[.int .i64 15, .int .i64 0]] w (RetStr (ttext (15, 0)) w) := by
  have hb0 : Box (w.alloc (.cells #[.int .i64 15, .int .i64 0] 95)) w.heap.size [.int .i64 15, .int .i64 0] := Box.new w _ _
  have m0 := hb0 0 _ rfl
  replace hb0 := hide hb0
  go_enter Yabn.func70, Yabn.ntmps70
  go_wp2
  go_ret
  exact ⟨rfl, (Ext.refl w).alloc _⟩
set_option maxHeartbeats 1000000 in
theorem TokenText_16 (w : World) : Calls Yabn.prog 70 #[.agg #[.int .i64 16, .int .i64 0]] w (RetStr (ttext (16, 0)) w) := by
  have hb0 : Box (w.alloc (.cells #[.int .i64 16, .int .i64 0] 95)) w.heap.size [.int .i64 16, .int .i64 0] := Box.new w _ _
  have m0 := hb0 0 _ rfl
  replace hb0 := hide hb0
  go_enter Yabn.func70, Yabn.ntmps70
  go_wp2
  go_ret
  exact ⟨rfl, (Ext.refl w).alloc _⟩
set_option maxHeartbeats 1000000 in
theorem TokenText_17 (w : World) : Calls Yabn.prog 70 #[.agg #[.int .i64 17, .int .i64 0]] w (RetStr (ttext (17, 0)) w) := by
  have hb0 : Box (w.alloc (.cells #[.int .i64 17, .int .i64 0] 95)) w.heap.size [.int .i64 17, .int .i64 0] := Box.new w _ _
  have m0 := hb0 0 _ rfl
  replace hb0 := hide hb0
  go_enter Yabn.func70, Yabn.ntmps70
  go_wp2
  go_ret
  exact ⟨rfl, (Ext.refl w).alloc _⟩
set_option maxHeartbeats 1000000 in
theorem TokenText_18 (w : World) : Calls Yabn.prog 70 #[.agg #[.int .i64 18, .int .i64 0]] w (RetStr (ttext (18, 0)) w) := by
  have hb0 : Box (w.alloc (.cells #[.int .i64 18, .int .i64 0] 95)) w.heap.size [.int .i64 18, .int .i64 0] := Box.new w _ _
  have m0 := hb0 0 _ rfl
  replace hb0 := hide hb0
  go_enter Yabn.func70, Yabn.ntmps70
  go_wp2
  go_ret
  exact ⟨rfl, (Ext.refl w).alloc _⟩
set_option maxHeartbeats 1000000 in
theorem TokenText_19 (w : World) : Calls Yabn.prog 70 #[.agg #[.int .i64 19, .int .i64 0]] w (RetStr (ttext (19, 0)) w) := by
  have hb0 : Box (w.alloc (.cells #[.int .i64 19, .int .i64 0] 95)) w.heap.size [.int .i64 19, .int .i64 0] := Box.new w _ _
  have m0 := hb0 0 _ rfl
  replace hb0 := hide hb0
  go_enter Yabn.func70, Yabn.ntmps70
  go_wp2
  go_ret
  exact ⟨rfl, (Ext.refl w).alloc _⟩
set_option maxHeartbeats 1000000 in
theorem TokenText_20 (w : World) : Calls Yabn.prog 70 #[.agg #[.int .i64 20, .int .i64 0]] w (RetStr (ttext (20, 0)) w) := by
  have hb0 : Box (w.alloc (.cells #[.int .i64 20, .int .i64 0] 95)) w.heap.size [.int .i64 20, .int .i64 0] := Box.new w _ _
  have m0 := hb0 0 _ rfl
  replace hb0 := hide hb0
  go_enter Yabn.func70, Yabn.ntmps70
  go_wp2
  go_ret
  exact ⟨rfl, (Ext.refl w).alloc _⟩
set_option maxHeartbeats 1000000 in
theorem TokenText_21 (w : World) : Calls Yabn.prog 70 #[.agg #[.int .i64 21, .int .i64 0]] w (RetStr (ttext (21, 0)) w) := by
  have hb0 : Box (w.alloc (.cells #[.int .i64 21, .int .i64 0] 95)) w.heap.size [.int .i64 21, .int .i64 0] := Box.new w _ _
  have m0 := hb0 0 _ rfl
  replace hb0 := hide hb0
  go_enter Yabn.func70, Yabn.ntmps70
  go_wp2
  go_ret
  exact ⟨rfl, (Ext.refl w).alloc _⟩
set_option maxHeartbeats 1000000 in
theorem TokenText_22 (w : World) : Calls Yabn.prog 70 #[.agg #[.int .i64 22, .int .i64 0]] w (RetStr (ttext (22, 0)) w) := by
  have hb0 : Box (w.alloc (.cells #[.int .i64 22, .int .i64 0] 95)) w.heap.size [.int .i64 22, .int .i64 0] := Box.new w _ _
  have m0 := hb0 0 _ rfl
  replace hb0 := hide hb0
  go_enter Yabn.func70, Yabn.ntmps70
  go_wp2
  go_ret
  exact ⟨rfl, (Ext.refl w).alloc _⟩
set_option maxHeartbeats 1000000 in
theorem TokenText_23 (w : World) : Calls Yabn.prog 70 #[.agg #[.int .i64 23, .int .i64 0]] w (RetStr (ttext (23, 0)) w) := by
  have hb0 : Box (w.alloc (.cells #[.int .i64 23, .int .i64 0] 95)) w.heap.size [.int .i64 23, .int .i64 0] := Box.new w _ _
  have m0 := hb0 0 _ rfl
  replace hb0 := hide hb0
  go_enter Yabn.func70, Yabn.ntmps70
  go_wp2
  go_ret
  exact ⟨rfl, (Ext.refl w).alloc _⟩
set_option maxHeartbeats 1000000 in
theorem TokenText_24 (w : World) : Calls Yabn.prog 70 #[.agg #[.int .i64 24, .int .i64 0]] w (RetStr (ttext (24, 0)) w) := by
  have hb0 : Box (w.alloc (.cells #[.int .i64 24, .int .i64 0] 95)) w.heap.size [.int .i64 24, .int .i64 0] := Box.new w _ _
  have m0 := hb0 0 _ rfl
  replace hb0 := hide hb0
  go_enter Yabn.func70, Yabn.ntmps70
  go_wp2
  go_ret
  exact ⟨rfl, (Ext.refl w).alloc _⟩
set_option maxHeartbeats 1000000 in
theorem TokenText_25 (w : World) : Calls Yabn.prog 70 #[.agg #[.int .i64 25, .int .i64 0]] w (RetStr (ttext (25, 0)) w) := by
  have hb0 : Box (w.alloc (.cells #[.int .i64 25, .int .i64 0] 95)) w.heap.size [.int .i64 25, .int .i64 0] := Box.new w _ _
  have m0 := hb0 0 _ rfl
  replace hb0 := hide hb0
  go_enter Yabn.func70, Yabn.ntmps70
  go_wp2
  go_ret
  exact ⟨rfl, (Ext.refl w).alloc _⟩
set_option maxHeartbeats 1000000 in
theorem TokenText_26 (w : World) : Calls Yabn.prog 70 #[.agg #[.int .i64 26, .int .i64 0]] w (RetStr (ttext (26, 0)) w) := by
  have hb0 : Box (w.alloc (.cells #[.int .i64 26, .int .i64 0] 95)) w.heap.size [.int .i64 26, .int .i64 0] := Box.new w _ _
  have m0 := hb0 0 _ rfl
  replace hb0 := hide hb0
  go_enter Yabn.func70, Yabn.ntmps70
  go_wp2
  go_ret
  exact ⟨rfl, (Ext.refl w).alloc _⟩

theorem fin13 (n : Nat) : Ending.returned (.string (tx [99] ++ tx (itoa n))) = Ending.returned (.string (tx (ttext (13, (n : Int))))) := by
  rw [tx_append]
  rfl
theorem fin14 (n : Nat) : Ending.returned (.string (tx (itoa n))) = Ending.returned (.string (tx (ttext (14, (n : Int))))) := rfl
set_option maxHeartbeats 1000000 in
theorem TokenText_13 (n : Nat) (hn : (n : Int) ≤ 9223372036854775807) (w : World) : Calls Yabn.prog 70 #[.agg #[.int .i64 13, .int .i64 n]] w (RetStr (ttext (13, (n : Int))) w) := by
  have hb0 : Box (w.alloc (.cells #[.int .i64 13, .int .i64 n] 95)) w.heap.size [.int .i64 13, .int .i64 n] := Box.new w _ _
  have m0 := hb0 0 _ rfl
  have m1 := hb0 1 _ rfl
  have x0 : Hid (Ext w (w.alloc (.cells #[.int .i64 13, .int .i64 n] 95))) := (Ext.refl w).alloc _
  replace hb0 := hide hb0
  go_enter Yabn.func70, Yabn.ntmps70
  go_wp2_with fail
  refine (Itoa n hn _).mono ?_
  rintro e w1 ⟨rfl, x1⟩
  have X1 : Hid (Ext w w1) := x0.out.trans x1
  clear x1 x0 m0 m1 hb0
  have hsz : ¬ 9223372036854775807 < 1 + (tx (itoa n)).size := by
    have := itoa_len 20 n (by omega) (by omega)
    rw [tx_size]
    omega
  go_wp2
  go_ret
  exact ⟨fin13 n, X1.out⟩
set_option maxHeartbeats 1000000 in
theorem TokenText_14 (n : Nat) (hn : (n : Int) ≤ 9223372036854775807) (w : World) : Calls Yabn.prog 70 #[.agg #[.int .i64 14, .int .i64 n]] w (RetStr (ttext (14, (n : Int))) w) := by
  have hb0 : Box (w.alloc (.cells #[.int .i64 14, .int .i64 n] 95)) w.heap.size [.int .i64 14, .int .i64 n] := Box.new w _ _
  have m0 := hb0 0 _ rfl
  have m1 := hb0 1 _ rfl
  have x0 : Hid (Ext w (w.alloc (.cells #[.int .i64 14, .int .i64 n] 95))) := (Ext.refl w).alloc _
  replace hb0 := hide hb0
  go_enter Yabn.func70, Yabn.ntmps70
  go_wp2_with fail
  refine (Itoa n hn _).mono ?_
  rintro e w1 ⟨rfl, x1⟩
  have X1 : Hid (Ext w w1) := x0.out.trans x1
  clear x1 x0 m0 m1 hb0
  have hsz : ¬ 9223372036854775807 < 1 + (tx (itoa n)).size := by
    have := itoa_len 20 n (by omega) (by omega)
    rw [tx_size]
    omega
  go_wp2
  go_ret
  exact ⟨fin14 n, X1.out⟩
theorem TokenText (t : Int × Int) (ht : TokOK t) (w : World) : Calls Yabn.prog 70 #[.agg #[.int .i64 t.1, .int .i64 t.2]] w (RetStr (ttext t) w) := by
  obtain ⟨k, n⟩ := t
  obtain ⟨h1, h2, h13, h14, h0⟩ := ht
  simp only at h1 h2 h13 h14 h0 ⊢
  by_cases e13 : k = 13
  · subst e13
    obtain ⟨a, b⟩ := h13 rfl
    obtain ⟨m, rfl⟩ := Int.eq_ofNat_of_zero_le a
    exact TokenText_13 m (by omega) w
  · by_cases e14 : k = 14
    · subst e14
      obtain ⟨a, b⟩ := h14 rfl
      obtain ⟨m, rfl⟩ := Int.eq_ofNat_of_zero_le a
      exact TokenText_14 m b w
    · obtain rfl := h0 e13 e14
      have hk : k = 1 ∨ k = 2 ∨ k = 3 ∨ k = 4 ∨ k = 5 ∨ k = 6 ∨ k = 7 ∨ k = 8 ∨ k = 9 ∨ k = 10 ∨ k = 11 ∨ k = 12 ∨ k = 15 ∨ k = 16 ∨ k = 17 ∨ k = 18 ∨ k = 19 ∨ k = 20 ∨ k = 21 ∨ k = 22 ∨ k = 23 ∨ k = 24 ∨ k = 25 ∨ k = 26 := by omega
      clear h1 h2 h13 h14 h0 e13 e14
      rcases hk with rfl | rfl | rfl | rfl | rfl | rfl | rfl | rfl | rfl | rfl | rfl | rfl | rfl | rfl | rfl | rfl | rfl | rfl | rfl | rfl | rfl | rfl | rfl | rfl
      · exact TokenText_1 w
      · exact TokenText_2 w
      · exact TokenText_3 w
      · exact TokenText_4 w
      · exact TokenText_5 w
      · exact TokenText_6 w
      · exact TokenText_7 w
      · exact TokenText_8 w
      · exact TokenText_9 w
      · exact TokenText_10 w
      · exact TokenText_11 w
      · exact TokenText_12 w
      · exact TokenText_15 w
      · exact TokenText_16 w
      · exact TokenText_17 w
      · exact TokenText_18 w
      · exact TokenText_19 w
      · exact TokenText_20 w
      · exact TokenText_21 w
      · exact TokenText_22 w
      · exact TokenText_23 w
      · exact TokenText_24 w
      · exact TokenText_25 w
      · exact TokenText_26 w
end Go.Proofs.YbyabwGreat
