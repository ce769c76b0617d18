/- Walks: impl.ColumnSelect, spec.RefColumnSelect -/
import Derived.Test.YbyacwTab1
import Derived.Test.YbyacwApply
namespace Go.Proofs.Ybyacw
open Go.RowKit
set_option maxRecDepth 100000
set_option linter.unusedVariables false

/-- The places below m whose element meets the test. -/
def selTo (op k : Int) (xs : List Int) (m : Nat) : List Int := ((List.range m).filter fun i => applyI op (xs.getD i 0) k != 0).map Int.ofNat

theorem selTo_hit (op k : Int) (xs : List Int) (m : Nat) (h : (applyI op (xs.getD m 0) k != 0) = true) : selTo op k xs m ++ [(m : Int)] = selTo op k xs (m + 1) := by
  unfold selTo
  rw [List.range_succ, List.filter_append, List.map_append]
  simp only [List.filter_cons, h, if_true, List.filter_nil, List.map_cons, List.map_nil]
  rfl
theorem selTo_miss (op k : Int) (xs : List Int) (m : Nat) (h : (applyI op (xs.getD m 0) k != 0) = false) : selTo op k xs m = selTo op k xs (m + 1) := by
  unfold selTo
  rw [List.range_succ, List.filter_append, List.map_append]
  simp only [List.filter_cons, h, Bool.false_eq_true, if_false, List.filter_nil, List.map_nil, List.append_nil]
theorem selTo_len (op k : Int) (xs : List Int) (m : Nat) : (selTo op k xs m).length ≤ m := by
  unfold selTo
  rw [List.length_map]
  exact Nat.le_trans (List.length_filter_le _ _) (by simp)
theorem b2n_ne (b : Bool) : (b2n b != 0) = b := by cases b <;> rfl


set_option maxHeartbeats 1000000 in
theorem ColumnSelect_no (kind : Int) (n op k : Int) (pl di co : List Int) (ru : List (Int × Int)) (a1 a2 a3 a4 : Option Addr) (c1 c2 c3 c4 : Nat) (w : World) (h : Hid (ColAt w ⟨kind, pl, di, co, ru⟩ a1 a2 a3 a4)) (l2 : di.length < 2 ^ 40) (l3 : co.length < 2 ^ 40) (l4 : ru.length < 2 ^ 40) (hno : ¬ Valid ⟨kind, pl, di, co, ru⟩ n ∨ op < 7 ∨ 12 < op) :
    Calls Yacn.prog 38 #[colArg kind pl di co ru a1 a2 a3 a4 c1 c2 c3 c4, .int .i64 n, .int .i64 op, .int .i64 k] w (RetNo w) := by
  by_cases hV : Valid ⟨kind, pl, di, co, ru⟩ n
  · replace hno := hno.resolve_left (fun h => h hV)
    replace hV := hide hV
    go_enter Yacn.func38, Yacn.ntmps38
    go_wp2_with (go_at_call 92; refine (validCol kind pl di co ru a1 a2 a3 a4 c1 c2 c3 c4 n _ (h.out.ext ((Ext.refl w).alloc _)) l2 l3 l4).mono ?_; rintro e w1 ⟨q, rfl, hq, hx⟩; have hq' : q = true := hq.2 hV.out; subst hq'; clear hq; replace hx := hide hx)
    all_goals (go_ret2; exact ⟨rfl, ((Ext.refl w).alloc _).trans hx.out⟩)
  · clear hno
    replace hV := hide hV
    go_enter Yacn.func38, Yacn.ntmps38
    go_wp2_with (go_at_call 92; refine (validCol kind pl di co ru a1 a2 a3 a4 c1 c2 c3 c4 n _ (h.out.ext ((Ext.refl w).alloc _)) l2 l3 l4).mono ?_; rintro e w1 ⟨q, rfl, hq, hx⟩; have hq' : q = false := (by cases q with | false => rfl | true => exact absurd (hq.1 rfl) hV.out); subst hq'; clear hq; replace hx := hide hx)
    all_goals (go_ret2; exact ⟨rfl, ((Ext.refl w).alloc _).trans hx.out⟩)

set_option maxHeartbeats 1000000 in
theorem RefColumnSelect_no (kind : Int) (n op k : Int) (pl di co : List Int) (ru : List (Int × Int)) (a1 a2 a3 a4 : Option Addr) (c1 c2 c3 c4 : Nat) (w : World) (h : Hid (ColAt w ⟨kind, pl, di, co, ru⟩ a1 a2 a3 a4)) (l2 : di.length < 2 ^ 40) (l3 : co.length < 2 ^ 40) (l4 : ru.length < 2 ^ 40) (hno : ¬ Valid ⟨kind, pl, di, co, ru⟩ n ∨ op < 7 ∨ 12 < op) :
    Calls Yacn.prog 36 #[colArg kind pl di co ru a1 a2 a3 a4 c1 c2 c3 c4, .int .i64 n, .int .i64 op, .int .i64 k] w (RetNo w) := by
  by_cases hop : op < 7 ∨ 12 < op
  · clear hno
    go_enter Yacn.func36, Yacn.ntmps36
    go_wp2
    all_goals (go_ret2; exact ⟨rfl, (Ext.refl w).alloc _⟩)
  · replace hno := hide (hno.resolve_right hop)
    have hop1 : ¬ op < 7 := by omega
    have hop2 : ¬ 12 < op := by omega
    clear hop
    go_enter Yacn.func36, Yacn.ntmps36
    go_wp2_with (go_at_call 90; refine (RefDecodeColumn_no kind n pl di co ru a1 a2 a3 a4 c1 c2 c3 c4 _ (h.out.ext ((Ext.refl w).alloc _)) l2 l3 l4 hno.out).mono ?_; rintro e w1 ⟨rfl, hx⟩; replace hx := hide hx)
    go_ret2
    exact ⟨rfl, ((Ext.refl w).alloc _).trans hx.out⟩


set_option maxHeartbeats 2000000 in
theorem ColumnSelect_7 (kind : Int) (n k : Int) (pl di co : List Int) (ru : List (Int × Int)) (a1 a2 a3 a4 : Option Addr) (c1 c2 c3 c4 : Nat) (w : World) (h : Hid (ColAt w ⟨kind, pl, di, co, ru⟩ a1 a2 a3 a4)) (l2 : di.length < 2 ^ 40) (l3 : co.length < 2 ^ 40) (l4 : ru.length < 2 ^ 40) (hV : Hid (Valid ⟨kind, pl, di, co, ru⟩ n)) :
    Calls Yacn.prog 38 #[colArg kind pl di co ru a1 a2 a3 a4 c1 c2 c3 c4, .int .i64 n, .int .i64 7, .int .i64 k] w (RetYes 3 (selTo 7 k (dec ⟨kind, pl, di, co, ru⟩) (dec ⟨kind, pl, di, co, ru⟩).length) w) := by
  obtain ⟨nn, rfl⟩ := Int.eq_ofNat_of_zero_le hV.out.1
  have hdl := dec_len _ _ hV.out
  have hnb := hV.out.2.1
  generalize HD : dec ⟨kind, pl, di, co, ru⟩ = xs at *
  have hxl : (xs.length : Int) ≤ 65536 := by omega
  replace HD := hide HD
  replace hdl := hide hdl
  go_enter Yacn.func38, Yacn.ntmps38
  go_wp2_with (first
    | (go_at_call 92; refine (validCol kind pl di co ru a1 a2 a3 a4 c1 c2 c3 c4 nn _ (h.out.ext ((Ext.refl w).alloc _)) l2 l3 l4).mono ?_; rintro e w1 ⟨b, rfl, hb, hx⟩; have hb' : b = true := hb.2 hV.out; subst hb'; clear hb; have hbox := (Box.new w _ _).ext hx; have f0 := hbox 0 _ rfl; have f1 := hbox 1 _ rfl; have f2 := hbox 2 _ rfl; have f3 := hbox 3 _ rfl; have f4 := hbox 4 _ rfl; replace hbox := hide hbox; replace hx := hide hx)
    | (go_at_call 93; refine (decodeCol kind pl di co ru a1 a2 a3 a4 c1 c2 c3 c4 nn _ (h.out.ext (((Ext.refl w).alloc _).trans hx.out)) hV.out).mono ?_; rw [HD.out]; rintro e w2 ⟨a, cap, rfl, hown, hx2⟩; replace hown := hide hown; replace hx2 := hide ((((Ext.refl w).alloc _).trans hx.out).trans hx2)))
  clear f0 f1 f2 f3 f4 hbox
  go_loopw [11, 32] (fun v i wr => ∃ m : Nat, i = .int .i64 m ∧ m ≤ xs.length ∧ Hid (OwnI wr w2.heap.size 3 v (selTo 7 k xs m)) ∧ Hid (Ext w2 wr)) (fun _ i _ => xs.length - (intOf i).toNat)
  case atStart => exact ⟨0, rfl, by omega, OwnI.nil _ _ _, Ext.refl w2⟩
  obtain ⟨m, rfl, hm, hs, hext⟩ := hrel
  by_cases hlt : m < xs.length
  · have hlt' : (m : Int) < xs.length := by omega
    obtain ⟨b, off, rfl, g1⟩ := ((OwnI.ints hown.out).ext hext.out) m hlt
    have hit := selTo_hit 7 k xs m
    have miss := selTo_miss 7 k xs m
    have hln := selTo_len 7 k xs m
    have hb1 := cell_lt g1
    simp only at hb1
    generalize xs.getD m 0 = x at *
    generalize selTo 7 k xs m = ps at *
    have hbe : (applyI 7 x k != 0) = (x == k) := b2n_ne _
    rw [hbe] at hit miss
    have hpl : ps.length < 2 ^ 39 := by omega
    clear hbe hln
    have hsz := hext.out.size
    cases hb : (x == k)
    · replace miss := hide (miss hb)
      clear hit
      go_wp2
      go_roundw
      case rel => exact ⟨m + 1, by go_num, by omega, by rw [← miss.out]; exact hs, hext⟩
      case measure => simp [intOf]; omega
    · replace hit := hide (hit hb)
      clear miss
      go_wp2_with (at_builtin; refine app_int rfl rfl w2.heap.size (by simp; omega) _ ps m rfl (hs.out.alloc _) wr.heap.size 1 (by rfl) (heap_alloc_new wr _) hpl ?_; intro g cap2 w3 hown2 hgr hor hlt2; replace hgr := hide hgr; replace hown2 := hide hown2; replace hor := hide hor)
      go_roundw
      case rel => exact ⟨m + 1, by go_num, by omega, hown2.out.congr hit.out, (hext.out.alloc _).grown hgr.out (fun q hq => hs.out.block q hq)⟩
      case measure => simp [intOf]; omega
  · have hmx : m = xs.length := by omega
    subst hmx
    obtain ⟨p, q, hv, _⟩ := hs.out.form
    subst hv
    go_wp2
    go_ret2
    exact ⟨_, _, rfl, hs.out.mono hx2.out.size, hx2.out.trans hext.out⟩

set_option maxHeartbeats 2000000 in
theorem ColumnSelect_8 (kind : Int) (n k : Int) (pl di co : List Int) (ru : List (Int × Int)) (a1 a2 a3 a4 : Option Addr) (c1 c2 c3 c4 : Nat) (w : World) (h : Hid (ColAt w ⟨kind, pl, di, co, ru⟩ a1 a2 a3 a4)) (l2 : di.length < 2 ^ 40) (l3 : co.length < 2 ^ 40) (l4 : ru.length < 2 ^ 40) (hV : Hid (Valid ⟨kind, pl, di, co, ru⟩ n)) :
    Calls Yacn.prog 38 #[colArg kind pl di co ru a1 a2 a3 a4 c1 c2 c3 c4, .int .i64 n, .int .i64 8, .int .i64 k] w (RetYes 3 (selTo 8 k (dec ⟨kind, pl, di, co, ru⟩) (dec ⟨kind, pl, di, co, ru⟩).length) w) := by
  obtain ⟨nn, rfl⟩ := Int.eq_ofNat_of_zero_le hV.out.1
  have hdl := dec_len _ _ hV.out
  have hnb := hV.out.2.1
  generalize HD : dec ⟨kind, pl, di, co, ru⟩ = xs at *
  have hxl : (xs.length : Int) ≤ 65536 := by omega
  replace HD := hide HD
  replace hdl := hide hdl
  go_enter Yacn.func38, Yacn.ntmps38
  go_wp2_with (first
    | (go_at_call 92; refine (validCol kind pl di co ru a1 a2 a3 a4 c1 c2 c3 c4 nn _ (h.out.ext ((Ext.refl w).alloc _)) l2 l3 l4).mono ?_; rintro e w1 ⟨b, rfl, hb, hx⟩; have hb' : b = true := hb.2 hV.out; subst hb'; clear hb; have hbox := (Box.new w _ _).ext hx; have f0 := hbox 0 _ rfl; have f1 := hbox 1 _ rfl; have f2 := hbox 2 _ rfl; have f3 := hbox 3 _ rfl; have f4 := hbox 4 _ rfl; replace hbox := hide hbox; replace hx := hide hx)
    | (go_at_call 93; refine (decodeCol kind pl di co ru a1 a2 a3 a4 c1 c2 c3 c4 nn _ (h.out.ext (((Ext.refl w).alloc _).trans hx.out)) hV.out).mono ?_; rw [HD.out]; rintro e w2 ⟨a, cap, rfl, hown, hx2⟩; replace hown := hide hown; replace hx2 := hide ((((Ext.refl w).alloc _).trans hx.out).trans hx2)))
  clear f0 f1 f2 f3 f4 hbox
  go_loopw [11, 32] (fun v i wr => ∃ m : Nat, i = .int .i64 m ∧ m ≤ xs.length ∧ Hid (OwnI wr w2.heap.size 3 v (selTo 8 k xs m)) ∧ Hid (Ext w2 wr)) (fun _ i _ => xs.length - (intOf i).toNat)
  case atStart => exact ⟨0, rfl, by omega, OwnI.nil _ _ _, Ext.refl w2⟩
  obtain ⟨m, rfl, hm, hs, hext⟩ := hrel
  by_cases hlt : m < xs.length
  · have hlt' : (m : Int) < xs.length := by omega
    obtain ⟨b, off, rfl, g1⟩ := ((OwnI.ints hown.out).ext hext.out) m hlt
    have hit := selTo_hit 8 k xs m
    have miss := selTo_miss 8 k xs m
    have hln := selTo_len 8 k xs m
    have hb1 := cell_lt g1
    simp only at hb1
    generalize xs.getD m 0 = x at *
    generalize selTo 8 k xs m = ps at *
    have hbe : (applyI 8 x k != 0) = (x != k) := b2n_ne _
    rw [hbe] at hit miss
    have hpl : ps.length < 2 ^ 39 := by omega
    clear hbe hln
    have hsz := hext.out.size
    cases hb : (x != k)
    · replace miss := hide (miss hb)
      clear hit
      go_wp2
      go_roundw
      case rel => exact ⟨m + 1, by go_num, by omega, by rw [← miss.out]; exact hs, hext⟩
      case measure => simp [intOf]; omega
    · replace hit := hide (hit hb)
      clear miss
      go_wp2_with (at_builtin; refine app_int rfl rfl w2.heap.size (by simp; omega) _ ps m rfl (hs.out.alloc _) wr.heap.size 1 (by rfl) (heap_alloc_new wr _) hpl ?_; intro g cap2 w3 hown2 hgr hor hlt2; replace hgr := hide hgr; replace hown2 := hide hown2; replace hor := hide hor)
      go_roundw
      case rel => exact ⟨m + 1, by go_num, by omega, hown2.out.congr hit.out, (hext.out.alloc _).grown hgr.out (fun q hq => hs.out.block q hq)⟩
      case measure => simp [intOf]; omega
  · have hmx : m = xs.length := by omega
    subst hmx
    obtain ⟨p, q, hv, _⟩ := hs.out.form
    subst hv
    go_wp2
    go_ret2
    exact ⟨_, _, rfl, hs.out.mono hx2.out.size, hx2.out.trans hext.out⟩

set_option maxHeartbeats 2000000 in
theorem ColumnSelect_9 (kind : Int) (n k : Int) (pl di co : List Int) (ru : List (Int × Int)) (a1 a2 a3 a4 : Option Addr) (c1 c2 c3 c4 : Nat) (w : World) (h : Hid (ColAt w ⟨kind, pl, di, co, ru⟩ a1 a2 a3 a4)) (l2 : di.length < 2 ^ 40) (l3 : co.length < 2 ^ 40) (l4 : ru.length < 2 ^ 40) (hV : Hid (Valid ⟨kind, pl, di, co, ru⟩ n)) :
    Calls Yacn.prog 38 #[colArg kind pl di co ru a1 a2 a3 a4 c1 c2 c3 c4, .int .i64 n, .int .i64 9, .int .i64 k] w (RetYes 3 (selTo 9 k (dec ⟨kind, pl, di, co, ru⟩) (dec ⟨kind, pl, di, co, ru⟩).length) w) := by
  obtain ⟨nn, rfl⟩ := Int.eq_ofNat_of_zero_le hV.out.1
  have hdl := dec_len _ _ hV.out
  have hnb := hV.out.2.1
  generalize HD : dec ⟨kind, pl, di, co, ru⟩ = xs at *
  have hxl : (xs.length : Int) ≤ 65536 := by omega
  replace HD := hide HD
  replace hdl := hide hdl
  go_enter Yacn.func38, Yacn.ntmps38
  go_wp2_with (first
    | (go_at_call 92; refine (validCol kind pl di co ru a1 a2 a3 a4 c1 c2 c3 c4 nn _ (h.out.ext ((Ext.refl w).alloc _)) l2 l3 l4).mono ?_; rintro e w1 ⟨b, rfl, hb, hx⟩; have hb' : b = true := hb.2 hV.out; subst hb'; clear hb; have hbox := (Box.new w _ _).ext hx; have f0 := hbox 0 _ rfl; have f1 := hbox 1 _ rfl; have f2 := hbox 2 _ rfl; have f3 := hbox 3 _ rfl; have f4 := hbox 4 _ rfl; replace hbox := hide hbox; replace hx := hide hx)
    | (go_at_call 93; refine (decodeCol kind pl di co ru a1 a2 a3 a4 c1 c2 c3 c4 nn _ (h.out.ext (((Ext.refl w).alloc _).trans hx.out)) hV.out).mono ?_; rw [HD.out]; rintro e w2 ⟨a, cap, rfl, hown, hx2⟩; replace hown := hide hown; replace hx2 := hide ((((Ext.refl w).alloc _).trans hx.out).trans hx2)))
  clear f0 f1 f2 f3 f4 hbox
  go_loopw [11, 32] (fun v i wr => ∃ m : Nat, i = .int .i64 m ∧ m ≤ xs.length ∧ Hid (OwnI wr w2.heap.size 3 v (selTo 9 k xs m)) ∧ Hid (Ext w2 wr)) (fun _ i _ => xs.length - (intOf i).toNat)
  case atStart => exact ⟨0, rfl, by omega, OwnI.nil _ _ _, Ext.refl w2⟩
  obtain ⟨m, rfl, hm, hs, hext⟩ := hrel
  by_cases hlt : m < xs.length
  · have hlt' : (m : Int) < xs.length := by omega
    obtain ⟨b, off, rfl, g1⟩ := ((OwnI.ints hown.out).ext hext.out) m hlt
    have hit := selTo_hit 9 k xs m
    have miss := selTo_miss 9 k xs m
    have hln := selTo_len 9 k xs m
    have hb1 := cell_lt g1
    simp only at hb1
    generalize xs.getD m 0 = x at *
    generalize selTo 9 k xs m = ps at *
    have hbe : (applyI 9 x k != 0) = (decide (x < k)) := b2n_ne _
    rw [hbe] at hit miss
    have hpl : ps.length < 2 ^ 39 := by omega
    clear hbe hln
    have hsz := hext.out.size
    cases hb : (decide (x < k))
    · replace miss := hide (miss hb)
      clear hit
      go_wp2
      go_roundw
      case rel => exact ⟨m + 1, by go_num, by omega, by rw [← miss.out]; exact hs, hext⟩
      case measure => simp [intOf]; omega
    · replace hit := hide (hit hb)
      clear miss
      go_wp2_with (at_builtin; refine app_int rfl rfl w2.heap.size (by simp; omega) _ ps m rfl (hs.out.alloc _) wr.heap.size 1 (by rfl) (heap_alloc_new wr _) hpl ?_; intro g cap2 w3 hown2 hgr hor hlt2; replace hgr := hide hgr; replace hown2 := hide hown2; replace hor := hide hor)
      go_roundw
      case rel => exact ⟨m + 1, by go_num, by omega, hown2.out.congr hit.out, (hext.out.alloc _).grown hgr.out (fun q hq => hs.out.block q hq)⟩
      case measure => simp [intOf]; omega
  · have hmx : m = xs.length := by omega
    subst hmx
    obtain ⟨p, q, hv, _⟩ := hs.out.form
    subst hv
    go_wp2
    go_ret2
    exact ⟨_, _, rfl, hs.out.mono hx2.out.size, hx2.out.trans hext.out⟩

set_option maxHeartbeats 2000000 in
theorem ColumnSelect_10 (kind : Int) (n k : Int) (pl di co : List Int) (ru : List (Int × Int)) (a1 a2 a3 a4 : Option Addr) (c1 c2 c3 c4 : Nat) (w : World) (h : Hid (ColAt w ⟨kind, pl, di, co, ru⟩ a1 a2 a3 a4)) (l2 : di.length < 2 ^ 40) (l3 : co.length < 2 ^ 40) (l4 : ru.length < 2 ^ 40) (hV : Hid (Valid ⟨kind, pl, di, co, ru⟩ n)) :
    Calls Yacn.prog 38 #[colArg kind pl di co ru a1 a2 a3 a4 c1 c2 c3 c4, .int .i64 n, .int .i64 10, .int .i64 k] w (RetYes 3 (selTo 10 k (dec ⟨kind, pl, di, co, ru⟩) (dec ⟨kind, pl, di, co, ru⟩).length) w) := by
  obtain ⟨nn, rfl⟩ := Int.eq_ofNat_of_zero_le hV.out.1
  have hdl := dec_len _ _ hV.out
  have hnb := hV.out.2.1
  generalize HD : dec ⟨kind, pl, di, co, ru⟩ = xs at *
  have hxl : (xs.length : Int) ≤ 65536 := by omega
  replace HD := hide HD
  replace hdl := hide hdl
  go_enter Yacn.func38, Yacn.ntmps38
  go_wp2_with (first
    | (go_at_call 92; refine (validCol kind pl di co ru a1 a2 a3 a4 c1 c2 c3 c4 nn _ (h.out.ext ((Ext.refl w).alloc _)) l2 l3 l4).mono ?_; rintro e w1 ⟨b, rfl, hb, hx⟩; have hb' : b = true := hb.2 hV.out; subst hb'; clear hb; have hbox := (Box.new w _ _).ext hx; have f0 := hbox 0 _ rfl; have f1 := hbox 1 _ rfl; have f2 := hbox 2 _ rfl; have f3 := hbox 3 _ rfl; have f4 := hbox 4 _ rfl; replace hbox := hide hbox; replace hx := hide hx)
    | (go_at_call 93; refine (decodeCol kind pl di co ru a1 a2 a3 a4 c1 c2 c3 c4 nn _ (h.out.ext (((Ext.refl w).alloc _).trans hx.out)) hV.out).mono ?_; rw [HD.out]; rintro e w2 ⟨a, cap, rfl, hown, hx2⟩; replace hown := hide hown; replace hx2 := hide ((((Ext.refl w).alloc _).trans hx.out).trans hx2)))
  clear f0 f1 f2 f3 f4 hbox
  go_loopw [11, 32] (fun v i wr => ∃ m : Nat, i = .int .i64 m ∧ m ≤ xs.length ∧ Hid (OwnI wr w2.heap.size 3 v (selTo 10 k xs m)) ∧ Hid (Ext w2 wr)) (fun _ i _ => xs.length - (intOf i).toNat)
  case atStart => exact ⟨0, rfl, by omega, OwnI.nil _ _ _, Ext.refl w2⟩
  obtain ⟨m, rfl, hm, hs, hext⟩ := hrel
  by_cases hlt : m < xs.length
  · have hlt' : (m : Int) < xs.length := by omega
    obtain ⟨b, off, rfl, g1⟩ := ((OwnI.ints hown.out).ext hext.out) m hlt
    have hit := selTo_hit 10 k xs m
    have miss := selTo_miss 10 k xs m
    have hln := selTo_len 10 k xs m
    have hb1 := cell_lt g1
    simp only at hb1
    generalize xs.getD m 0 = x at *
    generalize selTo 10 k xs m = ps at *
    have hbe : (applyI 10 x k != 0) = (decide (x ≤ k)) := b2n_ne _
    rw [hbe] at hit miss
    have hpl : ps.length < 2 ^ 39 := by omega
    clear hbe hln
    have hsz := hext.out.size
    cases hb : (decide (x ≤ k))
    · replace miss := hide (miss hb)
      clear hit
      go_wp2
      go_roundw
      case rel => exact ⟨m + 1, by go_num, by omega, by rw [← miss.out]; exact hs, hext⟩
      case measure => simp [intOf]; omega
    · replace hit := hide (hit hb)
      clear miss
      go_wp2_with (at_builtin; refine app_int rfl rfl w2.heap.size (by simp; omega) _ ps m rfl (hs.out.alloc _) wr.heap.size 1 (by rfl) (heap_alloc_new wr _) hpl ?_; intro g cap2 w3 hown2 hgr hor hlt2; replace hgr := hide hgr; replace hown2 := hide hown2; replace hor := hide hor)
      go_roundw
      case rel => exact ⟨m + 1, by go_num, by omega, hown2.out.congr hit.out, (hext.out.alloc _).grown hgr.out (fun q hq => hs.out.block q hq)⟩
      case measure => simp [intOf]; omega
  · have hmx : m = xs.length := by omega
    subst hmx
    obtain ⟨p, q, hv, _⟩ := hs.out.form
    subst hv
    go_wp2
    go_ret2
    exact ⟨_, _, rfl, hs.out.mono hx2.out.size, hx2.out.trans hext.out⟩

set_option maxHeartbeats 2000000 in
theorem ColumnSelect_11 (kind : Int) (n k : Int) (pl di co : List Int) (ru : List (Int × Int)) (a1 a2 a3 a4 : Option Addr) (c1 c2 c3 c4 : Nat) (w : World) (h : Hid (ColAt w ⟨kind, pl, di, co, ru⟩ a1 a2 a3 a4)) (l2 : di.length < 2 ^ 40) (l3 : co.length < 2 ^ 40) (l4 : ru.length < 2 ^ 40) (hV : Hid (Valid ⟨kind, pl, di, co, ru⟩ n)) :
    Calls Yacn.prog 38 #[colArg kind pl di co ru a1 a2 a3 a4 c1 c2 c3 c4, .int .i64 n, .int .i64 11, .int .i64 k] w (RetYes 3 (selTo 11 k (dec ⟨kind, pl, di, co, ru⟩) (dec ⟨kind, pl, di, co, ru⟩).length) w) := by
  obtain ⟨nn, rfl⟩ := Int.eq_ofNat_of_zero_le hV.out.1
  have hdl := dec_len _ _ hV.out
  have hnb := hV.out.2.1
  generalize HD : dec ⟨kind, pl, di, co, ru⟩ = xs at *
  have hxl : (xs.length : Int) ≤ 65536 := by omega
  replace HD := hide HD
  replace hdl := hide hdl
  go_enter Yacn.func38, Yacn.ntmps38
  go_wp2_with (first
    | (go_at_call 92; refine (validCol kind pl di co ru a1 a2 a3 a4 c1 c2 c3 c4 nn _ (h.out.ext ((Ext.refl w).alloc _)) l2 l3 l4).mono ?_; rintro e w1 ⟨b, rfl, hb, hx⟩; have hb' : b = true := hb.2 hV.out; subst hb'; clear hb; have hbox := (Box.new w _ _).ext hx; have f0 := hbox 0 _ rfl; have f1 := hbox 1 _ rfl; have f2 := hbox 2 _ rfl; have f3 := hbox 3 _ rfl; have f4 := hbox 4 _ rfl; replace hbox := hide hbox; replace hx := hide hx)
    | (go_at_call 93; refine (decodeCol kind pl di co ru a1 a2 a3 a4 c1 c2 c3 c4 nn _ (h.out.ext (((Ext.refl w).alloc _).trans hx.out)) hV.out).mono ?_; rw [HD.out]; rintro e w2 ⟨a, cap, rfl, hown, hx2⟩; replace hown := hide hown; replace hx2 := hide ((((Ext.refl w).alloc _).trans hx.out).trans hx2)))
  clear f0 f1 f2 f3 f4 hbox
  go_loopw [11, 32] (fun v i wr => ∃ m : Nat, i = .int .i64 m ∧ m ≤ xs.length ∧ Hid (OwnI wr w2.heap.size 3 v (selTo 11 k xs m)) ∧ Hid (Ext w2 wr)) (fun _ i _ => xs.length - (intOf i).toNat)
  case atStart => exact ⟨0, rfl, by omega, OwnI.nil _ _ _, Ext.refl w2⟩
  obtain ⟨m, rfl, hm, hs, hext⟩ := hrel
  by_cases hlt : m < xs.length
  · have hlt' : (m : Int) < xs.length := by omega
    obtain ⟨b, off, rfl, g1⟩ := ((OwnI.ints hown.out).ext hext.out) m hlt
    have hit := selTo_hit 11 k xs m
    have miss := selTo_miss 11 k xs m
    have hln := selTo_len 11 k xs m
    have hb1 := cell_lt g1
    simp only at hb1
    generalize xs.getD m 0 = x at *
    generalize selTo 11 k xs m = ps at *
    have hbe : (applyI 11 x k != 0) = (decide (k < x)) := b2n_ne _
    rw [hbe] at hit miss
    have hpl : ps.length < 2 ^ 39 := by omega
    clear hbe hln
    have hsz := hext.out.size
    cases hb : (decide (k < x))
    · replace miss := hide (miss hb)
      clear hit
      go_wp2
      go_roundw
      case rel => exact ⟨m + 1, by go_num, by omega, by rw [← miss.out]; exact hs, hext⟩
      case measure => simp [intOf]; omega
    · replace hit := hide (hit hb)
      clear miss
      go_wp2_with (at_builtin; refine app_int rfl rfl w2.heap.size (by simp; omega) _ ps m rfl (hs.out.alloc _) wr.heap.size 1 (by rfl) (heap_alloc_new wr _) hpl ?_; intro g cap2 w3 hown2 hgr hor hlt2; replace hgr := hide hgr; replace hown2 := hide hown2; replace hor := hide hor)
      go_roundw
      case rel => exact ⟨m + 1, by go_num, by omega, hown2.out.congr hit.out, (hext.out.alloc _).grown hgr.out (fun q hq => hs.out.block q hq)⟩
      case measure => simp [intOf]; omega
  · have hmx : m = xs.length := by omega
    subst hmx
    obtain ⟨p, q, hv, _⟩ := hs.out.form
    subst hv
    go_wp2
    go_ret2
    exact ⟨_, _, rfl, hs.out.mono hx2.out.size, hx2.out.trans hext.out⟩

set_option maxHeartbeats 2000000 in
theorem ColumnSelect_12 (kind : Int) (n k : Int) (pl di co : List Int) (ru : List (Int × Int)) (a1 a2 a3 a4 : Option Addr) (c1 c2 c3 c4 : Nat) (w : World) (h : Hid (ColAt w ⟨kind, pl, di, co, ru⟩ a1 a2 a3 a4)) (l2 : di.length < 2 ^ 40) (l3 : co.length < 2 ^ 40) (l4 : ru.length < 2 ^ 40) (hV : Hid (Valid ⟨kind, pl, di, co, ru⟩ n)) :
    Calls Yacn.prog 38 #[colArg kind pl di co ru a1 a2 a3 a4 c1 c2 c3 c4, .int .i64 n, .int .i64 12, .int .i64 k] w (RetYes 3 (selTo 12 k (dec ⟨kind, pl, di, co, ru⟩) (dec ⟨kind, pl, di, co, ru⟩).length) w) := by
  obtain ⟨nn, rfl⟩ := Int.eq_ofNat_of_zero_le hV.out.1
  have hdl := dec_len _ _ hV.out
  have hnb := hV.out.2.1
  generalize HD : dec ⟨kind, pl, di, co, ru⟩ = xs at *
  have hxl : (xs.length : Int) ≤ 65536 := by omega
  replace HD := hide HD
  replace hdl := hide hdl
  go_enter Yacn.func38, Yacn.ntmps38
  go_wp2_with (first
    | (go_at_call 92; refine (validCol kind pl di co ru a1 a2 a3 a4 c1 c2 c3 c4 nn _ (h.out.ext ((Ext.refl w).alloc _)) l2 l3 l4).mono ?_; rintro e w1 ⟨b, rfl, hb, hx⟩; have hb' : b = true := hb.2 hV.out; subst hb'; clear hb; have hbox := (Box.new w _ _).ext hx; have f0 := hbox 0 _ rfl; have f1 := hbox 1 _ rfl; have f2 := hbox 2 _ rfl; have f3 := hbox 3 _ rfl; have f4 := hbox 4 _ rfl; replace hbox := hide hbox; replace hx := hide hx)
    | (go_at_call 93; refine (decodeCol kind pl di co ru a1 a2 a3 a4 c1 c2 c3 c4 nn _ (h.out.ext (((Ext.refl w).alloc _).trans hx.out)) hV.out).mono ?_; rw [HD.out]; rintro e w2 ⟨a, cap, rfl, hown, hx2⟩; replace hown := hide hown; replace hx2 := hide ((((Ext.refl w).alloc _).trans hx.out).trans hx2)))
  clear f0 f1 f2 f3 f4 hbox
  go_loopw [11, 32] (fun v i wr => ∃ m : Nat, i = .int .i64 m ∧ m ≤ xs.length ∧ Hid (OwnI wr w2.heap.size 3 v (selTo 12 k xs m)) ∧ Hid (Ext w2 wr)) (fun _ i _ => xs.length - (intOf i).toNat)
  case atStart => exact ⟨0, rfl, by omega, OwnI.nil _ _ _, Ext.refl w2⟩
  obtain ⟨m, rfl, hm, hs, hext⟩ := hrel
  by_cases hlt : m < xs.length
  · have hlt' : (m : Int) < xs.length := by omega
    obtain ⟨b, off, rfl, g1⟩ := ((OwnI.ints hown.out).ext hext.out) m hlt
    have hit := selTo_hit 12 k xs m
    have miss := selTo_miss 12 k xs m
    have hln := selTo_len 12 k xs m
    have hb1 := cell_lt g1
    simp only at hb1
    generalize xs.getD m 0 = x at *
    generalize selTo 12 k xs m = ps at *
    have hbe : (applyI 12 x k != 0) = (decide (k ≤ x)) := b2n_ne _
    rw [hbe] at hit miss
    have hpl : ps.length < 2 ^ 39 := by omega
    clear hbe hln
    have hsz := hext.out.size
    cases hb : (decide (k ≤ x))
    · replace miss := hide (miss hb)
      clear hit
      go_wp2
      go_roundw
      case rel => exact ⟨m + 1, by go_num, by omega, by rw [← miss.out]; exact hs, hext⟩
      case measure => simp [intOf]; omega
    · replace hit := hide (hit hb)
      clear miss
      go_wp2_with (at_builtin; refine app_int rfl rfl w2.heap.size (by simp; omega) _ ps m rfl (hs.out.alloc _) wr.heap.size 1 (by rfl) (heap_alloc_new wr _) hpl ?_; intro g cap2 w3 hown2 hgr hor hlt2; replace hgr := hide hgr; replace hown2 := hide hown2; replace hor := hide hor)
      go_roundw
      case rel => exact ⟨m + 1, by go_num, by omega, hown2.out.congr hit.out, (hext.out.alloc _).grown hgr.out (fun q hq => hs.out.block q hq)⟩
      case measure => simp [intOf]; omega
  · have hmx : m = xs.length := by omega
    subst hmx
    obtain ⟨p, q, hv, _⟩ := hs.out.form
    subst hv
    go_wp2
    go_ret2
    exact ⟨_, _, rfl, hs.out.mono hx2.out.size, hx2.out.trans hext.out⟩

theorem ColumnSelect_yes (kind : Int) (n op k : Int) (pl di co : List Int) (ru : List (Int × Int)) (a1 a2 a3 a4 : Option Addr) (c1 c2 c3 c4 : Nat) (w : World) (h : Hid (ColAt w ⟨kind, pl, di, co, ru⟩ a1 a2 a3 a4)) (l2 : di.length < 2 ^ 40) (l3 : co.length < 2 ^ 40) (l4 : ru.length < 2 ^ 40) (hV : Hid (Valid ⟨kind, pl, di, co, ru⟩ n)) (h7 : 7 ≤ op) (h12 : op ≤ 12) :
    Calls Yacn.prog 38 #[colArg kind pl di co ru a1 a2 a3 a4 c1 c2 c3 c4, .int .i64 n, .int .i64 op, .int .i64 k] w (RetYes 3 (selTo op k (dec ⟨kind, pl, di, co, ru⟩) (dec ⟨kind, pl, di, co, ru⟩).length) w) := by
  by_cases e7 : op = 7
  · subst e7; exact ColumnSelect_7 kind n k pl di co ru a1 a2 a3 a4 c1 c2 c3 c4 w h l2 l3 l4 hV
  by_cases e8 : op = 8
  · subst e8; exact ColumnSelect_8 kind n k pl di co ru a1 a2 a3 a4 c1 c2 c3 c4 w h l2 l3 l4 hV
  by_cases e9 : op = 9
  · subst e9; exact ColumnSelect_9 kind n k pl di co ru a1 a2 a3 a4 c1 c2 c3 c4 w h l2 l3 l4 hV
  by_cases e10 : op = 10
  · subst e10; exact ColumnSelect_10 kind n k pl di co ru a1 a2 a3 a4 c1 c2 c3 c4 w h l2 l3 l4 hV
  by_cases e11 : op = 11
  · subst e11; exact ColumnSelect_11 kind n k pl di co ru a1 a2 a3 a4 c1 c2 c3 c4 w h l2 l3 l4 hV
  have e12 : op = 12 := by omega
  subst e12; exact ColumnSelect_12 kind n k pl di co ru a1 a2 a3 a4 c1 c2 c3 c4 w h l2 l3 l4 hV

set_option maxHeartbeats 2000000 in
theorem RefColumnSelect_yes (kind : Int) (n op k : Int) (pl di co : List Int) (ru : List (Int × Int)) (a1 a2 a3 a4 : Option Addr) (c1 c2 c3 c4 : Nat) (w : World) (h : Hid (ColAt w ⟨kind, pl, di, co, ru⟩ a1 a2 a3 a4)) (l2 : di.length < 2 ^ 40) (l3 : co.length < 2 ^ 40) (l4 : ru.length < 2 ^ 40) (hV : Hid (Valid ⟨kind, pl, di, co, ru⟩ n)) (h7 : ¬ op < 7) (h12 : ¬ 12 < op) :
    Calls Yacn.prog 36 #[colArg kind pl di co ru a1 a2 a3 a4 c1 c2 c3 c4, .int .i64 n, .int .i64 op, .int .i64 k] w (RetYes 3 (selTo op k (dec ⟨kind, pl, di, co, ru⟩) (dec ⟨kind, pl, di, co, ru⟩).length) w) := by
  have hdl := dec_len _ _ hV.out
  have hnb := hV.out.2.1
  generalize HD : dec ⟨kind, pl, di, co, ru⟩ = xs at *
  have hxl : (xs.length : Int) ≤ 65536 := by omega
  replace HD := hide HD
  replace hdl := hide hdl
  go_enter Yacn.func36, Yacn.ntmps36
  go_wp2_with (go_at_call 90; refine (RefDecodeColumn_yes kind n pl di co ru a1 a2 a3 a4 c1 c2 c3 c4 _ (h.out.ext ((Ext.refl w).alloc _)) l2 l3 l4 hV.out).mono ?_; rw [HD.out]; rintro e w2 ⟨a, cap, rfl, hown, hx2⟩; replace hown := hide hown; replace hx2 := hide (((Ext.refl w).alloc _).trans hx2))
  go_loopw [12, 13] (fun v i wr => ∃ m : Nat, i = .int .i64 m ∧ m ≤ xs.length ∧ Hid (OwnI wr w2.heap.size 3 v (selTo op k xs m)) ∧ Hid (Ext w2 wr)) (fun _ i _ => xs.length - (intOf i).toNat)
  case atStart => exact ⟨0, rfl, by omega, OwnI.nil _ _ _, Ext.refl w2⟩
  obtain ⟨m, rfl, hm, hs, hext⟩ := hrel
  by_cases hlt : m < xs.length
  · have hlt' : (m : Int) < xs.length := by omega
    obtain ⟨b, off, rfl, g1⟩ := ((OwnI.ints hown.out).ext hext.out) m hlt
    have hit := selTo_hit op k xs m
    have miss := selTo_miss op k xs m
    have hln := selTo_len op k xs m
    have hb1 := cell_lt g1
    simp only at hb1
    generalize xs.getD m 0 = x at *
    generalize selTo op k xs m = ps at *
    have hpl : ps.length < 2 ^ 39 := by omega
    have hsz := hext.out.size
    have hap := hide (apply op x k wr)
    generalize applyI op x k = v0 at *
    cases hb : (v0 != 0)
    · replace miss := hide (miss hb)
      clear hit
      go_wp2_with (go_at_call 71; refine hap.out.mono ?_; rintro e w1 ⟨rfl, rfl⟩)
      go_roundw
      case rel => exact ⟨m + 1, by go_num, by omega, by rw [← miss.out]; exact hs, hext⟩
      case measure => simp [intOf]; omega
    · replace hit := hide (hit hb)
      clear miss
      go_wp2_with (first | (go_at_call 71; refine hap.out.mono ?_; rintro e w1 ⟨rfl, rfl⟩) | (at_builtin; refine app_int rfl rfl w2.heap.size (by simp; omega) _ ps m rfl (hs.out.alloc _) _ 1 (by rfl) (heap_alloc_new _ _) hpl ?_; intro g cap2 w3 hown2 hgr hor hlt2; replace hgr := hide hgr; replace hown2 := hide hown2; replace hor := hide hor))
      go_roundw
      case rel => exact ⟨m + 1, by go_num, by omega, hown2.out.congr hit.out, (hext.out.alloc _).grown hgr.out (fun q hq => hs.out.block q hq)⟩
      case measure => simp [intOf]; omega
  · have hmx : m = xs.length := by omega
    subst hmx
    obtain ⟨p, q, hv, _⟩ := hs.out.form
    subst hv
    go_wp2
    go_ret2
    exact ⟨_, _, rfl, hs.out.mono hx2.out.size, hx2.out.trans hext.out⟩
end Go.Proofs.Ybyacw
