/- Walks: spec.RefDecodeColumn, runs; the contract -/
import Derived.Test.YbyabwGreatCol4
namespace Go.Proofs.YbyabwGreat
open Go.RowKit
set_option maxRecDepth 100000
set_option linter.unusedVariables false


theorem decRuns_take_add (ru : List (Int × Int)) (k : Nat) (h : k < ru.length) (j : Nat) :
    decRuns (ru.take k) ++ List.replicate j (ru.getD k (0, 0)).1 ++ [(ru.getD k (0, 0)).1] = decRuns (ru.take k) ++ List.replicate (j + 1) (ru.getD k (0, 0)).1 := by
  rw [List.replicate_succ', List.append_assoc]
theorem decRuns_take_succ (ru : List (Int × Int)) (k : Nat) (h : k < ru.length) :
    decRuns (ru.take (k + 1)) = decRuns (ru.take k) ++ List.replicate (ru.getD k (0, 0)).2.toNat (ru.getD k (0, 0)).1 := by
  rw [List.take_succ_eq_append_getElem h, decRuns_append]
  simp [decRuns, List.getElem?_eq_getElem h]

set_option maxHeartbeats 2000000 in
theorem refDec_2 (n : Nat) (pl di co : List Int) (ru : List (Int × Int)) (a1 a2 a3 a4 : Option Addr) (c1 c2 c3 c4 : Nat) (w : World) (hn : n ≤ 65536) (h : Hid (ColAt w ⟨2, pl, di, co, ru⟩ a1 a2 a3 a4)) (l4 : ru.length < 2 ^ 40) :
    Calls Yabn.prog 52 #[colArg 2 pl di co ru a1 a2 a3 a4 c1 c2 c3 c4, .int .i64 n] w (RetVI (Valid ⟨2, pl, di, co, ru⟩ n) 2 (decRuns ru) w) := by
  have hv : Valid ⟨2, pl, di, co, ru⟩ n ↔ RunsOK ru ∧ sumTo ru ru.length = n := by
    constructor
    · intro hv; exact ((hv.2.2.resolve_left (by simp)).resolve_left (by simp)).2
    · intro hv; exact ⟨by omega, by omega, .inr (.inr ⟨rfl, hv⟩)⟩
  generalize Valid ⟨2, pl, di, co, ru⟩ n = V at *
  replace hv := hide hv
  by_cases hd : 65536 < (ru.length : Int)
  · go_enter Yabn.func52, Yabn.ntmps52
    go_wp2_with (at_make; refine mk0_i64 rfl rfl n rfl (by omega) (w.heap.size + 1) (by simp) ?_; intro w1 hown hx1 hsz; have hbox := (Box.new w _ _).ext hx1; have f0 := hbox 0 _ rfl; have f1 := hbox 1 _ rfl; have f2 := hbox 2 _ rfl; have f3 := hbox 3 _ rfl; have f4 := hbox 4 _ rfl; replace hown := hide hown; replace hbox := hide hbox; replace hx1 := hide (((Ext.refl w).alloc _).trans hx1))
    go_ret2; exact RetVI.no (by rw [hv.out, RunsOK]; omega) hx1
  go_enter Yabn.func52, Yabn.ntmps52
  go_wp2_with (at_make; refine mk0_i64 rfl rfl n rfl (by omega) (w.heap.size + 1) (by simp) ?_; intro w1 hown hx1 hsz; have hbox := (Box.new w _ _).ext hx1; have f0 := hbox 0 _ rfl; have f1 := hbox 1 _ rfl; have f2 := hbox 2 _ rfl; have f3 := hbox 3 _ rfl; have f4 := hbox 4 _ rfl; replace hown := hide hown; replace hbox := hide hbox; replace hx1 := hide (((Ext.refl w).alloc _).trans hx1))
  clear f0 f1 f2 f3 f4 hsz
  go_loopw [11, 12] (fun s i wr => ∃ k : Nat, i = .int .i64 k ∧ k ≤ ru.length ∧ s = .int .i64 (sumTo ru k) ∧ Hid (∀ j, j < k → 1 ≤ (ru.getD j (0, 0)).2 ∧ (ru.getD j (0, 0)).2 ≤ 65536) ∧ wr = w1) (fun _ i _ => ru.length - (intOf i).toNat)
  case atStart => exact ⟨0, rfl, by omega, rfl, fun j hj => by omega, rfl⟩
  obtain ⟨k, rfl, hk, rfl, hinv, rfl⟩ := hrel
  have f4 := hbox.out 4 _ rfl
  have hbd := sumTo_bd ru k hk hinv.out
  by_cases hlt : k < ru.length
  · obtain ⟨b, off, rfl, hc, hd'⟩ := (h.out.runs.ext hx1.out) k hlt
    have hlt' : (k : Int) < ru.length := by omega
    have hss : Hid _ := sumTo_succ ru k hlt
    simp only at hc hd'
    generalize HX : (ru.getD k (0, 0)).1 = x at hc
    generalize HY : (ru.getD k (0, 0)).2 = y at hd' hss
    replace HX := hide HX
    replace HY := hide HY
    generalize sumTo ru k = sk at *
    have hno : (y < 1 ∨ 65536 < y) → ¬ V := by
      intro hy
      rw [hv.out]
      intro hv
      have := hv.1.2 k hlt
      rw [HY.out] at this
      omega
    replace hno := hide hno
    by_cases hy1 : y < 1
    · go_wp2
      go_ret2
      exact RetVI.no (hno.out (.inl hy1)) hx1
    by_cases hy2 : 65536 < y
    · go_wp2
      go_ret2
      exact RetVI.no (hno.out (.inr hy2)) hx1
    · go_wp2
      go_roundw
      case rel =>
        refine ⟨k + 1, by go_num, by omega, by rw [hss.out], ?_, trivial⟩
        intro j hj
        by_cases hjk' : j < k
        · exact hinv.out j hjk'
        · have : j = k := by omega
          subst this
          rw [HY.out]
          omega
      case measure => simp [intOf]; omega
  have hkl : k = ru.length := by omega
  subst hkl
  by_cases hsum : sumTo ru ru.length = n
  case neg =>
    have hsb : (sumTo ru ru.length != n) = true := by simp [hsum]
    replace hsum := hide hsum
    go_wp2
    go_ret2
    exact RetVI.no (by rw [hv.out]; exact fun h => hsum.out h.2) hx1
  have hsb : (sumTo ru ru.length != n) = false := by simp [hsum]
  have hlen : (decRuns ru).length = n := by
    have := decRuns_len ru ru.length (Nat.le_refl _) (fun i hi => hinv.out i hi)
    rw [List.take_length] at this
    omega
  replace hsum := hide hsum
  replace hlen := hide hlen
  have hok : Hid (∀ k, k < ru.length → (decRuns (ru.take k)).length ≤ n) := by
    intro k hk
    have e4 : (decRuns (ru.take k)).length ≤ (decRuns ru).length := by
      conv => rhs; rw [← List.take_append_drop k ru, decRuns_append]
      simp
    have := hlen.out
    omega
  generalize sumTo ru ru.length = SS at *
  go_wp2
  clear f4
  go_loopw [6, 14] (fun v i wr => ∃ k : Nat, i = .int .i64 k ∧ k ≤ ru.length ∧ Hid (OwnI wr (w.heap.size + 1) 2 v (decRuns (ru.take k))) ∧ Hid (Ext w wr) ∧ Hid (Box wr w.heap.size [.int .i64 2, .slice a1 pl.length c1, .slice a2 di.length c2, .slice a3 co.length c3, .slice a4 ru.length c4])) (fun _ i _ => ru.length - (intOf i).toNat)
  case atStart => exact ⟨0, rfl, by omega, hown, hx1, hbox⟩
  clear hown hx1 hbox
  obtain ⟨k, rfl, hk, hown, hext, hbox⟩ := hrel
  have f4 := hbox.out 4 _ rfl
  by_cases hlt : k < ru.length
  · have hlt' : (k : Int) < ru.length := by omega
    have hcy := hinv.out k hlt
    have hkl := hok.out k hlt
    have hts := decRuns_take_succ ru k hlt
    have hadd := decRuns_take_add ru k hlt
    obtain ⟨b, off, e4, _⟩ := h.out.runs k hlt
    have hrun := h.out.runs
    rw [e4] at hrun
    have hat := hrun.at k hlt
    subst e4
    simp only at hat
    generalize (ru.getD k (0, 0)).1 = x at *
    generalize (ru.getD k (0, 0)).2 = y at *
    obtain ⟨q, rfl⟩ := Int.eq_ofNat_of_zero_le (show 0 ≤ y by omega)
    rw [Int.toNat_natCast] at hts
    generalize decRuns (ru.take k) = ps at *
    replace hts := hide hts
    replace hadd := hide hadd
    replace hat := hide hat
    clear hrun
    obtain ⟨W, rfl⟩ : ∃ W, W = wr := ⟨_, rfl⟩
    go_wp2
    clear f4
    go_loopw [6, 15] (fun v i wr => ∃ j : Nat, i = .int .i64 j ∧ j ≤ q ∧ Hid (OwnI wr (w.heap.size + 1) 2 v (ps ++ List.replicate j x)) ∧ Hid (Ext w wr) ∧ Hid (Box wr w.heap.size [.int .i64 2, .slice a1 pl.length c1, .slice a2 di.length c2, .slice a3 co.length c3, .slice (some ⟨b, off, none⟩) ru.length c4])) (fun _ i _ => q - (intOf i).toNat)
    case atStart => exact ⟨0, rfl, by omega, by simpa using hown, hext, hbox⟩
    clear hown hext hbox
    obtain ⟨j, rfl, hj, hown, hext, hbox⟩ := hrel
    have f4 := hbox.out 4 _ rfl
    have g1 := hext.out.cell hat.out.1
    have g2 := hext.out.cell hat.out.2
    by_cases hjq : j < q
    · have hjq' : (j : Int) < q := by omega
      have hln : (ps ++ List.replicate j x).length < 2 ^ 39 := by simp; omega
      have hb2 : b < wr.heap.size := cell_lt g1
      have hbs : w.heap.size < wr.heap.size := cell_lt f4
      have hadj := hadd.out j
      generalize ps ++ List.replicate j x = pj at *
      replace hadj := hide hadj
      replace hln := hide hln
      go_wp2_with (at_builtin; refine app_i64 rfl rfl (w.heap.size + 1) (by simp; omega) _ pj x rfl (hown.out.alloc _) wr.heap.size 1 (by rfl) (heap_alloc_new wr _) hln.out ?_; intro g cap w2 hown2 hgr hor hlt2; replace hgr := hide hgr; replace hown2 := hide hown2; replace hor := hide hor)
      go_roundw
      case rel =>
        refine ⟨j + 1, by go_num, by omega, hown2.out.congr hadj.out, (hext.out.alloc _).grown hgr.out ?_, (hbox.out.alloc _).grown hgr.out ?_⟩
        · intro q hq; have := hown.out.block q hq; omega
        · intro hq; have := hown.out.block _ hq; omega
      case measure => simp [intOf]; omega
    · have hjq : j = q := by omega
      subst hjq
      go_wp2
      go_roundw
      case rel => exact ⟨k + 1, by go_num, by omega, by rw [hts.out]; exact hown, hext, hbox⟩
      case measure => simp [intOf]; omega
  · have hkl : k = ru.length := by omega
    subst hkl
    go_wp2
    go_ret2
    rw [List.take_length] at hown
    refine RetVI.yes ?_ hown.out (by omega) hext
    rw [hv.out]
    exact ⟨⟨by omega, hinv.out⟩, hsum.out⟩

/-- THE CONTRACT of RefDecodeColumn. -/
theorem RefDecodeColumn (kind : Int) (n : Int) (pl di co : List Int) (ru : List (Int × Int)) (a1 a2 a3 a4 : Option Addr) (c1 c2 c3 c4 : Nat) (w : World) (h : ColAt w ⟨kind, pl, di, co, ru⟩ a1 a2 a3 a4) (l2 : di.length < 2 ^ 40) (l3 : co.length < 2 ^ 40) (l4 : ru.length < 2 ^ 40) :
    Calls Yabn.prog 52 #[colArg kind pl di co ru a1 a2 a3 a4 c1 c2 c3 c4, .int .i64 n] w (RetVI (Valid ⟨kind, pl, di, co, ru⟩ n) 2 (dec ⟨kind, pl, di, co, ru⟩) w) := by
  by_cases hn : n < 0 ∨ 65536 < n
  · exact refDec_n kind n pl di co ru a1 a2 a3 a4 c1 c2 c3 c4 w hn _
  obtain ⟨m, rfl⟩ := Int.eq_ofNat_of_zero_le (show 0 ≤ n by omega)
  have hm : m ≤ 65536 := by omega
  by_cases k0 : kind = 0
  · subst k0; exact refDec_0 m pl di co ru a1 a2 a3 a4 c1 c2 c3 c4 w hm h
  by_cases k1 : kind = 1
  · subst k1; exact refDec_1 m pl di co ru a1 a2 a3 a4 c1 c2 c3 c4 w hm h l2 l3
  by_cases k2 : kind = 2
  · subst k2; exact refDec_2 m pl di co ru a1 a2 a3 a4 c1 c2 c3 c4 w hm h l4
  exact refDec_other kind m pl di co ru a1 a2 a3 a4 c1 c2 c3 c4 w hm (by simp [k0]) (by simp [k1]) (by simp [k2]) _

theorem RefDecodeColumn_yes (kind : Int) (n : Int) (pl di co : List Int) (ru : List (Int × Int)) (a1 a2 a3 a4 : Option Addr) (c1 c2 c3 c4 : Nat) (w : World) (h : ColAt w ⟨kind, pl, di, co, ru⟩ a1 a2 a3 a4) (l2 : di.length < 2 ^ 40) (l3 : co.length < 2 ^ 40) (l4 : ru.length < 2 ^ 40) (hv : Valid ⟨kind, pl, di, co, ru⟩ n) :
    Calls Yabn.prog 52 #[colArg kind pl di co ru a1 a2 a3 a4 c1 c2 c3 c4, .int .i64 n] w (RetYes 2 (dec ⟨kind, pl, di, co, ru⟩) w) :=
  (RefDecodeColumn kind n pl di co ru a1 a2 a3 a4 c1 c2 c3 c4 w h l2 l3 l4).mono fun e w' hr => hr.elim (fun h => h.2) (fun h => absurd hv h.1)
theorem RefDecodeColumn_no (kind : Int) (n : Int) (pl di co : List Int) (ru : List (Int × Int)) (a1 a2 a3 a4 : Option Addr) (c1 c2 c3 c4 : Nat) (w : World) (h : ColAt w ⟨kind, pl, di, co, ru⟩ a1 a2 a3 a4) (l2 : di.length < 2 ^ 40) (l3 : co.length < 2 ^ 40) (l4 : ru.length < 2 ^ 40) (hv : ¬ Valid ⟨kind, pl, di, co, ru⟩ n) :
    Calls Yabn.prog 52 #[colArg kind pl di co ru a1 a2 a3 a4 c1 c2 c3 c4, .int .i64 n] w (RetNo w) :=
  (RefDecodeColumn kind n pl di co ru a1 a2 a3 a4 c1 c2 c3 c4 w h l2 l3 l4).mono fun e w' hr => hr.elim (fun h => absurd h.1 hv) (fun h => h.2)

end Go.Proofs.YbyabwGreat
