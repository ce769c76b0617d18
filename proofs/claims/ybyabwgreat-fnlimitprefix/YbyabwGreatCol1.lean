/- Walks: impl.validCol -/
import Derived.Test.YbyabwGreatProg
import Derived.Test.YbyabwGreatDraw
import Derived.Test.YbyabwGreatMem
import Derived.Test.YbyabwGreatPlain1
import Derived.KernelRfl
namespace Go.Proofs.YbyabwGreat
open Go.RowKit
set_option maxRecDepth 100000

structure ColAt (w : World) (c : Col) (a1 a2 a3 a4 : Option Addr) : Prop where
  plain : IntsAt w a1 c.plain
  dict : IntsAt w a2 c.dict
  codes : IntsAt w a3 c.codes
  runs : PairsAt w a4 c.runs

structure ColLen (c : Col) : Prop where
  plain : c.plain.length < 2 ^ 40
  dict : c.dict.length < 2 ^ 40
  codes : c.codes.length < 2 ^ 40
  runs : c.runs.length < 2 ^ 40

abbrev colArg (kind : Int) (pl di co : List Int) (ru : List (Int × Int)) (a1 a2 a3 a4 : Option Addr) (c1 c2 c3 c4 : Nat) : Value :=
  .agg #[.int .i64 kind, .slice a1 pl.length c1, .slice a2 di.length c2, .slice a3 co.length c3, .slice a4 ru.length c4]


set_option maxHeartbeats 1000000 in
theorem validCol_n (kind : Int) (pl di co : List Int) (ru : List (Int × Int)) (a1 a2 a3 a4 : Option Addr) (c1 c2 c3 c4 : Nat) (n : Int) (w : World) (hn : n < 0 ∨ 65536 < n) : Calls Yabn.prog 33 #[colArg kind pl di co ru a1 a2 a3 a4 c1 c2 c3 c4, .int .i64 n] w (RetBool (Valid ⟨kind, pl, di, co, ru⟩ n) w) := by
  have hv : ¬ Valid ⟨kind, pl, di, co, ru⟩ n := by unfold Valid; omega
  generalize Valid ⟨kind, pl, di, co, ru⟩ n = V at *
  replace hv : Hid _ := hv
  rcases hn with hn | hn
  · go_enter Yabn.func33, Yabn.ntmps33
    go_wp2
    go_ret; exact RetBool.no hv ((Ext.refl w).alloc _)
  · have hn' : ¬ n < 0 := by omega
    go_enter Yabn.func33, Yabn.ntmps33
    go_wp2
    go_ret; exact RetBool.no hv ((Ext.refl w).alloc _)

set_option maxHeartbeats 1000000 in
theorem validCol_other (kind : Int) (pl di co : List Int) (ru : List (Int × Int)) (a1 a2 a3 a4 : Option Addr) (c1 c2 c3 c4 : Nat) (n : Int) (w : World) (hn0 : ¬ n < 0) (hn1 : ¬ 65536 < n) (k0 : (kind == 0) = false) (k1 : (kind == 1) = false) (k2 : (kind == 2) = false) :
    Calls Yabn.prog 33 #[colArg kind pl di co ru a1 a2 a3 a4 c1 c2 c3 c4, .int .i64 n] w (RetBool (Valid ⟨kind, pl, di, co, ru⟩ n) w) := by
  have hv : ¬ Valid ⟨kind, pl, di, co, ru⟩ n := by
    unfold Valid
    have : kind ≠ 0 := by simpa using k0
    have : kind ≠ 1 := by simpa using k1
    have : kind ≠ 2 := by simpa using k2
    simp only
    omega
  generalize Valid ⟨kind, pl, di, co, ru⟩ n = V at *
  replace hv : Hid _ := hv
  go_enter Yabn.func33, Yabn.ntmps33
  go_wp2
  go_ret; exact RetBool.no hv ((Ext.refl w).alloc _)

set_option maxHeartbeats 1000000 in
theorem validCol_0 (pl di co : List Int) (ru : List (Int × Int)) (a1 a2 a3 a4 : Option Addr) (c1 c2 c3 c4 : Nat) (n : Int) (w : World) (hn0 : ¬ n < 0) (hn1 : ¬ 65536 < n) : Calls Yabn.prog 33 #[colArg 0 pl di co ru a1 a2 a3 a4 c1 c2 c3 c4, .int .i64 n] w (RetBool (Valid ⟨0, pl, di, co, ru⟩ n) w) := by
  have hv : (((pl.length : Int) == n) = true) ↔ Valid ⟨0, pl, di, co, ru⟩ n := by simp [Valid]; omega
  generalize Valid ⟨0, pl, di, co, ru⟩ n = V at *
  replace hv : Hid _ := hv
  go_enter Yabn.func33, Yabn.ntmps33
  go_wp2
  go_ret; exact RetBool.mk hv ((Ext.refl w).alloc _)

set_option maxHeartbeats 1000000 in
theorem validCol_1 (pl di co : List Int) (ru : List (Int × Int)) (a1 a2 a3 a4 : Option Addr) (c1 c2 c3 c4 : Nat) (n : Int) (w : World) (hn0 : ¬ n < 0) (hn1 : ¬ 65536 < n) (h : Hid (ColAt w ⟨1, pl, di, co, ru⟩ a1 a2 a3 a4)) (l2 : di.length < 2 ^ 40) (l3 : co.length < 2 ^ 40) :
    Calls Yabn.prog 33 #[colArg 1 pl di co ru a1 a2 a3 a4 c1 c2 c3 c4, .int .i64 n] w (RetBool (Valid ⟨1, pl, di, co, ru⟩ n) w) := by
  have hv : Valid ⟨1, pl, di, co, ru⟩ n ↔ di.length ≤ 65536 ∧ Rising di ∧ (co.length : Int) = n ∧ CodesOK ⟨1, pl, di, co, ru⟩ := by
    constructor
    · intro hv; exact ((hv.2.2.resolve_left (by simp)).resolve_right (by simp)).2
    · intro hv; exact ⟨by omega, by omega, .inr (.inl ⟨rfl, hv⟩)⟩
  generalize Valid ⟨1, pl, di, co, ru⟩ n = V at *
  replace hv : Hid _ := hv
  by_cases hd : 65536 < (di.length : Int)
  · go_enter Yabn.func33, Yabn.ntmps33
    go_wp2
    go_ret; exact RetBool.no (by rw [hv.out]; omega) ((Ext.refl w).alloc _)
  go_enter Yabn.func33, Yabn.ntmps33
  go_wp2
  go_loopw [5] (fun i wr => ∃ k : Nat, i = .int .i64 k ∧ k ≤ di.length ∧ Hid (∀ j, j + 1 < di.length → j < k → di.getD j 0 < di.getD (j + 1) 0) ∧ Ext w wr ∧ Hid (Box wr w.heap.size [.int .i64 1, .slice a1 pl.length c1, .slice a2 di.length c2, .slice a3 co.length c3, .slice a4 ru.length c4])) (fun i _ => di.length - (intOf i).toNat)
  case atStart => exact ⟨0, rfl, by omega, fun j _ hj => by omega, (Ext.refl w).alloc _, Box.new w _ _⟩
  obtain ⟨k, rfl, hk, hinv, hext, hbox⟩ := hrel
  have f2 := hbox.out 2 _ rfl
  have f3 := hbox.out 3 _ rfl
  by_cases hlt : k + 1 < di.length
  · obtain ⟨b, off, rfl, hc⟩ := (h.out.dict.ext hext) k (by simp; omega)
    have hc' := (h.out.dict.ext hext).at (k + 1) hlt
    have hlt' : (k : Int) + 1 < di.length := by omega
    simp only at hc hc'
    generalize HX : di.getD k 0 = x at hc
    generalize HY : di.getD (k + 1) 0 = y at hc'
    replace HX : Hid _ := HX
    replace HY : Hid _ := HY
    go_wp2
    refine Dr.region_text (by kernel_rfl) ?_
    go_wp2
    refine ⟨by rfl, ?_⟩
    go_wp2
    · go_ret
      refine RetBool.no ?_ hext.drew
      rw [hv.out]
      intro hv
      have := hv.2.1 k hlt
      rw [HX.out, HY.out] at this
      omega
    · go_roundw
      case rel =>
        refine ⟨k + 1, by go_num, by omega, ?_, hext.drew, hbox.out.drew⟩
        intro j hj hjk
        by_cases hjk' : j < k
        · exact hinv.out j hj hjk'
        · have : j = k := by omega
          subst this
          rw [HX.out, HY.out]
          omega
      case measure => simp [intOf]; omega
  have HR : Hid (Rising di) := fun j hj => hinv.out j hj (by omega)
  clear hinv
  by_cases hc : (co.length : Int) = n
  · have hcb : ((co.length : Int) != n) = false := by simp [hc]
    replace hc : Hid _ := hc
    go_wp2
    clear f2 f3
    go_loopw [60] (fun i wq => ∃ m : Nat, i = .int .i64 m ∧ m ≤ co.length ∧ Hid (∀ j, j < m → 0 ≤ co.getD j 0 ∧ co.getD j 0 < di.length) ∧ Ext w wq ∧ Hid (Box wq w.heap.size [.int .i64 1, .slice a1 pl.length c1, .slice a2 di.length c2, .slice a3 co.length c3, .slice a4 ru.length c4])) (fun i _ => co.length - (intOf i).toNat)
    case atStart => exact ⟨0, rfl, by omega, fun j hj => by omega, hext, hbox⟩
    clear hext hbox
    obtain ⟨m, rfl, hm, hinv, hext, hbox⟩ := hrel
    have f2 := hbox.out 2 _ rfl
    by_cases hlm : m < co.length
    · obtain ⟨b, off, rfl, hc⟩ := (h.out.codes.ext hext) m hlm
      have hlm' : (m : Int) < co.length := by omega
      simp only at hc
      generalize HX : co.getD m 0 = x at hc
      replace HX : Hid _ := HX
      have hno : (x < 0 ∨ (di.length : Int) ≤ x) → ¬ V := by
        intro hx
        rw [hv.out]
        intro hv
        have := hv.2.2.2 m hlm
        simp only at this
        rw [HX.out] at this
        omega
      replace hno : Hid _ := hno
      by_cases hx0 : x < 0
      · go_wp2
        go_ret
        exact RetBool.no (hno.out (.inl hx0)) hext
      by_cases hx1 : (di.length : Int) ≤ x
      · go_wp2
        go_ret
        exact RetBool.no (hno.out (.inr hx1)) hext
      · go_wp2
        go_roundw
        case rel =>
          refine ⟨m + 1, by go_num, by omega, ?_, hext, hbox⟩
          intro j hj
          by_cases hjk' : j < m
          · exact hinv.out j hjk'
          · have : j = m := by omega
            subst this
            rw [HX.out]
            omega
        case measure => simp [intOf]; omega
    · go_wp2
      go_ret
      refine RetBool.yes ?_ hext
      rw [hv.out]
      exact ⟨by omega, HR.out, hc.out, fun j hj => hinv.out j (by simp only at hj; omega)⟩
  · have hcb : ((co.length : Int) != n) = true := by simp [hc]
    replace hc : Hid _ := hc
    go_wp2
    go_ret
    exact RetBool.no (by rw [hv.out]; intro h'; exact hc.out h'.2.2.1) hext

set_option maxHeartbeats 1000000 in
theorem validCol_2 (pl di co : List Int) (ru : List (Int × Int)) (a1 a2 a3 a4 : Option Addr) (c1 c2 c3 c4 : Nat) (n : Int) (w : World) (hn0 : ¬ n < 0) (hn1 : ¬ 65536 < n) (h : Hid (ColAt w ⟨2, pl, di, co, ru⟩ a1 a2 a3 a4)) (l4 : ru.length < 2 ^ 40) :
    Calls Yabn.prog 33 #[colArg 2 pl di co ru a1 a2 a3 a4 c1 c2 c3 c4, .int .i64 n] w (RetBool (Valid ⟨2, pl, di, co, ru⟩ n) w) := by
  have hv : Valid ⟨2, pl, di, co, ru⟩ n ↔ RunsOK ru ∧ sumTo ru ru.length = n := by
    constructor
    · intro hv; exact ((hv.2.2.resolve_left (by simp)).resolve_left (by simp)).2
    · intro hv; exact ⟨by omega, by omega, .inr (.inr ⟨rfl, hv⟩)⟩
  generalize Valid ⟨2, pl, di, co, ru⟩ n = V at *
  replace hv : Hid _ := hv
  by_cases hd : 65536 < (ru.length : Int)
  · go_enter Yabn.func33, Yabn.ntmps33
    go_wp2
    go_ret; exact RetBool.no (by rw [hv.out, RunsOK]; omega) ((Ext.refl w).alloc _)
  go_enter Yabn.func33, Yabn.ntmps33
  go_wp2
  go_loopw [8, 83] (fun s i wr => ∃ k : Nat, i = .int .i64 k ∧ k ≤ ru.length ∧ s = .int .i64 (sumTo ru k) ∧ Hid (∀ j, j < k → 1 ≤ (ru.getD j (0, 0)).2 ∧ (ru.getD j (0, 0)).2 ≤ 65536) ∧ Ext w wr) (fun _ i _ => ru.length - (intOf i).toNat)
  case atStart => exact ⟨0, rfl, by omega, rfl, fun j hj => by omega, (Ext.refl w).alloc _⟩
  obtain ⟨k, rfl, hk, rfl, hinv, hext⟩ := hrel
  have hbd := sumTo_bd ru k hk hinv.out
  by_cases hlt : k < ru.length
  · obtain ⟨b, off, rfl, hc, hd'⟩ := (h.out.runs.ext hext) k hlt
    have hlt' : (k : Int) < ru.length := by omega
    have hss : Hid _ := sumTo_succ ru k hlt
    simp only at hc hd'
    generalize HX : (ru.getD k (0, 0)).1 = x at hc
    generalize HY : (ru.getD k (0, 0)).2 = y at hd' hss
    replace HX : Hid _ := HX
    replace HY : Hid _ := HY
    generalize sumTo ru k = sk at *
    have hno : (y < 1 ∨ 65536 < y) → ¬ V := by
      intro hy
      rw [hv.out]
      intro hv
      have := hv.1.2 k hlt
      rw [HY.out] at this
      omega
    replace hno : Hid _ := hno
    have hb : b < wr.heap.size := cell_lt hc
    by_cases hy1 : y < 1
    · go_wp2
      go_ret
      exact RetBool.no (hno.out (.inl hy1)) (hext.alloc _)
    by_cases hy2 : 65536 < y
    · go_wp2
      go_ret
      exact RetBool.no (hno.out (.inr hy2)) (hext.alloc _)
    · go_wp2
      go_roundw
      case rel =>
        refine ⟨k + 1, by go_num, by omega, by rw [hss.out], ?_, hext.alloc _⟩
        intro j hj
        by_cases hjk' : j < k
        · exact hinv.out j hjk'
        · have : j = k := by omega
          subst this
          rw [HY.out]
          omega
      case measure => simp [intOf]; omega
  · have : k = ru.length := by omega
    subst this
    go_wp2
    go_ret
    refine RetBool.mk ?_ hext
    rw [hv.out]
    simp
    intro _
    exact ⟨by omega, hinv.out⟩

theorem validCol (kind : Int) (pl di co : List Int) (ru : List (Int × Int)) (a1 a2 a3 a4 : Option Addr) (c1 c2 c3 c4 : Nat) (n : Int) (w : World) (h : ColAt w ⟨kind, pl, di, co, ru⟩ a1 a2 a3 a4) (l2 : di.length < 2 ^ 40) (l3 : co.length < 2 ^ 40) (l4 : ru.length < 2 ^ 40) :
    Calls Yabn.prog 33 #[colArg kind pl di co ru a1 a2 a3 a4 c1 c2 c3 c4, .int .i64 n] w (RetBool (Valid ⟨kind, pl, di, co, ru⟩ n) w) := by
  by_cases hn : n < 0 ∨ 65536 < n
  · exact validCol_n kind pl di co ru a1 a2 a3 a4 c1 c2 c3 c4 n w hn
  have h0 : ¬ n < 0 := by omega
  have h1 : ¬ 65536 < n := by omega
  by_cases k0 : kind = 0
  · subst k0; exact validCol_0 pl di co ru a1 a2 a3 a4 c1 c2 c3 c4 n w h0 h1
  by_cases k1 : kind = 1
  · subst k1; exact validCol_1 pl di co ru a1 a2 a3 a4 c1 c2 c3 c4 n w h0 h1 h l2 l3
  by_cases k2 : kind = 2
  · subst k2; exact validCol_2 pl di co ru a1 a2 a3 a4 c1 c2 c3 c4 n w h0 h1 h l4
  exact validCol_other kind pl di co ru a1 a2 a3 a4 c1 c2 c3 c4 n w h0 h1 (by simp [k0]) (by simp [k1]) (by simp [k2])

end Go.Proofs.YbyabwGreat
