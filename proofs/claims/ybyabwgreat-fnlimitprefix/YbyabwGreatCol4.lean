/- Walks: spec.RefDecodeColumn -/
import Derived.Test.YbyabwGreatCol3
namespace Go.Proofs.YbyabwGreat
open Go.RowKit
set_option maxRecDepth 100000
set_option linter.unusedVariables false

/-- (new slice, true) under p; else (nil, false). -/
def RetVI (p : Prop) (e : TypeId) (xs : List Int) (w : World) : Ending → World → Prop := fun en w' => (p ∧ RetYes e xs w en w') ∨ (¬ p ∧ RetNo w en w')

theorem RetVI.no {p : Prop} {e : TypeId} {xs : List Int} {w w' : World} (h : ¬ p) (he : Ext w w') : RetVI p e xs w (.returned (.tuple #[.slice none 0 0, .bool false])) w' := .inr ⟨h, rfl, he⟩
theorem RetVI.yes {p : Prop} {e : TypeId} {xs : List Int} {w w' : World} {v : Value} {base : Nat} (h : p) (ho : OwnI w' base e v xs) (hb : w.heap.size ≤ base) (he : Ext w w') : RetVI p e xs w (.returned (.tuple #[v, .bool true])) w' := by
  obtain ⟨a, cap, rfl, _⟩ := ho.form
  exact .inl ⟨h, a, cap, rfl, ho.mono hb, he⟩


set_option maxHeartbeats 1000000 in
theorem refDec_n (kind : Int) (n : Int) (pl di co : List Int) (ru : List (Int × Int)) (a1 a2 a3 a4 : Option Addr) (c1 c2 c3 c4 : Nat) (w : World) (hn : n < 0 ∨ 65536 < n) (xs : List Int) : Calls Yabn.prog 52 #[colArg kind pl di co ru a1 a2 a3 a4 c1 c2 c3 c4, .int .i64 n] w (RetVI (Valid ⟨kind, pl, di, co, ru⟩ n) 2 xs w) := by
  have hv : ¬ Valid ⟨kind, pl, di, co, ru⟩ n := by unfold Valid; omega
  generalize Valid ⟨kind, pl, di, co, ru⟩ n = V at *
  replace hv := hide hv
  rcases hn with hn | hn
  · go_enter Yabn.func52, Yabn.ntmps52
    go_wp2
    go_ret2; exact RetVI.no hv ((Ext.refl w).alloc _)
  · have hn' : ¬ n < 0 := by omega
    go_enter Yabn.func52, Yabn.ntmps52
    go_wp2
    go_ret2; exact RetVI.no hv ((Ext.refl w).alloc _)

set_option maxHeartbeats 1000000 in
theorem refDec_other (kind : Int) (n : Nat) (pl di co : List Int) (ru : List (Int × Int)) (a1 a2 a3 a4 : Option Addr) (c1 c2 c3 c4 : Nat) (w : World) (hn : n ≤ 65536) (k0 : (kind == 0) = false) (k1 : (kind == 1) = false) (k2 : (kind == 2) = false) (xs : List Int) :
    Calls Yabn.prog 52 #[colArg kind pl di co ru a1 a2 a3 a4 c1 c2 c3 c4, .int .i64 n] w (RetVI (Valid ⟨kind, pl, di, co, ru⟩ n) 2 xs w) := by
  have hv : ¬ Valid ⟨kind, pl, di, co, ru⟩ n := by
    unfold Valid
    have : kind ≠ 0 := by simpa using k0
    have : kind ≠ 1 := by simpa using k1
    have : kind ≠ 2 := by simpa using k2
    simp only
    omega
  generalize Valid ⟨kind, pl, di, co, ru⟩ n = V at *
  replace hv := hide hv
  go_enter Yabn.func52, Yabn.ntmps52
  go_wp2_with (at_make; refine mk0_i64 rfl rfl n rfl (by omega) (w.heap.size + 1) (by simp) ?_; intro w1 hown hx1 hsz; have hbox := (Box.new w _ _).ext hx1; have f0 := hbox 0 _ rfl; have f1 := hbox 1 _ rfl; have f2 := hbox 2 _ rfl; have f3 := hbox 3 _ rfl; have f4 := hbox 4 _ rfl; replace hown := hide hown; replace hbox := hide hbox; replace hx1 := hide (((Ext.refl w).alloc _).trans hx1))
  go_ret2; exact RetVI.no hv hx1

set_option maxHeartbeats 1000000 in
theorem refDec_0 (n : Nat) (pl di co : List Int) (ru : List (Int × Int)) (a1 a2 a3 a4 : Option Addr) (c1 c2 c3 c4 : Nat) (w : World) (hn : n ≤ 65536) (h : Hid (ColAt w ⟨0, pl, di, co, ru⟩ a1 a2 a3 a4)) :
    Calls Yabn.prog 52 #[colArg 0 pl di co ru a1 a2 a3 a4 c1 c2 c3 c4, .int .i64 n] w (RetVI (Valid ⟨0, pl, di, co, ru⟩ n) 2 pl w) := by
  have hv : Valid ⟨0, pl, di, co, ru⟩ n ↔ pl.length = n := by
    constructor
    · intro hv; have := hv.2.2.resolve_right (by simp); simp only at this; omega
    · intro hv; exact ⟨by omega, by omega, .inl ⟨rfl, by simp only; omega⟩⟩
  generalize Valid ⟨0, pl, di, co, ru⟩ n = V at *
  replace hv := hide hv
  by_cases hp : pl.length = n
  case neg =>
    have hb : ((pl.length : Int) != n) = true := by simp; omega
    go_enter Yabn.func52, Yabn.ntmps52
    go_wp2_with (at_make; refine mk0_i64 rfl rfl n rfl (by omega) (w.heap.size + 1) (by simp) ?_; intro w1 hown hx1 hsz; have hbox := (Box.new w _ _).ext hx1; have f0 := hbox 0 _ rfl; have f1 := hbox 1 _ rfl; have f2 := hbox 2 _ rfl; have f3 := hbox 3 _ rfl; have f4 := hbox 4 _ rfl; replace hown := hide hown; replace hbox := hide hbox; replace hx1 := hide (((Ext.refl w).alloc _).trans hx1))
    go_ret2; exact RetVI.no (by rw [hv.out]; exact hp) hx1
  have hb : ((pl.length : Int) != n) = false := by simp [hp]
  replace hp := hide hp
  go_enter Yabn.func52, Yabn.ntmps52
  go_wp2_with (at_make; refine mk0_i64 rfl rfl n rfl (by omega) (w.heap.size + 1) (by simp) ?_; intro w1 hown hx1 hsz; have hbox := (Box.new w _ _).ext hx1; have f0 := hbox 0 _ rfl; have f1 := hbox 1 _ rfl; have f2 := hbox 2 _ rfl; have f3 := hbox 3 _ rfl; have f4 := hbox 4 _ rfl; replace hown := hide hown; replace hbox := hide hbox; replace hx1 := hide (((Ext.refl w).alloc _).trans hx1))
  clear f0 f1 f2 f3 f4 hsz
  go_loopw [6, 7] (fun v i wr => ∃ k : Nat, i = .int .i64 k ∧ k ≤ n ∧ Hid (OwnI wr (w.heap.size + 1) 2 v (pl.take k)) ∧ Hid (Ext w wr) ∧ Hid (Box wr w.heap.size [.int .i64 0, .slice a1 pl.length c1, .slice a2 di.length c2, .slice a3 co.length c3, .slice a4 ru.length c4])) (fun _ i _ => n - (intOf i).toNat)
  case atStart => exact ⟨0, rfl, by omega, hown, hx1, hbox⟩
  clear hown hx1 hbox
  obtain ⟨k, rfl, hk, hown, hext, hbox⟩ := hrel
  by_cases hlt : k < n
  · have f1 := hbox.out 1 _ rfl
    have hlt' : (k : Int) < n := by omega
    have hlt2 : (k : Int) < pl.length := by have := hp.out; omega
    have hlt3 : k < pl.length := by omega
    obtain ⟨b, off, rfl, g1⟩ := (h.out.plain.ext hext.out) k hlt3
    simp only at g1
    have htk : pl.take k ++ [pl.getD k 0] = pl.take (k + 1) := by rw [List.take_succ_eq_append_getElem hlt3]; simp [List.getElem?_eq_getElem hlt3]
    have hln : (pl.take k).length = k := by simp; omega
    generalize pl.getD k 0 = y at *
    have hbs : w.heap.size < wr.heap.size := cell_lt f1
    have hb1 : b < wr.heap.size := cell_lt g1
    generalize pl.take k = ps at *
    replace htk := hide htk
    replace hln := hide hln
    go_wp2_with (at_builtin; refine app_i64 rfl rfl (w.heap.size + 1) (by simp; omega) _ ps y rfl (hown.out.alloc _) wr.heap.size 1 (by rfl) (heap_alloc_new wr _) (by have := hln.out; omega) ?_; intro g cap w2 hown2 hgr hor hlt2; replace hgr := hide hgr; replace hown2 := hide hown2; replace hor := hide hor)
    go_roundw
    case rel =>
      refine ⟨k + 1, by go_num, by omega, hown2.out.congr htk.out, (hext.out.alloc _).grown hgr.out ?_, (hbox.out.alloc _).grown hgr.out ?_⟩
      · intro q hq; have := hown.out.block q hq; omega
      · intro hq; have := hown.out.block _ hq; omega
    case measure => simp [intOf]; omega
  · have hkn : k = n := by omega
    subst hkn
    go_wp2
    go_ret2
    have e : pl.take k = pl := List.take_of_length_le (by have := hp.out; omega)
    rw [e] at hown
    exact RetVI.yes (by rw [hv.out]; exact hp.out) hown.out (by omega) hext

theorem map_take_succ (di co : List Int) (k : Nat) (h : k < co.length) : (co.take k).map (fun q => di.getD q.toNat 0) ++ [di.getD (co.getD k 0).toNat 0] = (co.take (k + 1)).map fun q => di.getD q.toNat 0 := by
  rw [List.take_succ_eq_append_getElem h, List.map_append]
  simp [List.getElem?_eq_getElem h]

set_option maxHeartbeats 2000000 in
theorem refDec_1 (n : Nat) (pl di co : List Int) (ru : List (Int × Int)) (a1 a2 a3 a4 : Option Addr) (c1 c2 c3 c4 : Nat) (w : World) (hn : n ≤ 65536) (h : Hid (ColAt w ⟨1, pl, di, co, ru⟩ a1 a2 a3 a4)) (l2 : di.length < 2 ^ 40) (l3 : co.length < 2 ^ 40) :
    Calls Yabn.prog 52 #[colArg 1 pl di co ru a1 a2 a3 a4 c1 c2 c3 c4, .int .i64 n] w (RetVI (Valid ⟨1, pl, di, co, ru⟩ n) 2 (co.map fun k => di.getD k.toNat 0) w) := by
  have hv : Valid ⟨1, pl, di, co, ru⟩ n ↔ di.length ≤ 65536 ∧ Rising di ∧ co.length = n ∧ CodesOK ⟨1, pl, di, co, ru⟩ := by
    constructor
    · intro hv; have := ((hv.2.2.resolve_left (by simp)).resolve_right (by simp)).2; exact ⟨this.1, this.2.1, by have := this.2.2.1; simp only at this; omega, this.2.2.2⟩
    · intro hv; exact ⟨by omega, by omega, .inr (.inl ⟨rfl, hv.1, hv.2.1, by simp only; omega, hv.2.2.2⟩)⟩
  generalize Valid ⟨1, pl, di, co, ru⟩ n = V at *
  replace hv := hide hv
  by_cases hd : 65536 < (di.length : Int)
  · go_enter Yabn.func52, Yabn.ntmps52
    go_wp2_with (at_make; refine mk0_i64 rfl rfl n rfl (by omega) (w.heap.size + 1) (by simp) ?_; intro w1 hown hx1 hsz; have hbox := (Box.new w _ _).ext hx1; have f0 := hbox 0 _ rfl; have f1 := hbox 1 _ rfl; have f2 := hbox 2 _ rfl; have f3 := hbox 3 _ rfl; have f4 := hbox 4 _ rfl; replace hown := hide hown; replace hbox := hide hbox; replace hx1 := hide (((Ext.refl w).alloc _).trans hx1))
    go_ret2; exact RetVI.no (by rw [hv.out]; omega) hx1
  by_cases hp : co.length = n
  case neg =>
    have hb : ((co.length : Int) != n) = true := by simp; omega
    go_enter Yabn.func52, Yabn.ntmps52
    go_wp2_with (at_make; refine mk0_i64 rfl rfl n rfl (by omega) (w.heap.size + 1) (by simp) ?_; intro w1 hown hx1 hsz; have hbox := (Box.new w _ _).ext hx1; have f0 := hbox 0 _ rfl; have f1 := hbox 1 _ rfl; have f2 := hbox 2 _ rfl; have f3 := hbox 3 _ rfl; have f4 := hbox 4 _ rfl; replace hown := hide hown; replace hbox := hide hbox; replace hx1 := hide (((Ext.refl w).alloc _).trans hx1))
    go_ret2; exact RetVI.no (by rw [hv.out]; exact fun h => hp h.2.2.1) hx1
  have hb : ((co.length : Int) != n) = false := by simp [hp]
  replace hp := hide hp
  go_enter Yabn.func52, Yabn.ntmps52
  go_wp2_with (at_make; refine mk0_i64 rfl rfl n rfl (by omega) (w.heap.size + 1) (by simp) ?_; intro w1 hown hx1 hsz; have hbox := (Box.new w _ _).ext hx1; have f0 := hbox 0 _ rfl; have f1 := hbox 1 _ rfl; have f2 := hbox 2 _ rfl; have f3 := hbox 3 _ rfl; have f4 := hbox 4 _ rfl; replace hown := hide hown; replace hbox := hide hbox; replace hx1 := hide (((Ext.refl w).alloc _).trans hx1))
  clear f0 f1 f2 f3 f4 hsz
  go_loopw [8] (fun i wr => ∃ k : Nat, i = .int .i64 k ∧ k ≤ di.length ∧ Hid (∀ j, j + 1 < di.length → j < k → di.getD j 0 < di.getD (j + 1) 0) ∧ Hid (OwnI wr (w.heap.size + 1) 2 (.slice (some ⟨w.heap.size + 1, 0, none⟩) 0 n) []) ∧ Hid (Ext w wr) ∧ Hid (Box wr w.heap.size [.int .i64 1, .slice a1 pl.length c1, .slice a2 di.length c2, .slice a3 co.length c3, .slice a4 ru.length c4])) (fun i _ => di.length - (intOf i).toNat)
  case atStart => exact ⟨0, rfl, by omega, fun j _ hj => by omega, hown, hx1, hbox⟩
  clear hown hx1 hbox
  obtain ⟨k, rfl, hk, hinv, hown, hext, hbox⟩ := hrel
  by_cases hlt : k + 1 < di.length
  · have f2 := hbox.out 2 _ rfl
    obtain ⟨b, off, rfl, hc⟩ := (h.out.dict.ext hext.out) k (by simp; omega)
    have hc' := (h.out.dict.ext hext.out).at (k + 1) hlt
    have hlt' : (k : Int) + 1 < di.length := by omega
    simp only at hc hc'
    generalize HX : di.getD k 0 = x at hc
    generalize HY : di.getD (k + 1) 0 = y at hc'
    replace HX := hide HX
    replace HY := hide HY
    by_cases hxy : x < y
    · go_wp2
      refine Dr.region_text (by kernel_rfl) ?_
      go_wp2
      refine ⟨by rfl, ?_⟩
      go_wp2
      go_roundw
      case rel =>
        refine ⟨k + 1, by go_num, by omega, ?_, hown.out.drew, hext.out.drew, hbox.out.drew⟩
        intro j hj hjk
        by_cases hjk' : j < k
        · exact hinv.out j hj hjk'
        · have : j = k := by omega
          subst this
          rw [HX.out, HY.out]
          omega
      case measure => simp [intOf]; omega
    · have hxyb : decide (x < y) = false := by simpa using hxy
      go_wp2
      refine Dr.region_text (by kernel_rfl) ?_
      go_wp2
      refine ⟨by rfl, ?_⟩
      go_wp2
      go_ret2
      refine RetVI.no ?_ hext.out.drew
      rw [hv.out]
      intro hv
      have := hv.2.1 k hlt
      rw [HX.out, HY.out] at this
      omega
  have HR : Hid (Rising di) := fun j hj => hinv.out j hj (by omega)
  clear hinv
  have f2 := hbox.out 2 _ rfl
  go_wp2
  clear f2
  go_loopw [6, 9] (fun v i wq => ∃ m : Nat, i = .int .i64 m ∧ m ≤ n ∧ Hid (∀ j, j < m → 0 ≤ co.getD j 0 ∧ co.getD j 0 < di.length) ∧ Hid (OwnI wq (w.heap.size + 1) 2 v ((co.take m).map fun q => di.getD q.toNat 0)) ∧ Hid (Ext w wq) ∧ Hid (Box wq w.heap.size [.int .i64 1, .slice a1 pl.length c1, .slice a2 di.length c2, .slice a3 co.length c3, .slice a4 ru.length c4])) (fun _ i _ => n - (intOf i).toNat)
  case atStart => exact ⟨0, rfl, by omega, fun j hj => by omega, hown, hext, hbox⟩
  clear hext hbox hown
  obtain ⟨m, rfl, hm, hinv, hown, hext, hbox⟩ := hrel
  have f2 := hbox.out 2 _ rfl
  have f3 := hbox.out 3 _ rfl
  by_cases hlm : m < n
  · have hlm' : (m : Int) < n := by omega
    have hlc : m < co.length := by have := hp.out; omega
    have hlc' : (m : Int) < co.length := by omega
    obtain ⟨b, off, rfl, hc⟩ := (h.out.codes.ext hext.out) m hlc
    simp only at hc
    have hms := map_take_succ di co m hlc
    have hlen : ((co.take m).map fun q => di.getD q.toNat 0).length = m := by simp; omega
    have hex := fun x' (h1 : x' < di.length) => (h.out.dict.ext hext.out) x' h1
    generalize HX : co.getD m 0 = x at hc hms
    replace HX := hide HX
    have hno : (x < 0 ∨ (di.length : Int) ≤ x) → ¬ V := by
      intro hx
      rw [hv.out]
      intro hv
      have := hv.2.2.2 m hlc
      simp only at this
      rw [HX.out] at this
      omega
    replace hno := hide hno
    generalize ((co.take m).map fun q => di.getD q.toNat 0) = ps at *
    replace hms := hide hms
    replace hlen := hide hlen
    by_cases hx0 : x < 0
    · go_wp2
      go_ret2
      exact RetVI.no (hno.out (.inl hx0)) hext
    by_cases hx1 : (di.length : Int) ≤ x
    · go_wp2
      go_ret2
      exact RetVI.no (hno.out (.inr hx1)) hext
    obtain ⟨x', rfl⟩ := Int.eq_ofNat_of_zero_le (show 0 ≤ x by omega)
    obtain ⟨b2, off2, rfl, hd2⟩ := hex x' (by omega)
    simp only at hd2
    rw [Int.toNat_natCast] at hms
    have hx2 : (x' : Int) < di.length := by omega
    generalize di.getD x' 0 = y at *
    have hbs : w.heap.size < wr.heap.size := cell_lt f2
    have hb2 : b2 < wr.heap.size := cell_lt hd2
    go_wp2_with (at_builtin; refine app_i64 rfl rfl (w.heap.size + 1) (by simp; omega) _ ps y rfl (hown.out.alloc _) wr.heap.size 1 (by rfl) (heap_alloc_new wr _) (by have := hlen.out; omega) ?_; intro g cap w2 hown2 hgr hor hlt2; replace hgr := hide hgr; replace hown2 := hide hown2; replace hor := hide hor)
    go_roundw
    case rel =>
      refine ⟨m + 1, by go_num, by omega, ?_, hown2.out.congr hms.out, (hext.out.alloc _).grown hgr.out ?_, (hbox.out.alloc _).grown hgr.out ?_⟩
      · intro j hj
        by_cases hjm : j < m
        · exact hinv.out j hjm
        · have : j = m := by omega
          subst this
          rw [HX.out]
          omega
      · intro q hq; have := hown.out.block q hq; omega
      · intro hq; have := hown.out.block _ hq; omega
    case measure => simp [intOf]; omega
  · have hmn : m = n := by omega
    subst hmn
    go_wp2
    go_ret2
    have e : co.take m = co := List.take_of_length_le (by have := hp.out; omega)
    rw [e] at hown
    refine RetVI.yes ?_ hown.out (by omega) hext
    rw [hv.out]
    exact ⟨by omega, HR.out, hp.out, fun j hj => hinv.out j (by simp only at hj; have := hp.out; omega)⟩

end Go.Proofs.YbyabwGreat
