/- Walks: spec.RowsFrom, KindsFrom, RowsEqual -/
import Derived.Test.YbyabwGreatRefDecTab
import Derived.Test.YbyabwGreatColEq
import Derived.Test.YbyabwGreatGen0
namespace Go.Proofs.YbyabwGreat
open Go.RowKit
set_option maxRecDepth 100000
set_option linter.unusedVariables false

def rowsF (cells : List Int) (w : Nat) : Nat → List Int := fun i => (cells.drop (i * w)).take w
theorem rowsF_len (cells : List Int) (w i : Nat) (h : i * w + w ≤ cells.length) : (rowsF cells w i).length = w := by simp [rowsF]; omega
theorem rowsF_at (cells : List Int) (w i j : Nat) (h : j < w) : (rowsF cells w i).getD j 0 = cells.getD (i * w + j) 0 := by
  simp [rowsF, List.getD_eq_getElem?_getD, h]

def RetR1 (n : Nat) (f : Nat → List Int) (w : World) : Ending → World → Prop := fun en w' => ∃ a cap, en = .returned (.slice a n cap) ∧ IRows w' a n f ∧ Ext w w'

set_option maxHeartbeats 4000000 in
theorem RowsFrom_0 (cells : List Int) (a : Option Addr) (c : Nat) (w : World) (lc : cells.length < 2 ^ 39) :
    Calls Yabn.prog 12 #[.slice a cells.length c, .int .i64 0] w (RetR1 cells.length (fun _ => []) w) := by
  go_enter Yabn.func12, Yabn.ntmps12
  go_wp2
  go_loopw [5, 6] (fun v i wr => ∃ (k : Nat) (ss : List Value), i = .int .i64 k ∧ k ≤ cells.length ∧ Hid (wr.ownsRow w.heap.size 23 1 v k ss) ∧ Hid (∀ i, i < k → ∃ a c, ss.getD i nilV = .slice a 0 c) ∧ Hid (Ext w wr)) (fun _ i _ => cells.length - (intOf i).toNat)
  case atStart => exact ⟨0, [], rfl, by omega, World.ownsRow_nil _ _ _ _, fun i hi => by omega, Ext.refl w⟩
  obtain ⟨k, ss, rfl, hk, hown, hrows, hext⟩ := hrel
  have zW := hext.out.size
  by_cases hlt : k < cells.length
  · have hlt' : (k : Int) < cells.length := by omega
    have hsl : ss.length = k := by have := hown.out.1; omega
    have ho1 := hide (World.ownsRow.alloc (World.ownsRow.alloc hown.out (.cells #[] 2)) (.cells #[.slice (some ⟨wr.heap.size, 0, none⟩) 0 0] 23))
    have hln : k < 2 ^ 39 := by omega
    have hnew : Hid (∀ i, i < k + 1 → ∃ a c, (ss ++ [Value.slice (some ⟨wr.heap.size, 0, none⟩) 0 0]).getD i nilV = .slice a 0 c) := fun i hi => by
      rcases Nat.lt_or_ge i k with hik | hik
      · obtain ⟨a1, c1, e⟩ := hrows.out i hik
        refine ⟨a1, c1, ?_⟩
        rw [← e, List.getD_eq_getElem?_getD, List.getElem?_append_left (by omega), ← List.getD_eq_getElem?_getD]
      · obtain rfl : i = k := by omega
        refine ⟨some ⟨wr.heap.size, 0, none⟩, 0, ?_⟩
        rw [List.getD_eq_getElem?_getD, List.getElem?_append_right (by omega)]
        simp [hsl]
    replace hsl := hide hsl
    go_wp2_with (at_builtin; refine app_rows rfl rfl w.heap.size (by simp; omega) _ k ss (.slice (some ⟨wr.heap.size, 0, none⟩) 0 0) rfl ho1.out (wr.heap.size + 1) 1 (by rfl) (by simpa using heap_alloc_new (wr.alloc (.cells #[] 2)) (.cells #[.slice (some ⟨wr.heap.size, 0, none⟩) 0 0] 23)) rfl hln ?_; intro g cp2 w2 hown2 hgr hlt2; replace hgr := hide hgr; replace hown2 := hide hown2)
    have X2 : Hid (Ext w w2) := ((hext.out.alloc _).alloc _).grown hgr.out (fun q hq => (World.ownsRow.lt hown.out q hq).1)
    clear ho1 hgr
    go_roundw
    case rel => exact ⟨k + 1, _, by go_num, by omega, hown2.out, hnew.out, X2.out⟩
    case measure => simp [intOf]; omega
  · obtain rfl : k = cells.length := by omega
    clear hlt hk
    obtain ⟨ar, qr, rfl⟩ := ownsRow_form hown.out
    have hR : Hid (IRows wr ar cells.length (fun _ => [])) := fun i hi => by
      obtain ⟨g, rfl, hc⟩ := ownsRow_cell hown.out i hi
      obtain ⟨a1, c1, e⟩ := hrows.out i hi
      rw [e] at hc
      exact ⟨g, 0, a1, c1, rfl, by rw [Nat.zero_add]; exact hc, IntsAt.nil _ _⟩
    go_wp2
    go_ret
    exact ⟨ar, qr, rfl, hR.out, hext.out⟩

def RetR1o (n : Nat) (f : Nat → List Int) (w : World) : Ending → World → Prop := fun en w' => ∃ a cap ss, en = .returned (.slice a n cap) ∧ w'.ownsRow w.heap.size 23 1 (.slice a n cap) n ss ∧ RowsI w' w.heap.size ss f n ∧ Ext w w'
set_option maxHeartbeats 8000000 in
theorem RowsFrom_1o (cells : List Int) (a : Option Addr) (c : Nat) (m : Nat) (w : World) (h : Hid (IntsAt w a cells)) (lc : cells.length < 2 ^ 39) (m0 : 0 < m) (m1 : m < 2 ^ 30) :
    Calls Yabn.prog 12 #[.slice a cells.length c, .int .i64 m] w (RetR1o (cells.length / m) (rowsF cells m) w) := by
  have m0' : 0 < (m : Int) := by omega
  have dm1 : decide (m = 0) = false := by simp; omega
  have dm2 : decide ((m : Int) ≤ 0) = false := by simp; omega
  have dm3 : decide (m ≤ 0) = false := by simp; omega
  go_enter Yabn.func12, Yabn.ntmps12
  go_wp2
  go_loopw [5, 7] (fun v i wr => ∃ (k K : Nat) (ss : List Value), i = .int .i64 K ∧ Hid (K = k * m) ∧ K ≤ cells.length ∧ Hid (wr.ownsRow w.heap.size 23 1 v k ss) ∧ Hid (RowsI wr w.heap.size ss (rowsF cells m) k) ∧ Hid (Ext w wr)) (fun _ i _ => cells.length - (intOf i).toNat)
  case atStart => exact ⟨0, 0, [], rfl, (by simp [Hid]), by omega, World.ownsRow_nil _ _ _ _, fun i hi => by omega, Ext.refl w⟩
  obtain ⟨k, K, ss, rfl, hK, hKl, hown, hrows, hext⟩ := hrel
  have zW3 := hext.out.size
  have hkK : k ≤ K := by rw [hK.out]; exact Nat.le_mul_of_pos_right k m0
  by_cases hlt : K + m ≤ cells.length
  · have hlt' : (K : Int) + m ≤ cells.length := by omega
    obtain ⟨W3, rfl⟩ : ∃ W3, W3 = wr := ⟨_, rfl⟩
    have hsl : ss.length = k := by have := hown.out.1; omega
    have hrl : (rowsF cells m k).length = m := rowsF_len cells m k (by rw [← hK.out]; exact hlt)
    have hK2 : Hid (K + m = (k + 1) * m) := by simp only [Hid]; rw [hK.out, Nat.add_mul]; omega
    go_wp2_with (at_make; refine mk0_i64 rfl rfl m rfl (by omega) W3.heap.size rfl ?_; intro v1 orow x1 hsz1; replace orow := hide orow; replace x1 := hide x1)
    go_loopw [8, 9] (fun v j wr => ∃ (t : Nat), j = .int .i64 t ∧ t ≤ m ∧ Hid (OwnI wr W3.heap.size 2 v ((rowsF cells m k).take t)) ∧ Hid (Ext W3 wr)) (fun _ j _ => m - (intOf j).toNat)
    case atStart => exact ⟨0, rfl, by omega, orow, x1⟩
    clear orow x1 hsz1
    obtain ⟨t, rfl, ht, orow, hx3⟩ := hrel
    have zW4 := hx3.out.size
    by_cases hmt : t < m
    · have hmt' : (t : Int) < m := by omega
      obtain ⟨b, off, rfl, gi⟩ := (h.out.ext (hext.out.trans hx3.out)) (K + t) (by omega)
      have htk := take_succ_getD2 (rowsF cells m k) t (by omega)
      rw [rowsF_at cells m k t hmt, ← hK.out] at htk
      have hln : ((rowsF cells m k).take t).length < 2 ^ 39 := by simp; omega
      generalize cells.getD (K + t) 0 = y at *
      generalize (rowsF cells m k).take t = ps at *
      replace htk := hide htk
      replace hln := hide hln
      have hb2 := cell_lt gi
      simp only at hb2
      replace hrl := hide hrl
      replace hsl := hide hsl
      have hKt : (K : Int) + t < cells.length := by omega
      go_wp2_with (at_builtin; refine app_i64 rfl rfl W3.heap.size (by simp; omega) _ ps y rfl (orow.out.alloc _) wr.heap.size 1 (by rfl) (heap_alloc_new wr _) hln.out ?_; intro g cap w2 hown2 hgr hor hlt2; replace hgr := hide hgr; replace hown2 := hide hown2; replace hor := hide hor)
      go_roundw
      case rel =>
        refine ⟨t + 1, by go_num, by omega, hown2.out.congr htk.out, (hx3.out.alloc _).grown hgr.out ?_⟩
        intro q hq; exact orow.out.block q hq
      case measure => simp [intOf]; omega
    · obtain rfl : t = m := by omega
      obtain ⟨m, rfl⟩ : ∃ m, m = t := ⟨_, rfl⟩
      clear hmt ht
      have hfull : (rowsF cells m k).take m = rowsF cells m k := by have e := List.take_length (l := rowsF cells m k); rw [hrl] at e; exact e
      rw [hfull] at orow
      obtain ⟨pr, qr, rfl, _⟩ := orow.out.form
      have hnew : ∀ (v1 w2 : World) (v : Value) (vs : List Value), Ext W3 v1 → OwnI v1 W3.heap.size 2 (.slice pr (rowsF cells m k).length qr) (rowsF cells m k) → v1.ownsRow w.heap.size 23 1 v k vs → v1.grownBy w2 v.ownBlock →
          RowsI w2 w.heap.size (ss ++ [.slice pr (rowsF cells m k).length qr]) (rowsF cells m) (k + 1) := fun v1 w2 v vs hx ho hv hg =>
        RowsI.snoc (w := W3) (hrows.out.ext hx) hsl hv hg (ho.mono zW3)
      replace hnew := hide hnew
      replace hrl := hide hrl
      have ho1 := hide (World.ownsRow.alloc (ownsRow_ext hown.out hx3.out) (.cells #[.slice pr (rowsF cells m k).length qr] 23))
      have hln : k < 2 ^ 39 := by omega
      clear hfull
      replace hsl := hide hsl
      go_wp2_with (at_builtin; refine app_rows rfl rfl w.heap.size (by simp; omega) _ k ss (.slice pr (rowsF cells m k).length qr) rfl ho1.out wr.heap.size 1 (by rfl) (heap_alloc_new wr _) rfl hln ?_; intro g cp2 w2 hown2 hgr hlt2; replace hgr := hide hgr; replace hown2 := hide hown2)
      have hfin := hide (hnew.out (wr.alloc (.cells #[.slice pr (rowsF cells m k).length qr] 23)) w2 _ _ (hx3.out.alloc _) (orow.out.alloc _) ho1.out hgr.out)
      have X2 : Hid (Ext w w2) := ((hext.out.trans hx3.out).alloc _).grown hgr.out (fun q hq => (World.ownsRow.lt hown.out q hq).1)
      clear hnew ho1 hgr
      go_roundw
      case rel =>
        exact ⟨k + 1, K + m, _, by go_num, hK2.out, by omega, hown2.out, hfin.out, X2.out⟩
      case measure => simp [intOf]; omega
  · have hlt' : ¬ (K : Int) + m ≤ cells.length := by omega
    have hkd : k = cells.length / m := by
      have e := hK.out
      have h1 : k * m ≤ cells.length := by omega
      have h2 : cells.length < (k + 1) * m := by rw [Nat.add_mul]; omega
      exact (Nat.div_eq_of_lt_le (by omega) (by omega)).symm
    obtain ⟨ar, qr, rfl⟩ := ownsRow_form hown.out
    replace hkd := hide hkd
    replace hK := hide hK.out
    go_wp2
    go_ret
    rw [← hkd.out]
    exact ⟨ar, qr, ss, rfl, hown.out, hrows.out, hext.out⟩
theorem RowsFrom_1 (cells : List Int) (a : Option Addr) (c : Nat) (m : Nat) (w : World) (h : Hid (IntsAt w a cells)) (lc : cells.length < 2 ^ 39) (m0 : 0 < m) (m1 : m < 2 ^ 30) :
    Calls Yabn.prog 12 #[.slice a cells.length c, .int .i64 m] w (RetR1 (cells.length / m) (rowsF cells m) w) := by
  refine (RowsFrom_1o cells a c m w h lc m0 m1).mono ?_
  rintro e w' ⟨a', cap, ss, h1, h2, h3, h4⟩
  exact ⟨a', cap, h1, h3.at h2, h4⟩

def kindAt (zs : List Int) (j : Nat) : Int := if zs.length = 0 then 0 else zs.getD (j % zs.length) 0 % 4
def kindsF (zs : List Int) (m : Nat) : List Int := (List.range m).map (kindAt zs)
theorem kindsF_len (zs : List Int) (m : Nat) : (kindsF zs m).length = m := by simp [kindsF]
theorem kindsF_succ (zs : List Int) (m : Nat) : kindsF zs (m + 1) = kindsF zs m ++ [kindAt zs m] := by simp [kindsF, List.range_succ]

section
variable {ops : Array Oper} {rest : List Oper} {o : Oper} {a : Act} {Q : Exit → Act → World → Prop} {w : World}
theorem mk0_int (hg : o.guard = none) {c : Operand} (hop : o.op = Op.makeSlice 44 (.const (.int .i64 0)) c) (n : Nat) (hc : a.eval c = .int .i64 n) (hb : n < 2 ^ 40) (N : Nat) (hN : w.heap.size = N)
    (hK : ∀ w', OwnI w' N 3 (.slice (some ⟨N, 0, none⟩) 0 n) [] → Ext w w' → w'.heap.size = N + 1 → wpList Yabn.prog ops Q rest (a.put o.dst (.slice (some ⟨N, 0, none⟩) 0 n)) w') :
    wpList Yabn.prog ops Q (o :: rest) a w := by
  obtain ⟨i, h2, h3, h4, h5⟩ := info_parts info_int
  exact wpList_mk0 hg hop 3 Yabn.underlying44 h2 h3 h4 (by omega) n hc hb N hN hK
end

set_option maxHeartbeats 4000000 in
theorem KindsFrom (zs : List Int) (a : Option Addr) (c : Nat) (m : Nat) (w : World) (h : Hid (BytesAt w a zs)) (lc : zs.length < 2 ^ 39) (m1 : m < 2 ^ 30) :
    Calls Yabn.prog 14 #[.slice a zs.length c, .int .i64 m, .int .i64 4] w (RetInts 3 (kindsF zs m) w) := by
  go_enter Yabn.func14, Yabn.ntmps14
  go_wp2_with (at_make; refine mk0_int rfl rfl m rfl (by omega) w.heap.size rfl ?_; intro v1 orow x1 hsz1; replace orow := hide orow; replace x1 := hide x1)
  go_loopw [7, 8] (fun v j wr => ∃ (t : Nat), j = .int .i64 t ∧ t ≤ m ∧ Hid (OwnI wr w.heap.size 3 v (kindsF zs t)) ∧ Hid (Ext w wr)) (fun _ j _ => m - (intOf j).toNat)
  case atStart => exact ⟨0, rfl, by omega, orow, x1⟩
  clear orow x1 hsz1
  obtain ⟨t, rfl, ht, orow, hx3⟩ := hrel
  have zW4 := hx3.out.size
  by_cases hmt : t < m
  · have hmt' : (t : Int) < m := by omega
    have hks := kindsF_succ zs t
    have hkl := kindsF_len zs t
    have hln : (kindsF zs t).length < 2 ^ 39 := by omega
    by_cases h0 : zs.length = 0
    · have hka : kindAt zs t = 0 := by unfold kindAt; rw [if_pos h0]
      rw [hka] at hks
      rw [h0] at *
      generalize kindsF zs t = ps at *
      replace hks := hide hks
      replace hkl := hide hkl
      replace hln := hide hln
      go_wp2_with (at_builtin; refine app_int rfl rfl w.heap.size (by simp; omega) _ ps 0 rfl (orow.out.alloc _) wr.heap.size 1 (by rfl) (heap_alloc_new wr _) hln.out ?_; intro g cap w2 hown2 hgr hor hlt2; replace hgr := hide hgr; replace hown2 := hide hown2; replace hor := hide hor)
      go_roundw
      case rel =>
        refine ⟨t + 1, by go_num, by omega, hown2.out.congr hks.out.symm, (hx3.out.alloc _).grown hgr.out ?_⟩
        intro q hq; exact orow.out.block q hq
      case measure => simp [intOf]; omega
    · have h0' : 0 < (zs.length : Int) := by omega
      have hml := Nat.mod_lt t (show 0 < zs.length by omega)
      obtain ⟨b, off, rfl, gi, y0, y1⟩ := (h.out.ext hx3.out) (t % zs.length) hml
      have hka : kindAt zs t = zs.getD (t % zs.length) 0 % 4 := by unfold kindAt; rw [if_neg h0]
      rw [hka] at hks
      obtain ⟨r, hr⟩ : ∃ r, r = t % zs.length := ⟨_, rfl⟩
      rw [← hr] at gi y0 y1 hks hml
      have hrI : (t : Int) % zs.length = r := by rw [hr]; omega
      have hml' : (r : Int) < zs.length := by omega
      generalize zs.getD r 0 = y at *
      generalize kindsF zs t = ps at *
      replace hks := hide hks
      replace hkl := hide hkl
      replace hln := hide hln
      replace hr := hide hr
      have hb2 := cell_lt gi
      simp only at hb2
      go_wp2_with (at_builtin; refine app_int rfl rfl w.heap.size (by simp; omega) _ ps (y % 4) rfl (orow.out.alloc _) wr.heap.size 1 (by rfl) (heap_alloc_new wr _) hln.out ?_; intro g cap w2 hown2 hgr hor hlt2; replace hgr := hide hgr; replace hown2 := hide hown2; replace hor := hide hor)
      go_roundw
      case rel =>
        refine ⟨t + 1, by go_num, by omega, hown2.out.congr hks.out.symm, (hx3.out.alloc _).grown hgr.out ?_⟩
        intro q hq; exact orow.out.block q hq
      case measure => simp [intOf]; omega
  · obtain rfl : t = m := by omega
    clear hmt ht
    obtain ⟨pr, qr, rfl, _⟩ := orow.out.form
    go_wp2
    go_ret
    exact ⟨pr, qr, rfl, orow.out, hx3.out⟩
end Go.Proofs.YbyabwGreat
