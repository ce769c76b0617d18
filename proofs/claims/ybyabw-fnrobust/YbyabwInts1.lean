/- Walks: laws.cpI64, cpInt, eqI64, eqInt, scI64, scInt, incI64, incInt, prI64, prInt -/
import Derived.Test.YbyabwFrame
import Derived.Test.YbyabwRowV
import Derived.Test.YbyabwCol2
import Derived.Test.YbyabwDraw
namespace Go.Proofs.Ybyabw
open Go.RowKit
set_option maxRecDepth 100000
set_option linter.unusedVariables false

def inc1 (x : Int) : Int := wrap64 (x + 1)

set_option maxHeartbeats 1000000 in
theorem cpI64_0 (a : Option Addr) (c : Nat) (ne : Bool) (w : World) : Calls Yabn.prog 82 #[.slice a 0 c, .bool ne] w (RetInts 2 [] w) := by
  cases ne with
  | true =>
    go_enter Yabn.func82, Yabn.ntmps82
    go_wp2
    go_ret
    exact ⟨none, 0, rfl, OwnI.nil _ _ _, Ext.refl w⟩
  | false =>
    go_enter Yabn.func82, Yabn.ntmps82
    go_wp2
    go_ret
    exact ⟨some ⟨w.heap.size, 0, none⟩, 0, rfl, ownsRow_empty w _ 1, (Ext.refl w).alloc _⟩

set_option maxHeartbeats 1000000 in
theorem cpI64_1 (xs : List Int) (a : Option Addr) (c : Nat) (ne : Bool) (w : World) (h : Hid (IntsAt w a xs)) (l : xs.length < 2 ^ 39) (h0 : ((xs.length : Int) == 0) = false) :
    Calls Yabn.prog 82 #[.slice a xs.length c, .bool ne] w (RetInts 2 xs w) := by
  go_enter Yabn.func82, Yabn.ntmps82
  go_wp2_with (at_make; refine mk_i64 rfl rfl xs.length rfl rfl (by omega) w.heap.size rfl ?_; intro w1 hown hx1 hsz; replace hown := hide hown; replace hx1 := hide hx1)
  go_loopw [6] (fun i wr => ∃ k : Nat, i = .int .i64 k ∧ k ≤ xs.length ∧ Hid (OwnI wr w.heap.size 2 (.slice (some ⟨w.heap.size, 0, none⟩) xs.length xs.length) (fillTo xs xs.length k)) ∧ Hid (Ext w wr)) (fun i _ => xs.length - (intOf i).toNat)
  case atStart => exact ⟨0, rfl, by omega, by rw [fillTo_zero]; exact hown, hx1⟩
  clear hown hx1 hsz
  obtain ⟨k, rfl, hk, hown, hext⟩ := hrel
  by_cases hlt : k < xs.length
  · have hlt' : (k : Int) < xs.length := by omega
    obtain ⟨b, off, rfl, g1⟩ := (h.out.ext hext.out) k hlt
    have hset := fillTo_set xs xs.length k rfl hlt
    have hlen := length_fillTo xs xs.length k rfl hk
    have hb1 := cell_lt g1
    have hgl := OwnI.lt hown.out
    have g2 := OwnI.frozenAt hown.out hlen.symm k
    have g3 := OwnI.cellAt hown.out k (by omega)
    generalize (fillTo xs xs.length k).getD k 0 = q at g3
    generalize xs.getD k 0 = y at *
    simp only at hb1
    have hst := (OwnI.stored hown.out hlen.symm k y).congr hset
    replace hst := hide hst
    clear hset hlen
    go_wp2
    go_roundw
    case rel => exact ⟨k + 1, by go_num, by omega, hst.out, hext.out.setCell (Nat.le_refl _) _⟩
    case measure => simp [intOf]; omega
  · obtain rfl : k = xs.length := by omega
    clear hlt hk
    rw [fillTo_all _ _ rfl] at hown
    go_wp2
    go_ret
    exact ⟨_, _, rfl, hown.out, hext.out⟩

theorem cpI64 (xs : List Int) (a : Option Addr) (c : Nat) (ne : Bool) (w : World) (h : Hid (IntsAt w a xs)) (l : xs.length < 2 ^ 39) :
    Calls Yabn.prog 82 #[.slice a xs.length c, .bool ne] w (RetInts 2 xs w) := by
  cases xs with
  | nil => exact cpI64_0 a c ne w
  | cons y ys => exact cpI64_1 (y :: ys) a c ne w h l (by simp only [List.length_cons, beq_eq_false_iff_ne]; omega)

set_option maxHeartbeats 1000000 in
theorem cpInt_0 (a : Option Addr) (c : Nat) (ne : Bool) (w : World) : Calls Yabn.prog 43 #[.slice a 0 c, .bool ne] w (RetInts 3 [] w) := by
  cases ne with
  | true =>
    go_enter Yabn.func43, Yabn.ntmps43
    go_wp2
    go_ret
    exact ⟨none, 0, rfl, OwnI.nil _ _ _, Ext.refl w⟩
  | false =>
    go_enter Yabn.func43, Yabn.ntmps43
    go_wp2
    go_ret
    exact ⟨some ⟨w.heap.size, 0, none⟩, 0, rfl, ownsRow_empty w _ 1, (Ext.refl w).alloc _⟩

set_option maxHeartbeats 1000000 in
theorem cpInt_1 (xs : List Int) (a : Option Addr) (c : Nat) (ne : Bool) (w : World) (h : Hid (IntsAt w a xs)) (l : xs.length < 2 ^ 39) (h0 : ((xs.length : Int) == 0) = false) :
    Calls Yabn.prog 43 #[.slice a xs.length c, .bool ne] w (RetInts 3 xs w) := by
  go_enter Yabn.func43, Yabn.ntmps43
  go_wp2_with (at_make; refine mk_int rfl rfl xs.length rfl rfl (by omega) w.heap.size rfl ?_; intro w1 hown hx1 hsz; replace hown := hide hown; replace hx1 := hide hx1)
  go_loopw [6] (fun i wr => ∃ k : Nat, i = .int .i64 k ∧ k ≤ xs.length ∧ Hid (OwnI wr w.heap.size 3 (.slice (some ⟨w.heap.size, 0, none⟩) xs.length xs.length) (fillTo xs xs.length k)) ∧ Hid (Ext w wr)) (fun i _ => xs.length - (intOf i).toNat)
  case atStart => exact ⟨0, rfl, by omega, by rw [fillTo_zero]; exact hown, hx1⟩
  clear hown hx1 hsz
  obtain ⟨k, rfl, hk, hown, hext⟩ := hrel
  by_cases hlt : k < xs.length
  · have hlt' : (k : Int) < xs.length := by omega
    obtain ⟨b, off, rfl, g1⟩ := (h.out.ext hext.out) k hlt
    have hset := fillTo_set xs xs.length k rfl hlt
    have hlen := length_fillTo xs xs.length k rfl hk
    have hb1 := cell_lt g1
    have hgl := OwnI.lt hown.out
    have g2 := OwnI.frozenAt hown.out hlen.symm k
    have g3 := OwnI.cellAt hown.out k (by omega)
    generalize (fillTo xs xs.length k).getD k 0 = q at g3
    generalize xs.getD k 0 = y at *
    simp only at hb1
    have hst := (OwnI.stored hown.out hlen.symm k y).congr hset
    replace hst := hide hst
    clear hset hlen
    go_wp2
    go_roundw
    case rel => exact ⟨k + 1, by go_num, by omega, hst.out, hext.out.setCell (Nat.le_refl _) _⟩
    case measure => simp [intOf]; omega
  · obtain rfl : k = xs.length := by omega
    clear hlt hk
    rw [fillTo_all _ _ rfl] at hown
    go_wp2
    go_ret
    exact ⟨_, _, rfl, hown.out, hext.out⟩

theorem cpInt (xs : List Int) (a : Option Addr) (c : Nat) (ne : Bool) (w : World) (h : Hid (IntsAt w a xs)) (l : xs.length < 2 ^ 39) :
    Calls Yabn.prog 43 #[.slice a xs.length c, .bool ne] w (RetInts 3 xs w) := by
  cases xs with
  | nil => exact cpInt_0 a c ne w
  | cons y ys => exact cpInt_1 (y :: ys) a c ne w h l (by simp only [List.length_cons, beq_eq_false_iff_ne]; omega)

set_option maxHeartbeats 1000000 in
theorem eqI64 (xs : List Int) (a1 a2 : Option Addr) (c1 c2 : Nat) (w : World) (h1 : Hid (IntsAt w a1 xs)) (h2 : Hid (IntsAt w a2 xs)) (l : xs.length < 2 ^ 39) :
    Calls Yabn.prog 29 #[.slice a1 xs.length c1, .slice a2 xs.length c2] w (RetTrue w) := by
  go_enter Yabn.func29, Yabn.ntmps29
  go_wp2
  go_loopw [5] (fun i wr => ∃ k : Nat, i = .int .i64 k ∧ k ≤ xs.length ∧ Hid (Ext w wr)) (fun i _ => xs.length - (intOf i).toNat)
  case atStart => exact ⟨0, rfl, by omega, Ext.refl w⟩
  obtain ⟨k, rfl, hk, hext⟩ := hrel
  by_cases hlt : k < xs.length
  · have hlt' : (k : Int) < xs.length := by omega
    obtain ⟨b1, o1, rfl, g1⟩ := (h1.out.ext hext.out) k hlt
    obtain ⟨b2, o2, rfl, g3⟩ := (h2.out.ext hext.out) k hlt
    generalize xs.getD k 0 = y at *
    go_wp2
    refine Dr.region_text (by kernel_rfl) ?_
    go_wp2
    refine ⟨by rfl, ?_⟩
    go_wp2
    go_roundw
    case rel => exact ⟨k + 1, by go_num, by omega, hext.out.drew⟩
    case measure => simp [intOf]; omega
  · obtain rfl : k = xs.length := by omega
    clear hlt hk
    go_wp2
    go_ret
    exact ⟨rfl, hext.out⟩

set_option maxHeartbeats 1000000 in
theorem eqInt (xs : List Int) (a1 a2 : Option Addr) (c1 c2 : Nat) (w : World) (h1 : Hid (IntsAt w a1 xs)) (h2 : Hid (IntsAt w a2 xs)) (l : xs.length < 2 ^ 39) :
    Calls Yabn.prog 46 #[.slice a1 xs.length c1, .slice a2 xs.length c2] w (RetTrue w) := by
  go_enter Yabn.func46, Yabn.ntmps46
  go_wp2
  go_loopw [5] (fun i wr => ∃ k : Nat, i = .int .i64 k ∧ k ≤ xs.length ∧ Hid (Ext w wr)) (fun i _ => xs.length - (intOf i).toNat)
  case atStart => exact ⟨0, rfl, by omega, Ext.refl w⟩
  obtain ⟨k, rfl, hk, hext⟩ := hrel
  by_cases hlt : k < xs.length
  · have hlt' : (k : Int) < xs.length := by omega
    obtain ⟨b1, o1, rfl, g1⟩ := (h1.out.ext hext.out) k hlt
    obtain ⟨b2, o2, rfl, g3⟩ := (h2.out.ext hext.out) k hlt
    generalize xs.getD k 0 = y at *
    go_wp2
    refine Dr.region_text (by kernel_rfl) ?_
    go_wp2
    refine ⟨by rfl, ?_⟩
    go_wp2
    go_roundw
    case rel => exact ⟨k + 1, by go_num, by omega, hext.out.drew⟩
    case measure => simp [intOf]; omega
  · obtain rfl : k = xs.length := by omega
    clear hlt hk
    go_wp2
    go_ret
    exact ⟨rfl, hext.out⟩

set_option maxHeartbeats 1000000 in
theorem scI64 (xs : List Int) (a : Option Addr) (c base : Nat) (w : World) (h : Hid (OwnI w base 2 (.slice a xs.length c) xs)) (l : xs.length < 2 ^ 39) :
    Calls Yabn.prog 34 #[.slice a xs.length c] w (RetMod (.slice a xs.length c) w) := by
  obtain ⟨n, hn⟩ : ∃ n, n = xs.length := ⟨_, rfl⟩
  rw [← hn] at h l ⊢
  replace hn := hide hn
  go_enter Yabn.func34, Yabn.ntmps34
  go_wp2
  go_loopw [2] (fun i wr => ∃ (k : Nat) (ys : List Int), i = .int .i64 k ∧ k ≤ n ∧ Hid (n = ys.length) ∧ Hid (OwnI wr base 2 (.slice a n c) ys) ∧ Hid (w.grownBy wr (Value.slice a n c).ownBlock)) (fun i _ => n - (intOf i).toNat)
  case atStart => exact ⟨0, xs, rfl, by omega, hn, h, World.grownBy.refl w _⟩
  obtain ⟨k, ys, rfl, hk, hys, hown, hbel⟩ := hrel
  by_cases hlt : k < n
  · have hlt' : (k : Int) < n := by omega
    have hky : k < ys.length := by have := hys.out; omega
    obtain ⟨g, rfl⟩ : ∃ g, a = some ⟨g, 0, none⟩ := by
      obtain ⟨p, q, e, hf⟩ := hown.out.form
      cases e
      rcases hf with ⟨rfl, _⟩ | hf
      · obtain ⟨_, _, e, _⟩ := (OwnI.ints hown.out) k hky
        cases e
      · exact hf
    have hc := OwnI.cellAt hown.out k hky
    have hlts := OwnI.lt hown.out
    have hs1 := fun u => OwnI.stored hown.out hys.out k u
    have hf1 := OwnI.frozenAt hown.out hys.out k
    generalize ys.getD k 0 = y at *
    replace hs1 := hide hs1
    replace hys := hide hys
    go_wp2
    go_roundw
    case rel =>
      refine ⟨k + 1, _, by go_num, by omega, ?_, hs1.out _, hbel.out.trans (grown_setCell wr ⟨g, k, none⟩ _)⟩
      rw [List.length_set]; exact hys.out
    case measure => simp [intOf]; omega
  · obtain rfl : k = n := by omega
    clear hlt hk
    go_wp2
    go_end0
    exact ⟨rfl, hbel.out⟩

set_option maxHeartbeats 1000000 in
theorem scInt (xs : List Int) (a : Option Addr) (c base : Nat) (w : World) (h : Hid (OwnI w base 3 (.slice a xs.length c) xs)) (l : xs.length < 2 ^ 39) :
    Calls Yabn.prog 49 #[.slice a xs.length c] w (RetMod (.slice a xs.length c) w) := by
  obtain ⟨n, hn⟩ : ∃ n, n = xs.length := ⟨_, rfl⟩
  rw [← hn] at h l ⊢
  replace hn := hide hn
  go_enter Yabn.func49, Yabn.ntmps49
  go_wp2
  go_loopw [2] (fun i wr => ∃ (k : Nat) (ys : List Int), i = .int .i64 k ∧ k ≤ n ∧ Hid (n = ys.length) ∧ Hid (OwnI wr base 3 (.slice a n c) ys) ∧ Hid (w.grownBy wr (Value.slice a n c).ownBlock)) (fun i _ => n - (intOf i).toNat)
  case atStart => exact ⟨0, xs, rfl, by omega, hn, h, World.grownBy.refl w _⟩
  obtain ⟨k, ys, rfl, hk, hys, hown, hbel⟩ := hrel
  by_cases hlt : k < n
  · have hlt' : (k : Int) < n := by omega
    have hky : k < ys.length := by have := hys.out; omega
    obtain ⟨g, rfl⟩ : ∃ g, a = some ⟨g, 0, none⟩ := by
      obtain ⟨p, q, e, hf⟩ := hown.out.form
      cases e
      rcases hf with ⟨rfl, _⟩ | hf
      · obtain ⟨_, _, e, _⟩ := (OwnI.ints hown.out) k hky
        cases e
      · exact hf
    have hc := OwnI.cellAt hown.out k hky
    have hlts := OwnI.lt hown.out
    have hs1 := fun u => OwnI.stored hown.out hys.out k u
    have hf1 := OwnI.frozenAt hown.out hys.out k
    generalize ys.getD k 0 = y at *
    replace hs1 := hide hs1
    replace hys := hide hys
    go_wp2
    go_roundw
    case rel =>
      refine ⟨k + 1, _, by go_num, by omega, ?_, hs1.out _, hbel.out.trans (grown_setCell wr ⟨g, k, none⟩ _)⟩
      rw [List.length_set]; exact hys.out
    case measure => simp [intOf]; omega
  · obtain rfl : k = n := by omega
    clear hlt hk
    go_wp2
    go_end0
    exact ⟨rfl, hbel.out⟩

set_option maxHeartbeats 1000000 in
theorem incI64 (xs : List Int) (a : Option Addr) (c base : Nat) (w : World) (h : Hid (OwnI w base 2 (.slice a xs.length c) xs)) (l : xs.length < 2 ^ 39) :
    Calls Yabn.prog 96 #[.slice a xs.length c] w (RetOwnI 2 (.slice a xs.length c) base (xs.map inc1) w) := by
  go_enter Yabn.func96, Yabn.ntmps96
  go_wp2
  go_loopw [2] (fun i wr => ∃ (k : Nat), i = .int .i64 k ∧ k ≤ xs.length ∧ Hid (OwnI wr base 2 (.slice a xs.length c) (modTo inc1 xs k)) ∧ Hid (w.grownBy wr (Value.slice a xs.length c).ownBlock)) (fun i _ => xs.length - (intOf i).toNat)
  case atStart => exact ⟨0, rfl, by omega, by rw [modTo_zero]; exact h, World.grownBy.refl w _⟩
  obtain ⟨k, rfl, hk, hown, hbel⟩ := hrel
  by_cases hlt : k < xs.length
  · have hlt' : (k : Int) < xs.length := by omega
    have hml := modTo_len inc1 xs k
    obtain ⟨g, rfl⟩ : ∃ g, a = some ⟨g, 0, none⟩ := by
      obtain ⟨p, q, e, hf⟩ := hown.out.form
      injection e with e1
      subst e1
      rcases hf with ⟨rfl, _⟩ | hf
      · obtain ⟨_, _, e, _⟩ := (OwnI.ints hown.out) k (by omega)
        cases e
      · exact hf
    have hc := OwnI.cellAt hown.out k (by omega)
    rw [modTo_get inc1 xs 0 k hlt] at hc
    have hlts := OwnI.lt hown.out
    have hs1 := (OwnI.stored hown.out hml.symm k (inc1 (xs.getD k 0))).congr (modTo_set inc1 xs 0 k hlt)
    have hf1 := OwnI.frozenAt hown.out hml.symm k
    generalize xs.getD k 0 = y at *
    replace hs1 := hide hs1
    clear hml
    go_wp2
    go_roundw
    case rel => exact ⟨k + 1, by go_num, by omega, hs1.out, hbel.out.trans (grown_setCell wr ⟨g, k, none⟩ _)⟩
    case measure => simp [intOf]; omega
  · obtain rfl : k = xs.length := by omega
    clear hlt hk
    rw [modTo_all] at hown
    go_wp2
    go_end0
    exact ⟨rfl, hown.out, hbel.out⟩

set_option maxHeartbeats 1000000 in
theorem incInt (xs : List Int) (a : Option Addr) (c base : Nat) (w : World) (h : Hid (OwnI w base 3 (.slice a xs.length c) xs)) (l : xs.length < 2 ^ 39) :
    Calls Yabn.prog 142 #[.slice a xs.length c] w (RetOwnI 3 (.slice a xs.length c) base (xs.map inc1) w) := by
  go_enter Yabn.func142, Yabn.ntmps142
  go_wp2
  go_loopw [2] (fun i wr => ∃ (k : Nat), i = .int .i64 k ∧ k ≤ xs.length ∧ Hid (OwnI wr base 3 (.slice a xs.length c) (modTo inc1 xs k)) ∧ Hid (w.grownBy wr (Value.slice a xs.length c).ownBlock)) (fun i _ => xs.length - (intOf i).toNat)
  case atStart => exact ⟨0, rfl, by omega, by rw [modTo_zero]; exact h, World.grownBy.refl w _⟩
  obtain ⟨k, rfl, hk, hown, hbel⟩ := hrel
  by_cases hlt : k < xs.length
  · have hlt' : (k : Int) < xs.length := by omega
    have hml := modTo_len inc1 xs k
    obtain ⟨g, rfl⟩ : ∃ g, a = some ⟨g, 0, none⟩ := by
      obtain ⟨p, q, e, hf⟩ := hown.out.form
      injection e with e1
      subst e1
      rcases hf with ⟨rfl, _⟩ | hf
      · obtain ⟨_, _, e, _⟩ := (OwnI.ints hown.out) k (by omega)
        cases e
      · exact hf
    have hc := OwnI.cellAt hown.out k (by omega)
    rw [modTo_get inc1 xs 0 k hlt] at hc
    have hlts := OwnI.lt hown.out
    have hs1 := (OwnI.stored hown.out hml.symm k (inc1 (xs.getD k 0))).congr (modTo_set inc1 xs 0 k hlt)
    have hf1 := OwnI.frozenAt hown.out hml.symm k
    generalize xs.getD k 0 = y at *
    replace hs1 := hide hs1
    clear hml
    go_wp2
    go_roundw
    case rel => exact ⟨k + 1, by go_num, by omega, hs1.out, hbel.out.trans (grown_setCell wr ⟨g, k, none⟩ _)⟩
    case measure => simp [intOf]; omega
  · obtain rfl : k = xs.length := by omega
    clear hlt hk
    rw [modTo_all] at hown
    go_wp2
    go_end0
    exact ⟨rfl, hown.out, hbel.out⟩

section
variable {ops : Array Oper} {rest : List Oper} {o : Oper} {a : Act} {Q : Exit → Act → World → Prop} {w : World}
theorem prI64_prb (hg : o.guard = none) {s x : Operand} (ho : o.op = .call { callee := .builtin .append, args := #[s, x], argTypes := #[23, 23] })
    (base : Nat) (v : Value) (xs : List Int) (y : Int) (hs : a.eval s = v) (hown : OwnI w base 2 v xs)
    (B c : Nat) (hx : a.eval x = .slice (some ⟨B, 0, none⟩) 1 c) (hblk : w.heap[B]? = some (.cells #[.int .i64 y] 2 (0, 0))) (hb : xs.length < 2 ^ 39)
    (h : ∀ v' w', OwnI w' base 2 v xs → w.grownBy w' v.ownBlock → wpList Yabn.prog ops Q rest (a.put o.dst v') w') : wpList Yabn.prog ops Q (o :: rest) a w := by
  obtain ⟨i, h2, h3, h4, h5⟩ := info_parts info_int64
  exact wpList_probeG hg ho 2 Yabn.underlying23 h2 h3 h4 h5 (by simp [Value.cells]) (by omega) base v xs.length (xs.map (Value.int .i64)) hs hown B c [.int .i64 y] hx hblk rfl (by simp [Value.oneCell']) (by simp only [maxLen]; omega) (by omega) h
end
set_option maxHeartbeats 1000000 in
theorem prI64 (xs : List Int) (a : Option Addr) (c base : Nat) (m : Int) (w : World) (h : Hid (OwnI w base 2 (.slice a xs.length c) xs)) (l : xs.length < 2 ^ 39) (m0 : 0 ≤ m) (m1 : m < 10) :
    Calls Yabn.prog 32 #[.slice a xs.length c, .int .i64 m] w (RetOwnI 2 (.slice a xs.length c) base xs w) := by
  go_enter Yabn.func32, Yabn.ntmps32
  go_wp2_with (at_builtin; refine prI64_prb rfl rfl base _ xs m rfl (h.out.alloc _) w.heap.size 1 (by rfl) (heap_alloc_new w _) (by omega) ?_; intro v' w' ho' hbl; replace ho' := hide ho'; replace hbl := hide hbl)
  go_end0
  exact ⟨rfl, ho'.out, (World.grownBy_alloc w _ _).trans hbl.out⟩

section
variable {ops : Array Oper} {rest : List Oper} {o : Oper} {a : Act} {Q : Exit → Act → World → Prop} {w : World}
theorem prInt_prb (hg : o.guard = none) {s x : Operand} (ho : o.op = .call { callee := .builtin .append, args := #[s, x], argTypes := #[24, 24] })
    (base : Nat) (v : Value) (xs : List Int) (y : Int) (hs : a.eval s = v) (hown : OwnI w base 3 v xs)
    (B c : Nat) (hx : a.eval x = .slice (some ⟨B, 0, none⟩) 1 c) (hblk : w.heap[B]? = some (.cells #[.int .i64 y] 3 (0, 0))) (hb : xs.length < 2 ^ 39)
    (h : ∀ v' w', OwnI w' base 3 v xs → w.grownBy w' v.ownBlock → wpList Yabn.prog ops Q rest (a.put o.dst v') w') : wpList Yabn.prog ops Q (o :: rest) a w := by
  obtain ⟨i, h2, h3, h4, h5⟩ := info_parts info_int
  exact wpList_probeG hg ho 3 Yabn.underlying24 h2 h3 h4 h5 (by simp [Value.cells]) (by omega) base v xs.length (xs.map (Value.int .i64)) hs hown B c [.int .i64 y] hx hblk rfl (by simp [Value.oneCell']) (by simp only [maxLen]; omega) (by omega) h
end
set_option maxHeartbeats 1000000 in
theorem prInt (xs : List Int) (a : Option Addr) (c base : Nat) (m : Int) (w : World) (h : Hid (OwnI w base 3 (.slice a xs.length c) xs)) (l : xs.length < 2 ^ 39) (m0 : 0 ≤ m) (m1 : m < 10) :
    Calls Yabn.prog 110 #[.slice a xs.length c, .int .i64 m] w (RetOwnI 3 (.slice a xs.length c) base xs w) := by
  go_enter Yabn.func110, Yabn.ntmps110
  go_wp2_with (at_builtin; refine prInt_prb rfl rfl base _ xs m rfl (h.out.alloc _) w.heap.size 1 (by rfl) (heap_alloc_new w _) (by omega) ?_; intro v' w' ho' hbl; replace ho' := hide ho'; replace hbl := hide hbl)
  go_end0
  exact ⟨rfl, ho'.out, (World.grownBy_alloc w _ _).trans hbl.out⟩

end Go.Proofs.Ybyabw
