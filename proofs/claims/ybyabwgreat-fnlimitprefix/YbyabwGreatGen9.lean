/- Walk: qgen.tail -/
import Derived.Test.YbyabwGreatGen8
import Derived.Test.YbyabwGreatGen3
import Derived.Deep.CutRange
namespace Go.Proofs.YbyabwGreat
open Go.RowKit
set_option maxRecDepth 100000
set_option linter.unusedVariables false
set_option linter.unusedSimpArgs false

set_option maxHeartbeats 1000000 in
theorem TokenText1_1 (w : World) : Calls Yabn.prog 70 #[.agg #[.int .i64 1, .int .i64 1]] w (RetStr (ttext (1, 1)) w) := by
  have hb0 : Box (w.alloc (.cells #[.int .i64 1, .int .i64 1] 95)) w.heap.size [.int .i64 1, .int .i64 1] := Box.new w _ _
  have m0 := hb0 0 _ rfl
  replace hb0 := hide hb0
  go_enter Yabn.func70, Yabn.ntmps70
  go_wp2
  go_ret
  exact ⟨rfl, (Ext.refl w).alloc _⟩
set_option maxHeartbeats 1000000 in
theorem TokenText1_2 (w : World) : Calls Yabn.prog 70 #[.agg #[.int .i64 2, .int .i64 1]] w (RetStr (ttext (2, 1)) w) := by
  have hb0 : Box (w.alloc (.cells #[.int .i64 2, .int .i64 1] 95)) w.heap.size [.int .i64 2, .int .i64 1] := Box.new w _ _
  have m0 := hb0 0 _ rfl
  replace hb0 := hide hb0
  go_enter Yabn.func70, Yabn.ntmps70
  go_wp2
  go_ret
  exact ⟨rfl, (Ext.refl w).alloc _⟩
set_option maxHeartbeats 1000000 in
theorem TokenText1_3 (w : World) : Calls Yabn.prog 70 #[.agg #[.int .i64 3, .int .i64 1]] w (RetStr (ttext (3, 1)) w) := by
  have hb0 : Box (w.alloc (.cells #[.int .i64 3, .int .i64 1] 95)) w.heap.size [.int .i64 3, .int .i64 1] := Box.new w _ _
  have m0 := hb0 0 _ rfl
  replace hb0 := hide hb0
  go_enter Yabn.func70, Yabn.ntmps70
  go_wp2
  go_ret
  exact ⟨rfl, (Ext.refl w).alloc _⟩
set_option maxHeartbeats 1000000 in
theorem TokenText1_4 (w : World) : Calls Yabn.prog 70 #[.agg #[.int .i64 4, .int .i64 1]] w (RetStr (ttext (4, 1)) w) := by
  have hb0 : Box (w.alloc (.cells #[.int .i64 4, .int .i64 1] 95)) w.heap.size [.int .i64 4, .int .i64 1] := Box.new w _ _
  have m0 := hb0 0 _ rfl
  replace hb0 := hide hb0
  go_enter Yabn.func70, Yabn.ntmps70
  go_wp2
  go_ret
  exact ⟨rfl, (Ext.refl w).alloc _⟩
set_option maxHeartbeats 1000000 in
theorem TokenText1_5 (w : World) : Calls Yabn.prog 70 #[.agg #[.int .i64 5, .int .i64 1]] w (RetStr (ttext (5, 1)) w) := by
  have hb0 : Box (w.alloc (.cells #[.int .i64 5, .int .i64 1] 95)) w.heap.size [.int .i64 5, .int .i64 1] := Box.new w _ _
  have m0 := hb0 0 _ rfl
  replace hb0 := hide hb0
  go_enter Yabn.func70, Yabn.ntmps70
  go_wp2
  go_ret
  exact ⟨rfl, (Ext.refl w).alloc _⟩
set_option maxHeartbeats 1000000 in
theorem TokenText1_6 (w : World) : Calls Yabn.prog 70 #[.agg #[.int .i64 6, .int .i64 1]] w (RetStr (ttext (6, 1)) w) := by
  have hb0 : Box (w.alloc (.cells #[.int .i64 6, .int .i64 1] 95)) w.heap.size [.int .i64 6, .int .i64 1] := Box.new w _ _
  have m0 := hb0 0 _ rfl
  replace hb0 := hide hb0
  go_enter Yabn.func70, Yabn.ntmps70
  go_wp2
  go_ret
  exact ⟨rfl, (Ext.refl w).alloc _⟩
set_option maxHeartbeats 1000000 in
theorem TokenText1_7 (w : World) : Calls Yabn.prog 70 #[.agg #[.int .i64 7, .int .i64 1]] w (RetStr (ttext (7, 1)) w) := by
  have hb0 : Box (w.alloc (.cells #[.int .i64 7, .int .i64 1] 95)) w.heap.size [.int .i64 7, .int .i64 1] := Box.new w _ _
  have m0 := hb0 0 _ rfl
  replace hb0 := hide hb0
  go_enter Yabn.func70, Yabn.ntmps70
  go_wp2
  go_ret
  exact ⟨rfl, (Ext.refl w).alloc _⟩
set_option maxHeartbeats 1000000 in
theorem TokenText1_8 (w : World) : Calls Yabn.prog 70 #[.agg #[.int .i64 8, .int .i64 1]] w (RetStr (ttext (8, 1)) w) := by
  have hb0 : Box (w.alloc (.cells #[.int .i64 8, .int .i64 1] 95)) w.heap.size [.int .i64 8, .int .i64 1] := Box.new w _ _
  have m0 := hb0 0 _ rfl
  replace hb0 := hide hb0
  go_enter Yabn.func70, Yabn.ntmps70
  go_wp2
  go_ret
  exact ⟨rfl, (Ext.refl w).alloc _⟩
set_option maxHeartbeats 1000000 in
theorem TokenText1_9 (w : World) : Calls Yabn.prog 70 #[.agg #[.int .i64 9, .int .i64 1]] w (RetStr (ttext (9, 1)) w) := by
  have hb0 : Box (w.alloc (.cells #[.int .i64 9, .int .i64 1] 95)) w.heap.size [.int .i64 9, .int .i64 1] := Box.new w _ _
  have m0 := hb0 0 _ rfl
  replace hb0 := hide hb0
  go_enter Yabn.func70, Yabn.ntmps70
  go_wp2
  go_ret
  exact ⟨rfl, (Ext.refl w).alloc _⟩
set_option maxHeartbeats 1000000 in
theorem TokenText1_10 (w : World) : Calls Yabn.prog 70 #[.agg #[.int .i64 10, .int .i64 1]] w (RetStr (ttext (10, 1)) w) := by
  have hb0 : Box (w.alloc (.cells #[.int .i64 10, .int .i64 1] 95)) w.heap.size [.int .i64 10, .int .i64 1] := Box.new w _ _
  have m0 := hb0 0 _ rfl
  replace hb0 := hide hb0
  go_enter Yabn.func70, Yabn.ntmps70
  go_wp2
  go_ret
  exact ⟨rfl, (Ext.refl w).alloc _⟩
set_option maxHeartbeats 1000000 in
theorem TokenText1_11 (w : World) : Calls Yabn.prog 70 #[.agg #[.int .i64 11, .int .i64 1]] w (RetStr (ttext (11, 1)) w) := by
  have hb0 : Box (w.alloc (.cells #[.int .i64 11, .int .i64 1] 95)) w.heap.size [.int .i64 11, .int .i64 1] := Box.new w _ _
  have m0 := hb0 0 _ rfl
  replace hb0 := hide hb0
  go_enter Yabn.func70, Yabn.ntmps70
  go_wp2
  go_ret
  exact ⟨rfl, (Ext.refl w).alloc _⟩
set_option maxHeartbeats 1000000 in
theorem TokenText1_12 (w : World) : Calls Yabn.prog 70 #[.agg #[.int .i64 12, .int .i64 1]] w (RetStr (ttext (12, 1)) w) := by
  have hb0 : Box (w.alloc (.cells #[.int .i64 12, .int .i64 1] 95)) w.heap.size [.int .i64 12, .int .i64 1] := Box.new w _ _
  have m0 := hb0 0 _ rfl
  replace hb0 := hide hb0
  go_enter Yabn.func70, Yabn.ntmps70
  go_wp2
  go_ret
  exact ⟨rfl, (Ext.refl w).alloc _⟩
set_option maxHeartbeats 1000000 in
theorem TokenText1_15 (w : World) : Calls Yabn.prog 70 #[.agg #[.int .i64 15, .int .i64 1]] w (RetStr (ttext (15, 1)) w) := by
  have hb0 : Box (w.alloc (.cells #[.int .i64 15, .int .i64 1] 95)) w.heap.size [.int .i64 15, .int .i64 1] := Box.new w _ _
  have m0 := hb0 0 _ rfl
  replace hb0 := hide hb0
  go_enter Yabn.func70, Yabn.ntmps70
  go_wp2
  go_ret
  exact ⟨rfl, (Ext.refl w).alloc _⟩
set_option maxHeartbeats 1000000 in
theorem TokenText1_16 (w : World) : Calls Yabn.prog 70 #[.agg #[.int .i64 16, .int .i64 1]] w (RetStr (ttext (16, 1)) w) := by
  have hb0 : Box (w.alloc (.cells #[.int .i64 16, .int .i64 1] 95)) w.heap.size [.int .i64 16, .int .i64 1] := Box.new w _ _
  have m0 := hb0 0 _ rfl
  replace hb0 := hide hb0
  go_enter Yabn.func70, Yabn.ntmps70
  go_wp2
  go_ret
  exact ⟨rfl, (Ext.refl w).alloc _⟩
set_option maxHeartbeats 1000000 in
theorem TokenText1_17 (w : World) : Calls Yabn.prog 70 #[.agg #[.int .i64 17, .int .i64 1]] w (RetStr (ttext (17, 1)) w) := by
  have hb0 : Box (w.alloc (.cells #[.int .i64 17, .int .i64 1] 95)) w.heap.size [.int .i64 17, .int .i64 1] := Box.new w _ _
  have m0 := hb0 0 _ rfl
  replace hb0 := hide hb0
  go_enter Yabn.func70, Yabn.ntmps70
  go_wp2
  go_ret
  exact ⟨rfl, (Ext.refl w).alloc _⟩
set_option maxHeartbeats 1000000 in
theorem TokenText1_18 (w : World) : Calls Yabn.prog 70 #[.agg #[.int .i64 18, .int .i64 1]] w (RetStr (ttext (18, 1)) w) := by
  have hb0 : Box (w.alloc (.cells #[.int .i64 18, .int .i64 1] 95)) w.heap.size [.int .i64 18, .int .i64 1] := Box.new w _ _
  have m0 := hb0 0 _ rfl
  replace hb0 := hide hb0
  go_enter Yabn.func70, Yabn.ntmps70
  go_wp2
  go_ret
  exact ⟨rfl, (Ext.refl w).alloc _⟩
set_option maxHeartbeats 1000000 in
theorem TokenText1_19 (w : World) : Calls Yabn.prog 70 #[.agg #[.int .i64 19, .int .i64 1]] w (RetStr (ttext (19, 1)) w) := by
  have hb0 : Box (w.alloc (.cells #[.int .i64 19, .int .i64 1] 95)) w.heap.size [.int .i64 19, .int .i64 1] := Box.new w _ _
  have m0 := hb0 0 _ rfl
  replace hb0 := hide hb0
  go_enter Yabn.func70, Yabn.ntmps70
  go_wp2
  go_ret
  exact ⟨rfl, (Ext.refl w).alloc _⟩
set_option maxHeartbeats 1000000 in
theorem TokenText1_20 (w : World) : Calls Yabn.prog 70 #[.agg #[.int .i64 20, .int .i64 1]] w (RetStr (ttext (20, 1)) w) := by
  have hb0 : Box (w.alloc (.cells #[.int .i64 20, .int .i64 1] 95)) w.heap.size [.int .i64 20, .int .i64 1] := Box.new w _ _
  have m0 := hb0 0 _ rfl
  replace hb0 := hide hb0
  go_enter Yabn.func70, Yabn.ntmps70
  go_wp2
  go_ret
  exact ⟨rfl, (Ext.refl w).alloc _⟩
set_option maxHeartbeats 1000000 in
theorem TokenText1_21 (w : World) : Calls Yabn.prog 70 #[.agg #[.int .i64 21, .int .i64 1]] w (RetStr (ttext (21, 1)) w) := by
  have hb0 : Box (w.alloc (.cells #[.int .i64 21, .int .i64 1] 95)) w.heap.size [.int .i64 21, .int .i64 1] := Box.new w _ _
  have m0 := hb0 0 _ rfl
  replace hb0 := hide hb0
  go_enter Yabn.func70, Yabn.ntmps70
  go_wp2
  go_ret
  exact ⟨rfl, (Ext.refl w).alloc _⟩
set_option maxHeartbeats 1000000 in
theorem TokenText1_22 (w : World) : Calls Yabn.prog 70 #[.agg #[.int .i64 22, .int .i64 1]] w (RetStr (ttext (22, 1)) w) := by
  have hb0 : Box (w.alloc (.cells #[.int .i64 22, .int .i64 1] 95)) w.heap.size [.int .i64 22, .int .i64 1] := Box.new w _ _
  have m0 := hb0 0 _ rfl
  replace hb0 := hide hb0
  go_enter Yabn.func70, Yabn.ntmps70
  go_wp2
  go_ret
  exact ⟨rfl, (Ext.refl w).alloc _⟩
set_option maxHeartbeats 1000000 in
theorem TokenText1_23 (w : World) : Calls Yabn.prog 70 #[.agg #[.int .i64 23, .int .i64 1]] w (RetStr (ttext (23, 1)) w) := by
  have hb0 : Box (w.alloc (.cells #[.int .i64 23, .int .i64 1] 95)) w.heap.size [.int .i64 23, .int .i64 1] := Box.new w _ _
  have m0 := hb0 0 _ rfl
  replace hb0 := hide hb0
  go_enter Yabn.func70, Yabn.ntmps70
  go_wp2
  go_ret
  exact ⟨rfl, (Ext.refl w).alloc _⟩
set_option maxHeartbeats 1000000 in
theorem TokenText1_24 (w : World) : Calls Yabn.prog 70 #[.agg #[.int .i64 24, .int .i64 1]] w (RetStr (ttext (24, 1)) w) := by
  have hb0 : Box (w.alloc (.cells #[.int .i64 24, .int .i64 1] 95)) w.heap.size [.int .i64 24, .int .i64 1] := Box.new w _ _
  have m0 := hb0 0 _ rfl
  replace hb0 := hide hb0
  go_enter Yabn.func70, Yabn.ntmps70
  go_wp2
  go_ret
  exact ⟨rfl, (Ext.refl w).alloc _⟩
set_option maxHeartbeats 1000000 in
theorem TokenText1_25 (w : World) : Calls Yabn.prog 70 #[.agg #[.int .i64 25, .int .i64 1]] w (RetStr (ttext (25, 1)) w) := by
  have hb0 : Box (w.alloc (.cells #[.int .i64 25, .int .i64 1] 95)) w.heap.size [.int .i64 25, .int .i64 1] := Box.new w _ _
  have m0 := hb0 0 _ rfl
  replace hb0 := hide hb0
  go_enter Yabn.func70, Yabn.ntmps70
  go_wp2
  go_ret
  exact ⟨rfl, (Ext.refl w).alloc _⟩
set_option maxHeartbeats 1000000 in
theorem TokenText1_26 (w : World) : Calls Yabn.prog 70 #[.agg #[.int .i64 26, .int .i64 1]] w (RetStr (ttext (26, 1)) w) := by
  have hb0 : Box (w.alloc (.cells #[.int .i64 26, .int .i64 1] 95)) w.heap.size [.int .i64 26, .int .i64 1] := Box.new w _ _
  have m0 := hb0 0 _ rfl
  replace hb0 := hide hb0
  go_enter Yabn.func70, Yabn.ntmps70
  go_wp2
  go_ret
  exact ⟨rfl, (Ext.refl w).alloc _⟩
theorem TokenText1_13 (w : World) : Calls Yabn.prog 70 #[.agg #[.int .i64 13, .int .i64 1]] w (RetStr (ttext (13, 1)) w) := TokenText_13 1 (by decide) w
theorem TokenText1_14 (w : World) : Calls Yabn.prog 70 #[.agg #[.int .i64 14, .int .i64 1]] w (RetStr (ttext (14, 1)) w) := TokenText_14 1 (by decide) w
theorem TokenText1 (k : Int) (h1 : 1 ≤ k) (h2 : k ≤ 26) (w : World) : Calls Yabn.prog 70 #[.agg #[.int .i64 k, .int .i64 1]] w (RetStr (ttext (k, 1)) w) := by
  have hk : k = 1 ∨ k = 2 ∨ k = 3 ∨ k = 4 ∨ k = 5 ∨ k = 6 ∨ k = 7 ∨ k = 8 ∨ k = 9 ∨ k = 10 ∨ k = 11 ∨ k = 12 ∨ k = 13 ∨ k = 14 ∨ k = 15 ∨ k = 16 ∨ k = 17 ∨ k = 18 ∨ k = 19 ∨ k = 20 ∨ k = 21 ∨ k = 22 ∨ k = 23 ∨ k = 24 ∨ k = 25 ∨ k = 26 := by omega
  rcases hk with rfl | rfl | rfl | rfl | rfl | rfl | rfl | rfl | rfl | rfl | rfl | rfl | rfl | rfl | rfl | rfl | rfl | rfl | rfl | rfl | rfl | rfl | rfl | rfl | rfl | rfl
  · exact TokenText1_1 w
  · exact TokenText1_2 w
  · exact TokenText1_3 w
  · exact TokenText1_4 w
  · exact TokenText1_5 w
  · exact TokenText1_6 w
  · exact TokenText1_7 w
  · exact TokenText1_8 w
  · exact TokenText1_9 w
  · exact TokenText1_10 w
  · exact TokenText1_11 w
  · exact TokenText1_12 w
  · exact TokenText1_13 w
  · exact TokenText1_14 w
  · exact TokenText1_15 w
  · exact TokenText1_16 w
  · exact TokenText1_17 w
  · exact TokenText1_18 w
  · exact TokenText1_19 w
  · exact TokenText1_20 w
  · exact TokenText1_21 w
  · exact TokenText1_22 w
  · exact TokenText1_23 w
  · exact TokenText1_24 w
  · exact TokenText1_25 w
  · exact TokenText1_26 w
theorem ttext1_len (k : Int) (h1 : 1 ≤ k) (h2 : k ≤ 26) : (ttext (k, 1)).length ≤ 6 := by
  have hk : k = 1 ∨ k = 2 ∨ k = 3 ∨ k = 4 ∨ k = 5 ∨ k = 6 ∨ k = 7 ∨ k = 8 ∨ k = 9 ∨ k = 10 ∨ k = 11 ∨ k = 12 ∨ k = 13 ∨ k = 14 ∨ k = 15 ∨ k = 16 ∨ k = 17 ∨ k = 18 ∨ k = 19 ∨ k = 20 ∨ k = 21 ∨ k = 22 ∨ k = 23 ∨ k = 24 ∨ k = 25 ∨ k = 26 := by omega
  rcases hk with rfl | rfl | rfl | rfl | rfl | rfl | rfl | rfl | rfl | rfl | rfl | rfl | rfl | rfl | rfl | rfl | rfl | rfl | rfl | rfl | rfl | rfl | rfl | rfl | rfl | rfl
  all_goals decide

/-- A tail is empty or opens with WHERE, GROUP BY or LIMIT; or it is one token alone. -/
def Sp (m : List UInt8) : Prop := m = [] ∨ (∃ r, m = [32, 87, 72, 69, 82, 69, 32] ++ r) ∨ (∃ r, m = [32, 71, 82, 79, 85, 80, 32, 66, 89, 32, 99] ++ r) ∨ (∃ r, m = [32, 76, 73, 77, 73, 84, 32] ++ r)
def SpJ (m : List UInt8) : Prop := Sp m ∨ ∃ k : Int, 1 ≤ k ∧ k ≤ 26 ∧ m = 32 :: ttext (k, 1)
theorem Sp.more {m : List UInt8} (h : Sp m) (hne : m ≠ []) (x : List UInt8) : Sp (m ++ x) := by
  rcases h with h | ⟨r, rfl⟩ | ⟨r, rfl⟩ | ⟨r, rfl⟩
  · exact absurd h hne
  · exact .inr (.inl ⟨r ++ x, List.append_assoc _ _ _⟩)
  · exact .inr (.inr (.inl ⟨r ++ x, List.append_assoc _ _ _⟩))
  · exact .inr (.inr (.inr ⟨r ++ x, List.append_assoc _ _ _⟩))
theorem Sp.addG {m : List UInt8} (h : Sp m) (r : List UInt8) : Sp (m ++ ([32, 71, 82, 79, 85, 80, 32, 66, 89, 32, 99] ++ r)) := by
  by_cases hm : m = []
  · subst hm; exact .inr (.inr (.inl ⟨r, rfl⟩))
  · exact h.more hm _
theorem Sp.addL {m : List UInt8} (h : Sp m) (r : List UInt8) : Sp (m ++ ([32, 76, 73, 77, 73, 84, 32] ++ r)) := by
  by_cases hm : m = []
  · subst hm; exact .inr (.inr (.inr ⟨r, rfl⟩))
  · exact h.more hm _
theorem Sp.addJ {m : List UInt8} (h : Sp m) (k : Int) (h1 : 1 ≤ k) (h2 : k ≤ 26) : SpJ (m ++ (32 :: ttext (k, 1))) := by
  by_cases hm : m = []
  · subst hm; exact .inr ⟨k, h1, h2, rfl⟩
  · exact .inl (h.more hm _)
/-- What a tail has added so far: its text, the place in the source; K: what is left over. -/
def TailR (K : Nat) (G S : Nat) (a : Option Addr) (c : Nat) (zs : List Int) (pos : Nat) (l : List UInt8) (w wc : World) : Prop :=
  ∃ (p : Nat) (v : Value) (m : List UInt8), pos ≤ p ∧ Sp m ∧ m.length + 64 * pos ≤ 64 * p + K ∧ GenAt wc G S a c zs p v (l ++ m) ∧ FrG S w wc
def TailJ (K : Nat) (G S : Nat) (a : Option Addr) (c : Nat) (zs : List Int) (pos : Nat) (l : List UInt8) (w wc : World) : Prop :=
  ∃ (p : Nat) (v : Value) (m : List UInt8), pos ≤ p ∧ SpJ m ∧ m.length + 64 * pos ≤ 64 * p + K ∧ GenAt wc G S a c zs p v (l ++ m) ∧ FrG S w wc
def RetTail (G S : Nat) (a : Option Addr) (c : Nat) (zs : List Int) (pos : Nat) (l : List UInt8) (w : World) : Ending → World → Prop := fun en w' => en = .returned (.tuple #[]) ∧ TailJ 200 G S a c zs pos l w w'

set_option maxHeartbeats 16000000 in
theorem gen_tail (wl : Bool) (G S : Nat) (a : Option Addr) (c : Nat) (zs : List Int) (pos : Nat) (v : Value) (l : List UInt8) (w : World) (h : Hid (GenAt w G S a c zs pos v l)) (hl : l.length ≤ 64 * pos + 536870912) :
    Calls Yabn.prog 32 #[.pointer (some ⟨G, 0, none⟩), .bool wl] w (RetTail G S a c zs pos l w) := by
  have hg := h
  have hf : Hid (FrG S w w) := But.refl _ _
  have k0 := hg.out.c0
  go_enter Yabn.func32, Yabn.ntmps32
  go_wp2_with fail
  clear k0 h
  refine (src_next S a c zs pos w hg.out.src).mono ?_
  rintro e w1 ⟨x, p1, rfl, x0, x1, s2, hnp, hnq, b2⟩
  have hgn := hide (hg.out.next b2 s2)
  replace hf : Hid (FrG S w w1) := hf.out.trans (FrG.of_S b2)
  clear hg
  have hg := hgn
  have hx : 0 ≤ x ∧ x ≤ 255 := ⟨x0, x1⟩
  clear b2 s2 hgn x0 x1 hnq
  go_upto_if 10 with fail
  go_cut [] from 2 (fun wc => Hid (TailR 50 G S a c zs pos l w wc))
  case first =>
    have hps := hg.out.small
    by_cases hx2 : x % 2 = 0
    · go_wp2_with fail
      refine (gen_str G S a c zs p1 v l [32, 87, 72, 69, 82, 69, 32] w1 hg (by simp only [List.length_cons, List.length_nil]; omega)).mono ?_
      rintro e w2 ⟨rfl, pq, v2, lq, ⟨hpq, rfl⟩, hgq, fq⟩
      rw [hpq] at hgq
      replace hg := hide hgq
      replace hf := hide (hf.out.trans fq)
      clear hgq fq hpq
      go_wp2_with fail
      refine (gen_expr G S a c zs p1 v2 (l ++ [32, 87, 72, 69, 82, 69, 32]) w2 hg (by simp only [List.length_append, List.length_cons, List.length_nil]; omega)).mono ?_
      rintro e w3 ⟨rfl, p3, v3, lq, ⟨hpq, ⟨m3, rfl⟩, hlq⟩, hgq, fq⟩
      have hrel : Hid (TailR 50 G S a c zs pos l w w3) := ⟨p3, v3, [32, 87, 72, 69, 82, 69, 32] ++ m3, by omega, .inr (.inl ⟨m3, rfl⟩), by simp only [List.length_append, List.length_cons, List.length_nil] at hlq ⊢; omega, by rw [← List.append_assoc]; exact hgq, hf.out.trans fq⟩
      clear hgq fq hlq hpq hg hf
      go_wp2_with fail
      go_meet
      case rel => exact hrel.out
    · have hx2' : (x % 2 == 0) = false := by simpa using hx2
      have hrel : Hid (TailR 50 G S a c zs pos l w w1) := ⟨p1, v, [], by omega, .inl rfl, by simp only [List.length_nil]; omega, by rw [List.append_nil]; exact hg.out, hf.out⟩
      go_wp2_with fail
      go_meet
      case rel => exact hrel.out
  case rest =>
    clear hg hf hx
    obtain ⟨pA, vA, mA, hpA, hsA, hlA, hg, hf⟩ := hcut.out
    replace hg := hide hg
    replace hf := hide hf
    replace hsA := hide hsA
    clear hcut
    have k0 := hg.out.c0
    go_wp2_with fail
    clear k0
    refine (src_next S a c zs pA wc hg.out.src).mono ?_
    rintro e w1 ⟨x, p1, rfl, x0, x1, s2, hnp, hnq, b2⟩
    have hgn := hide (hg.out.next b2 s2)
    replace hf : Hid (FrG S w w1) := hf.out.trans (FrG.of_S b2)
    clear hg
    have hg := hgn
    have hx : 0 ≤ x ∧ x ≤ 255 := ⟨x0, x1⟩
    clear b2 s2 hgn x0 x1 hnq
    go_upto_if 21 with fail
    go_cut [] from 2 (fun wc => Hid (TailR 110 G S a c zs pos l w wc))
    case first =>
      have hps := hg.out.small
      have hlB : (l ++ mA).length ≤ 64 * pA + 536870962 := by simp only [List.length_append]; omega
      by_cases hx2 : x % 3 = 0
      · skip
        have k0 := hg.out.c0
        go_wp2_with fail
        clear k0
        refine (src_next S a c zs p1 w1 hg.out.src).mono ?_
        rintro e wd1 ⟨y, p2, rfl, y0, y1, s2, hpp, hnq, b2⟩
        clear hnq
        have hgn := hide (hg.out.next b2 s2)
        replace hf : Hid (FrG S w wd1) := hf.out.trans (FrG.of_S b2)
        clear hg
        have hg := hgn
        clear b2 s2 hgn
        have hyy : 0 ≤ y % 10 ∧ y % 10 ≤ 99 := by omega
        obtain ⟨z, hz⟩ : ∃ z, y % 10 = z := ⟨_, rfl⟩
        rw [hz] at hyy
        go_wp2_with fail
        refine (ItoaI z (by omega) (by omega) wd1).mono ?_
        rintro e w2 ⟨rfl, x4⟩
        replace hg := hide (hg.out.ext x4)
        replace hf : Hid (FrG S w w2) := hf.out.trans (But.of_ext x4)
        have hsz := itoa_len20 z (by omega)
        clear x4 y0 y1 hz
        obtain ⟨ds, hds⟩ : ∃ ds, itoa z.toNat = ds := ⟨_, rfl⟩
        rw [hds] at hsz
        have hps2 := hg.out.small
        have hcat : (({ data := #[32, 71, 82, 79, 85, 80, 32, 66, 89, 32, 99] } : ByteArray) ++ tx ds) = tx ([32, 71, 82, 79, 85, 80, 32, 66, 89, 32, 99] ++ ds) := tx_append [32, 71, 82, 79, 85, 80, 32, 66, 89, 32, 99] ds
        have hcat' : tx ([32, 71, 82, 79, 85, 80, 32, 66, 89, 32, 99] ++ ds) = tx (32 :: 71 :: 82 :: 79 :: 85 :: 80 :: 32 :: 66 :: 89 :: 32 :: 99 :: ds) := rfl
        rw [hcat'] at hcat
        have hz1 : ¬ 9223372036854775807 < 11 + (tx ds).size := by rw [tx_size]; omega
        go_wp2_with fail
        refine (gen_str G S a c zs p2 vA (l ++ mA) (32 :: 71 :: 82 :: 79 :: 85 :: 80 :: 32 :: 66 :: 89 :: 32 :: 99 :: ds) w2 hg (by have := hlB; simp only [List.length_append, List.length_cons, List.length_nil] at this ⊢; omega)).mono ?_
        rintro e w3 ⟨rfl, pq, v3, lq, ⟨hpq, rfl⟩, hgq, fq⟩
        rw [hpq] at hgq
        replace hg := hide hgq
        replace hf := hide (hf.out.trans fq)
        clear hgq fq hpq hcat hcat' hz1
        have hI0 : Hid (∃ (p : Nat) (v' : Value) (m : List UInt8), pos ≤ p ∧ Sp m ∧ m ≠ [] ∧ m.length + 64 * pos ≤ 64 * p + 110 ∧ GenAt w3 G S a c zs p v' (l ++ m) ∧ FrG S w w3) := by
          refine ⟨p2, v3, mA ++ (32 :: 71 :: 82 :: 79 :: 85 :: 80 :: 32 :: 66 :: 89 :: 32 :: 99 :: ds), by omega, hsA.out.addG ds, by simp, ?_, by rw [← List.append_assoc]; exact hg.out, hf.out⟩
          simp only [List.length_append, List.length_cons]
          omega
        clear hg hf
        go_wp2
        go_loopw [] (fun wr => Hid (∃ (p : Nat) (v' : Value) (m : List UInt8), pos ≤ p ∧ Sp m ∧ m ≠ [] ∧ m.length + 64 * pos ≤ 64 * p + 110 ∧ GenAt wr G S a c zs p v' (l ++ m) ∧ FrG S w wr)) (fun wr => zs.length - posOf wr S)
        case atStart => exact hI0
        clear hI0 hsz hlB hps2 hyy hds hsA hlA
        obtain ⟨p4, v4, m4, hp4, hs4, hn4, hl4, hg, hf⟩ := hrel.out
        have hpW := hide hg.src.posOf
        replace hg := hide hg
        replace hf := hide hf
        replace hs4 := hide hs4
        have hps4 := hg.out.small
        clear hrel
        have k0 := hg.out.c0
        go_wp2_with fail
        clear k0
        refine (src_left S a c zs p4 wr hg.out.src).mono ?_
        rintro e w5 ⟨b, rfl, hb, x5⟩
        replace hg := hide (hg.out.ext x5)
        replace hf : Hid (FrG S w w5) := hf.out.trans (But.of_ext x5)
        clear x5
        cases b with
        | false =>
          clear hb
          have hrel : Hid (TailR 110 G S a c zs pos l w w5) := ⟨p4, v4, m4, hp4, hs4.out, by omega, hg.out, hf.out⟩
          go_wp2_with fail
          go_wp2_with fail
          go_meet
          case rel => exact hrel.out
        | true =>
          have hlt : p4 < zs.length := hb.1 rfl
          clear hb
          have k0 := hg.out.c0
          go_wp2_with fail
          go_wp2_with fail
          clear k0
          refine (src_next S a c zs p4 w5 hg.out.src).mono ?_
          rintro e w6 ⟨u, p6, rfl, u0, u1, s2, hnp, hnq, b2⟩
          have hp6 := hnq hlt
          have hgn := hide (hg.out.next b2 s2)
          replace hf : Hid (FrG S w w6) := hf.out.trans (FrG.of_S b2)
          clear hg
          have hg := hgn
          clear b2 s2 hgn hnp hnq
          by_cases hu3 : u % 3 = 0
          · have hlB4 : (l ++ m4).length ≤ 64 * p6 + 536871022 := by simp only [List.length_append]; omega
            have k0 := hg.out.c0
            go_wp2_with fail
            clear k0
            refine (src_next S a c zs p6 w6 hg.out.src).mono ?_
            rintro e wd1 ⟨y2, p7, rfl, y0, y1, s2, hpp, hnq, b2⟩
            clear hnq
            have hgn := hide (hg.out.next b2 s2)
            replace hf : Hid (FrG S w wd1) := hf.out.trans (FrG.of_S b2)
            clear hg
            have hg := hgn
            clear b2 s2 hgn
            have hyy : 0 ≤ y2 % 10 ∧ y2 % 10 ≤ 99 := by omega
            obtain ⟨z2, hz⟩ : ∃ z, y2 % 10 = z := ⟨_, rfl⟩
            rw [hz] at hyy
            go_wp2_with fail
            refine (ItoaI z2 (by omega) (by omega) wd1).mono ?_
            rintro e w7 ⟨rfl, x4⟩
            replace hg := hide (hg.out.ext x4)
            replace hf : Hid (FrG S w w7) := hf.out.trans (But.of_ext x4)
            have hsz := itoa_len20 z2 (by omega)
            clear x4 y0 y1 hz
            obtain ⟨ds, hds⟩ : ∃ ds, itoa z2.toNat = ds := ⟨_, rfl⟩
            rw [hds] at hsz
            have hps7 := hg.out.small
            have hcat : (({ data := #[44, 32, 99] } : ByteArray) ++ tx ds) = tx ([44, 32, 99] ++ ds) := tx_append [44, 32, 99] ds
            have hcat' : tx ([44, 32, 99] ++ ds) = tx (44 :: 32 :: 99 :: ds) := rfl
            rw [hcat'] at hcat
            have hz1 : ¬ 9223372036854775807 < 3 + (tx ds).size := by rw [tx_size]; omega
            go_wp2_with fail
            refine (gen_str G S a c zs p7 v4 (l ++ m4) (44 :: 32 :: 99 :: ds) w7 hg (by have := hlB4; simp only [List.length_append, List.length_cons, List.length_nil] at this ⊢; omega)).mono ?_
            rintro e w8 ⟨rfl, pq, v8, lq, ⟨hpq, rfl⟩, hgq, fq⟩
            rw [hpq] at hgq
            replace hg := hide hgq
            replace hf := hide (hf.out.trans fq)
            clear hgq fq hpq hcat hcat' hz1
            have hpN := hide hg.out.src.posOf
            have hle := hide hg.out.src.le
            have hI1 : Hid (∃ (p : Nat) (v' : Value) (m : List UInt8), pos ≤ p ∧ Sp m ∧ m ≠ [] ∧ m.length + 64 * pos ≤ 64 * p + 110 ∧ GenAt w8 G S a c zs p v' (l ++ m) ∧ FrG S w w8) := by
              refine ⟨p7, v8, m4 ++ (44 :: 32 :: 99 :: ds), by omega, ?_, by simp, ?_, by rw [← List.append_assoc]; exact hg.out, hf.out⟩
              · exact hs4.out.more hn4 _
              · simp only [List.length_append, List.length_cons]
                omega
            go_wp2
            go_roundw
            case rel => exact hI1.out
            case measure =>
              have h6 := hle.out
              rw [hpN.out, hpW.out]
              omega
          · have hu3' : (u % 3 == 0) = false := by simpa using hu3
            have hrel : Hid (TailR 110 G S a c zs pos l w w6) := ⟨p6, v4, m4, by omega, hs4.out, by omega, hg.out, hf.out⟩
            go_wp2_with fail
            go_meet
            case rel => exact hrel.out
      · have hx2' : (x % 3 == 0) = false := by simpa using hx2
        have hrel : Hid (TailR 110 G S a c zs pos l w w1) := ⟨p1, vA, mA, by omega, hsA.out, by omega, hg.out, hf.out⟩
        go_wp2_with fail
        go_meet
        case rel => exact hrel.out
    case rest =>
      clear hg hf hx hsA hlA
      obtain ⟨pB, vB, mB, hpB, hsB, hlB, hg, hf⟩ := hcut.out
      replace hg := hide hg
      replace hf := hide hf
      replace hsB := hide hsB
      clear hcut
      have hpsB := hg.out.small
      cases wl with
      | false =>
        have hsJ := hsB
        have hlJ : (l ++ mB).length ≤ 64 * pB + 536871100 := by simp only [List.length_append]; omega
        have k0 := hg.out.c0
        go_wp2_with fail
        clear k0
        refine (src_next S a c zs pB wc hg.out.src).mono ?_
        rintro e wj1 ⟨xj, pj, rfl, x0, x1, s2, hnp, hnq, b2⟩
        have hgn := hide (hg.out.next b2 s2)
        replace hf : Hid (FrG S w wj1) := hf.out.trans (FrG.of_S b2)
        clear hg
        have hg := hgn
        have hxj : 0 ≤ xj ∧ xj ≤ 255 := ⟨x0, x1⟩
        clear b2 s2 hgn x0 x1 hnq
        have hpsj := hg.out.small
        by_cases hj : xj % 24 = 1
        · have k0 := hg.out.c0
          go_wp2_with fail
          clear k0
          refine (src_next S a c zs pj wj1 hg.out.src).mono ?_
          rintro e wj2 ⟨yj, pk2, rfl, y0, y1, s2, hpp, hnq, b2⟩
          clear hnq
          have hgn := hide (hg.out.next b2 s2)
          replace hf : Hid (FrG S w wj2) := hf.out.trans (FrG.of_S b2)
          clear hg
          have hg := hgn
          clear b2 s2 hgn
          have hk1 : 1 ≤ 1 + yj % 26 := by omega
          have hk2 : 1 + yj % 26 ≤ 26 := by omega
          obtain ⟨kt, hkt⟩ : ∃ k, 1 + yj % 26 = k := ⟨_, rfl⟩
          rw [hkt] at hk1 hk2
          have hps2 := hg.out.small
          go_wp2_with fail
          refine (TokenText1 kt hk1 hk2 wj2).mono ?_
          rintro e wj3 ⟨rfl, x4⟩
          replace hg := hide (hg.out.ext x4)
          replace hf : Hid (FrG S w wj3) := hf.out.trans (But.of_ext x4)
          have hsz := ttext1_len kt hk1 hk2
          have hJ := hide (hsJ.out.addJ kt hk1 hk2)
          clear x4 y0 y1 hkt hk1 hk2
          obtain ⟨ds, hds⟩ : ∃ ds, ttext (kt, 1) = ds := ⟨_, rfl⟩
          rw [hds] at hsz hJ
          have hcat : (({ data := #[32] } : ByteArray) ++ tx ds) = tx ([32] ++ ds) := tx_append [32] ds
          have hcat' : tx ([32] ++ ds) = tx (32 :: ds) := rfl
          rw [hcat'] at hcat
          have hz1 : ¬ 9223372036854775807 < 1 + (tx ds).size := by rw [tx_size]; omega
          go_wp2_with fail
          refine (gen_str G S a c zs pk2 vB (l ++ mB) (32 :: ds) wj3 hg (by have := hlJ; simp only [List.length_append, List.length_cons, List.length_nil] at this ⊢; omega)).mono ?_
          rintro e wj4 ⟨rfl, pq, v9, lq, ⟨hpq, rfl⟩, hgq, fq⟩
          rw [hpq] at hgq
          replace hg := hide hgq
          replace hf := hide (hf.out.trans fq)
          clear hgq fq hpq hcat hcat' hz1
          go_wp2
          go_end0
          exact ⟨rfl, pk2, v9, mB ++ (32 :: ds), by omega, hJ.out, by simp only [List.length_append, List.length_cons]; omega, by rw [← List.append_assoc]; exact hg.out, hf.out⟩
        · have hj' : (xj % 24 == 1) = false := by simpa using hj
          go_wp2
          go_end0
          exact ⟨rfl, pj, vB, mB, by omega, .inl hsJ.out, by omega, hg.out, hf.out⟩
      | true =>
        have k0 := hg.out.c0
        go_wp2_with fail
        clear k0
        refine (src_next S a c zs pB wc hg.out.src).mono ?_
        rintro e wk1 ⟨x3, p3, rfl, x0, x1, s2, hnp, hnq, b2⟩
        have hgn := hide (hg.out.next b2 s2)
        replace hf : Hid (FrG S w wk1) := hf.out.trans (FrG.of_S b2)
        clear hg
        have hg := hgn
        have hx3 : 0 ≤ x3 ∧ x3 ≤ 255 := ⟨x0, x1⟩
        clear b2 s2 hgn x0 x1 hnq
        have hps3 := hg.out.small
        by_cases hx33 : x3 % 3 = 0
        · have hlB3 : (l ++ mB).length ≤ 64 * p3 + 536871100 := by simp only [List.length_append]; omega
          have k0 := hg.out.c0
          go_wp2_with fail
          clear k0
          refine (src_next S a c zs p3 wk1 hg.out.src).mono ?_
          rintro e wd1 ⟨y3, p4, rfl, y0, y1, s2, hpp, hnq, b2⟩
          clear hnq
          have hgn := hide (hg.out.next b2 s2)
          replace hf : Hid (FrG S w wd1) := hf.out.trans (FrG.of_S b2)
          clear hg
          have hg := hgn
          clear b2 s2 hgn
          have hyy : 0 ≤ y3 % 20 ∧ y3 % 20 ≤ 99 := by omega
          obtain ⟨z3, hz⟩ : ∃ z, y3 % 20 = z := ⟨_, rfl⟩
          rw [hz] at hyy
          go_wp2_with fail
          refine (ItoaI z3 (by omega) (by omega) wd1).mono ?_
          rintro e wk2 ⟨rfl, x4⟩
          replace hg := hide (hg.out.ext x4)
          replace hf : Hid (FrG S w wk2) := hf.out.trans (But.of_ext x4)
          have hsz := itoa_len20 z3 (by omega)
          clear x4 y0 y1 hz
          obtain ⟨ds, hds⟩ : ∃ ds, itoa z3.toNat = ds := ⟨_, rfl⟩
          rw [hds] at hsz
          have hps4 := hg.out.small
          have hcat : (({ data := #[32, 76, 73, 77, 73, 84, 32] } : ByteArray) ++ tx ds) = tx ([32, 76, 73, 77, 73, 84, 32] ++ ds) := tx_append [32, 76, 73, 77, 73, 84, 32] ds
          have hcat' : tx ([32, 76, 73, 77, 73, 84, 32] ++ ds) = tx (32 :: 76 :: 73 :: 77 :: 73 :: 84 :: 32 :: ds) := rfl
          rw [hcat'] at hcat
          have hz1 : ¬ 9223372036854775807 < 7 + (tx ds).size := by rw [tx_size]; omega
          go_wp2_with fail
          refine (gen_str G S a c zs p4 vB (l ++ mB) (32 :: 76 :: 73 :: 77 :: 73 :: 84 :: 32 :: ds) wk2 hg (by have := hlB3; simp only [List.length_append, List.length_cons, List.length_nil] at this ⊢; omega)).mono ?_
          rintro e wk3 ⟨rfl, pq, v4, lq, ⟨hpq, rfl⟩, hgq, fq⟩
          rw [hpq] at hgq
          replace hg := hide hgq
          replace hf := hide (hf.out.trans fq)
          clear hgq fq hpq hcat hcat' hz1
          have hg4 : Hid (GenAt wk3 G S a c zs p4 v4 (l ++ (mB ++ 32 :: 76 :: 73 :: 77 :: 73 :: 84 :: 32 :: ds))) := by rw [← List.append_assoc]; exact hg
          clear hg
          have hg := hg4
          have hsJ : Hid (Sp (mB ++ 32 :: 76 :: 73 :: 77 :: 73 :: 84 :: 32 :: ds)) := hsB.out.addL ds
          obtain ⟨mC, hmC⟩ : ∃ m, mB ++ 32 :: 76 :: 73 :: 77 :: 73 :: 84 :: 32 :: ds = m := ⟨_, rfl⟩
          have hlC : mC.length + 64 * pos ≤ 64 * p4 + 150 := by rw [← hmC]; simp only [List.length_append, List.length_cons]; omega
          rw [hmC] at hg hsJ
          clear hg4 hmC hds hsz hlB3 hyy
          have hlJ : (l ++ mC).length ≤ 64 * p4 + 536871100 := by simp only [List.length_append]; omega
          have k0 := hg.out.c0
          go_wp2_with fail
          clear k0
          refine (src_next S a c zs p4 wk3 hg.out.src).mono ?_
          rintro e wj1 ⟨xj, pj, rfl, x0, x1, s2, hnp, hnq, b2⟩
          have hgn := hide (hg.out.next b2 s2)
          replace hf : Hid (FrG S w wj1) := hf.out.trans (FrG.of_S b2)
          clear hg
          have hg := hgn
          have hxj : 0 ≤ xj ∧ xj ≤ 255 := ⟨x0, x1⟩
          clear b2 s2 hgn x0 x1 hnq
          have hpsj := hg.out.small
          by_cases hj : xj % 24 = 1
          · have k0 := hg.out.c0
            go_wp2_with fail
            clear k0
            refine (src_next S a c zs pj wj1 hg.out.src).mono ?_
            rintro e wj2 ⟨yj, pk2, rfl, y0, y1, s2, hpp, hnq, b2⟩
            clear hnq
            have hgn := hide (hg.out.next b2 s2)
            replace hf : Hid (FrG S w wj2) := hf.out.trans (FrG.of_S b2)
            clear hg
            have hg := hgn
            clear b2 s2 hgn
            have hk1 : 1 ≤ 1 + yj % 26 := by omega
            have hk2 : 1 + yj % 26 ≤ 26 := by omega
            obtain ⟨kt, hkt⟩ : ∃ k, 1 + yj % 26 = k := ⟨_, rfl⟩
            rw [hkt] at hk1 hk2
            have hps2 := hg.out.small
            go_wp2_with fail
            refine (TokenText1 kt hk1 hk2 wj2).mono ?_
            rintro e wj3 ⟨rfl, x4⟩
            replace hg := hide (hg.out.ext x4)
            replace hf : Hid (FrG S w wj3) := hf.out.trans (But.of_ext x4)
            have hsz := ttext1_len kt hk1 hk2
            have hJ := hide (hsJ.out.addJ kt hk1 hk2)
            clear x4 y0 y1 hkt hk1 hk2
            obtain ⟨ds, hds⟩ : ∃ ds, ttext (kt, 1) = ds := ⟨_, rfl⟩
            rw [hds] at hsz hJ
            have hcat : (({ data := #[32] } : ByteArray) ++ tx ds) = tx ([32] ++ ds) := tx_append [32] ds
            have hcat' : tx ([32] ++ ds) = tx (32 :: ds) := rfl
            rw [hcat'] at hcat
            have hz1 : ¬ 9223372036854775807 < 1 + (tx ds).size := by rw [tx_size]; omega
            go_wp2_with fail
            refine (gen_str G S a c zs pk2 v4 (l ++ mC) (32 :: ds) wj3 hg (by have := hlJ; simp only [List.length_append, List.length_cons, List.length_nil] at this ⊢; omega)).mono ?_
            rintro e wj4 ⟨rfl, pq, v9, lq, ⟨hpq, rfl⟩, hgq, fq⟩
            rw [hpq] at hgq
            replace hg := hide hgq
            replace hf := hide (hf.out.trans fq)
            clear hgq fq hpq hcat hcat' hz1
            go_wp2
            go_end0
            exact ⟨rfl, pk2, v9, mC ++ (32 :: ds), by omega, hJ.out, by simp only [List.length_append, List.length_cons]; omega, by rw [← List.append_assoc]; exact hg.out, hf.out⟩
          · have hj' : (xj % 24 == 1) = false := by simpa using hj
            go_wp2
            go_end0
            exact ⟨rfl, pj, v4, mC, by omega, .inl hsJ.out, by omega, hg.out, hf.out⟩
        · have hx33' : (x3 % 3 == 0) = false := by simpa using hx33
          have hsJ := hsB
          have hlC : mB.length + 64 * pos ≤ 64 * p3 + 150 := by omega
          have hlJ : (l ++ mB).length ≤ 64 * p3 + 536871100 := by simp only [List.length_append]; omega
          have k0 := hg.out.c0
          go_wp2_with fail
          clear k0
          refine (src_next S a c zs p3 wk1 hg.out.src).mono ?_
          rintro e wj1 ⟨xj, pj, rfl, x0, x1, s2, hnp, hnq, b2⟩
          have hgn := hide (hg.out.next b2 s2)
          replace hf : Hid (FrG S w wj1) := hf.out.trans (FrG.of_S b2)
          clear hg
          have hg := hgn
          have hxj : 0 ≤ xj ∧ xj ≤ 255 := ⟨x0, x1⟩
          clear b2 s2 hgn x0 x1 hnq
          have hpsj := hg.out.small
          by_cases hj : xj % 24 = 1
          · have k0 := hg.out.c0
            go_wp2_with fail
            clear k0
            refine (src_next S a c zs pj wj1 hg.out.src).mono ?_
            rintro e wj2 ⟨yj, pk2, rfl, y0, y1, s2, hpp, hnq, b2⟩
            clear hnq
            have hgn := hide (hg.out.next b2 s2)
            replace hf : Hid (FrG S w wj2) := hf.out.trans (FrG.of_S b2)
            clear hg
            have hg := hgn
            clear b2 s2 hgn
            have hk1 : 1 ≤ 1 + yj % 26 := by omega
            have hk2 : 1 + yj % 26 ≤ 26 := by omega
            obtain ⟨kt, hkt⟩ : ∃ k, 1 + yj % 26 = k := ⟨_, rfl⟩
            rw [hkt] at hk1 hk2
            have hps2 := hg.out.small
            go_wp2_with fail
            refine (TokenText1 kt hk1 hk2 wj2).mono ?_
            rintro e wj3 ⟨rfl, x4⟩
            replace hg := hide (hg.out.ext x4)
            replace hf : Hid (FrG S w wj3) := hf.out.trans (But.of_ext x4)
            have hsz := ttext1_len kt hk1 hk2
            have hJ := hide (hsJ.out.addJ kt hk1 hk2)
            clear x4 y0 y1 hkt hk1 hk2
            obtain ⟨ds, hds⟩ : ∃ ds, ttext (kt, 1) = ds := ⟨_, rfl⟩
            rw [hds] at hsz hJ
            have hcat : (({ data := #[32] } : ByteArray) ++ tx ds) = tx ([32] ++ ds) := tx_append [32] ds
            have hcat' : tx ([32] ++ ds) = tx (32 :: ds) := rfl
            rw [hcat'] at hcat
            have hz1 : ¬ 9223372036854775807 < 1 + (tx ds).size := by rw [tx_size]; omega
            go_wp2_with fail
            refine (gen_str G S a c zs pk2 vB (l ++ mB) (32 :: ds) wj3 hg (by have := hlJ; simp only [List.length_append, List.length_cons, List.length_nil] at this ⊢; omega)).mono ?_
            rintro e wj4 ⟨rfl, pq, v9, lq, ⟨hpq, rfl⟩, hgq, fq⟩
            rw [hpq] at hgq
            replace hg := hide hgq
            replace hf := hide (hf.out.trans fq)
            clear hgq fq hpq hcat hcat' hz1
            go_wp2
            go_end0
            exact ⟨rfl, pk2, v9, mB ++ (32 :: ds), by omega, hJ.out, by simp only [List.length_append, List.length_cons]; omega, by rw [← List.append_assoc]; exact hg.out, hf.out⟩
          · have hj' : (xj % 24 == 1) = false := by simpa using hj
            go_wp2
            go_end0
            exact ⟨rfl, pj, vB, mB, by omega, .inl hsJ.out, by omega, hg.out, hf.out⟩
end Go.Proofs.YbyabwGreat
