/- Walks: spec.isBinary, spec.printNode -/
import Derived.Test.YbyaawPrnW0
namespace Go.Proofs.Ybyaaw
open Go.RowKit
set_option maxRecDepth 100000
set_option linter.unusedVariables false
set_option linter.unusedSimpArgs false

def RetYs (w : World) : Ending → World → Prop := fun e w' => e = .returned (.bool true) ∧ w = w'
set_option maxHeartbeats 1000000 in
theorem isBin_yes (o : Int) (h4 : 4 ≤ o) (h14 : o ≤ 14) (w : World) : Calls Yaan.prog 118 #[.int .i64 o] w (RetYs w) := by
  go_enter Yaan.func118, Yaan.ntmps118
  go_wp2
  go_ret
  exact ⟨rfl, rfl⟩

theorem itoa_nn (u : Nat) : itoa u ≠ [] := List.length_pos_iff.1 (itoa_ne u)
def RetB (base : Nat) (l : List UInt8) (w : World) : Ending → World → Prop := fun en w' => ∃ v', en = .returned v' ∧ OwnB w' base v' l ∧ FrU base w w'
def OkP (base : Nat) (na : Option Addr) (nc : Nat) (nd : List Nd) (f : Nat) : Prop := ∀ a x, NB nd f a x → ∀ v l w, NodesAt w na nd → OwnW w base v l → base ≤ w.heap.size → l.length + (pn nd f x).length < 2 ^ 38 →
  Calls Yaan.prog 78 #[.slice na nd.length nc, .int .i64 x, v] w (RetB base (l ++ pn nd f x) w)
set_option maxHeartbeats 8000000 in
theorem printNode_lit (base : Nat) (na : Option Addr) (nc : Nat) (nd : List Nd) (x : Nat) (hx : x < nd.length) (z : Int) (e : nd.getD x nd0 = ⟨1, z, -1, -1⟩) (z0 : 0 ≤ z) (z1 : z ≤ 9223372036854775807)
    (pv : Option Addr) (cv : Nat) (l : List UInt8) (w : World) (hna : Hid (∀ p, na = some p → p.block < base)) (hN : Hid (NodesAt w na nd)) (hO : Hid (OwnW w base (.slice pv l.length cv) l)) (hbase : base ≤ w.heap.size) (hlen : l.length + (itoa z.toNat).length < 2 ^ 38) :
    Calls Yaan.prog 78 #[.slice na nd.length nc, .int .i64 x, .slice pv l.length cv] w (RetB base (l ++ itoa z.toNat) w) := by
  have hx' : (x : Int) < nd.length := by omega
  obtain ⟨b, off, rfl, g1, g2, g3, g4⟩ := hN.out.get x hx
  rw [e] at g1 g2 g3 g4
  simp only at g1 g2 g3 g4
  clear e
  have hB : Hid (Blk (w.alloc (.cells #[.int .i64 1, .int .i64 z, .int .i64 (-1), .int .i64 (-1)] 134)) w.heap.size 134 [.int .i64 1, .int .i64 z, .int .i64 (-1), .int .i64 (-1)]) := Blk.new w _ _
  have hO1 := hide (hO.out.alloc (.cells #[.int .i64 1, .int .i64 z, .int .i64 (-1), .int .i64 (-1)] 134))
  have hF : Hid (FrU base w (w.alloc (.cells #[.int .i64 1, .int .i64 z, .int .i64 (-1), .int .i64 (-1)] 134))) := FrU.of_ext ((Ext.refl w).alloc _)
  have hZ : Hid (base ≤ (w.alloc (.cells #[.int .i64 1, .int .i64 z, .int .i64 (-1), .int .i64 (-1)] 134)).heap.size) := by have := hF.out.size; show base ≤ _; omega
  have p0 := hB.out.box 0 _ rfl
  have p1 := hB.out.box 1 _ rfl
  have p2 := hB.out.box 2 _ rfl
  have p3 := hB.out.box 3 _ rfl
  have hNW := hide (hN.out.ext ((Ext.refl w).alloc (.cells #[.int .i64 1, .int .i64 z, .int .i64 (-1), .int .i64 (-1)] 134)))
  clear hO hN
  go_enter Yaan.func78, Yaan.ntmps78
  go_wp2_with fail
  generalize w.alloc (.cells #[.int .i64 1, .int .i64 z, .int .i64 (-1), .int .i64 (-1)] 134) = W at *
  refine (ItoaI z z0 z1 W).mono ?_
  rintro e w1 ⟨rfl, x1⟩
  replace hF := hide (hF.out.trans (FrU.of_ext x1))
  replace hB := hide (hB.out.ext x1)
  replace hO1 := hide (hO1.out.ext x1)
  replace hNW := hide (hNW.out.ext x1)
  replace hZ : Hid (base ≤ w1.heap.size) := Nat.le_trans hZ.out x1.size
  clear x1 p0 p1 p2 p3
  go_wp2_with (at_builtin; refine app_strW rfl rfl base hZ.out (.slice pv l.length cv) (l) (itoa z.toNat) rfl hO1.out rfl (by first | exact itoa_nn _ | simp) (by have := hlen; first | (simp only [List.length_append, List.length_cons, List.length_nil] at this ⊢; omega) | omega) ?_; intro v2 w2 O9 F9; replace hF := hide (hF.out.trans F9); replace hB := hide (F9.blk hB.out (by decide)); replace hZ : Hid (base ≤ w2.heap.size) := Nat.le_trans hZ.out F9.size; replace hNW := hide (F9.nodes hNW.out hna.out); (try clear hOB); have hOB := hide O9; clear hO1; have hO1 : Hid (OwnW w2 base v2 _) := Or.inl hOB.out; clear O9 F9; (try clear p0); (try clear p2); (try clear p3); have p0 := hB.out.box 0 _ rfl; have p2 := hB.out.box 2 _ rfl; have p3 := hB.out.box 3 _ rfl)
  go_ret
  exact ⟨v2, rfl, hOB.out, hF.out⟩
set_option maxHeartbeats 8000000 in
theorem printNode_col (base : Nat) (na : Option Addr) (nc : Nat) (nd : List Nd) (x : Nat) (hx : x < nd.length) (z : Int) (e : nd.getD x nd0 = ⟨2, z, -1, -1⟩) (z0 : 0 ≤ z) (z1 : z ≤ 65535)
    (pv : Option Addr) (cv : Nat) (l : List UInt8) (w : World) (hna : Hid (∀ p, na = some p → p.block < base)) (hN : Hid (NodesAt w na nd)) (hO : Hid (OwnW w base (.slice pv l.length cv) l)) (hbase : base ≤ w.heap.size) (hlen : l.length + (99 :: itoa z.toNat).length < 2 ^ 38) :
    Calls Yaan.prog 78 #[.slice na nd.length nc, .int .i64 x, .slice pv l.length cv] w (RetB base (l ++ (99 :: itoa z.toNat)) w) := by
  have hx' : (x : Int) < nd.length := by omega
  obtain ⟨b, off, rfl, g1, g2, g3, g4⟩ := hN.out.get x hx
  rw [e] at g1 g2 g3 g4
  simp only at g1 g2 g3 g4
  clear e
  have hB : Hid (Blk (w.alloc (.cells #[.int .i64 2, .int .i64 z, .int .i64 (-1), .int .i64 (-1)] 134)) w.heap.size 134 [.int .i64 2, .int .i64 z, .int .i64 (-1), .int .i64 (-1)]) := Blk.new w _ _
  have hO1 := hide (hO.out.alloc (.cells #[.int .i64 2, .int .i64 z, .int .i64 (-1), .int .i64 (-1)] 134))
  have hF : Hid (FrU base w (w.alloc (.cells #[.int .i64 2, .int .i64 z, .int .i64 (-1), .int .i64 (-1)] 134))) := FrU.of_ext ((Ext.refl w).alloc _)
  have hZ : Hid (base ≤ (w.alloc (.cells #[.int .i64 2, .int .i64 z, .int .i64 (-1), .int .i64 (-1)] 134)).heap.size) := by have := hF.out.size; show base ≤ _; omega
  have p0 := hB.out.box 0 _ rfl
  have p1 := hB.out.box 1 _ rfl
  have p2 := hB.out.box 2 _ rfl
  have p3 := hB.out.box 3 _ rfl
  have hNW := hide (hN.out.ext ((Ext.refl w).alloc (.cells #[.int .i64 2, .int .i64 z, .int .i64 (-1), .int .i64 (-1)] 134)))
  clear hO hN
  go_enter Yaan.func78, Yaan.ntmps78
  go_wp2_with fail
  generalize w.alloc (.cells #[.int .i64 2, .int .i64 z, .int .i64 (-1), .int .i64 (-1)] 134) = W at *
  refine (ItoaI z z0 (by omega) W).mono ?_
  rintro e w1 ⟨rfl, x1⟩
  replace hF := hide (hF.out.trans (FrU.of_ext x1))
  replace hB := hide (hB.out.ext x1)
  replace hO1 := hide (hO1.out.ext x1)
  replace hNW := hide (hNW.out.ext x1)
  replace hZ : Hid (base ≤ w1.heap.size) := Nat.le_trans hZ.out x1.size
  clear x1 p0 p1 p2 p3
  have hcat : (({ data := #[99] } : ByteArray) ++ tx (itoa z.toNat)) = tx (99 :: itoa z.toNat) := tx_append [99] (itoa z.toNat)
  have hsz2 : ¬ 9223372036854775807 < 1 + (tx (itoa z.toNat)).size := by rw [tx_size]; simp only [List.length_cons] at hlen; omega
  go_wp2_with (at_builtin; refine app_strW rfl rfl base hZ.out (.slice pv l.length cv) (l) (99 :: itoa z.toNat) rfl hO1.out rfl (by first | exact itoa_nn _ | simp) (by have := hlen; first | (simp only [List.length_append, List.length_cons, List.length_nil] at this ⊢; omega) | omega) ?_; intro v2 w2 O9 F9; replace hF := hide (hF.out.trans F9); replace hB := hide (F9.blk hB.out (by decide)); replace hZ : Hid (base ≤ w2.heap.size) := Nat.le_trans hZ.out F9.size; replace hNW := hide (F9.nodes hNW.out hna.out); (try clear hOB); have hOB := hide O9; clear hO1; have hO1 : Hid (OwnW w2 base v2 _) := Or.inl hOB.out; clear O9 F9; (try clear p0); (try clear p2); (try clear p3); have p0 := hB.out.box 0 _ rfl; have p2 := hB.out.box 2 _ rfl; have p3 := hB.out.box 3 _ rfl)
  go_ret
  exact ⟨v2, rfl, hOB.out, hF.out⟩
set_option maxHeartbeats 8000000 in
theorem printNode_neg (base : Nat) (na : Option Addr) (nc : Nat) (nd : List Nd) (hna : Hid (∀ p, na = some p → p.block < base)) (f : Nat) (ih : Hid (OkP base na nc nd f)) (a x y : Nat) (hx : x < nd.length) (e : nd.getD x nd0 = ⟨3, 0, (y : Int), -1⟩) (hxy : x = y + 1) (hy : Hid (NB nd f a y))
    (pv : Option Addr) (cv : Nat) (l : List UInt8) (w : World) (hN : Hid (NodesAt w na nd)) (hO : Hid (OwnW w base (.slice pv l.length cv) l)) (hbase : base ≤ w.heap.size) (hlen : l.length + ([40, 45, 32] ++ pn nd f y ++ [41]).length < 2 ^ 38) :
    Calls Yaan.prog 78 #[.slice na nd.length nc, .int .i64 x, .slice pv l.length cv] w (RetB base (l ++ [40, 45, 32] ++ pn nd f y ++ [41]) w) := by
  have hx' : (x : Int) < nd.length := by omega
  have hyx : (y : Int) < x := by omega
  have hy0 : (0 : Int) ≤ y := by omega
  replace hxy := hide hxy
  obtain ⟨b, off, rfl, g1, g2, g3, g4⟩ := hN.out.get x hx
  rw [e] at g1 g2 g3 g4
  simp only at g1 g2 g3 g4
  clear e
  have hB : Hid (Blk (w.alloc (.cells #[.int .i64 3, .int .i64 0, .int .i64 (y : Int), .int .i64 (-1)] 134)) w.heap.size 134 [.int .i64 3, .int .i64 0, .int .i64 (y : Int), .int .i64 (-1)]) := Blk.new w _ _
  have hO1 := hide (hO.out.alloc (.cells #[.int .i64 3, .int .i64 0, .int .i64 (y : Int), .int .i64 (-1)] 134))
  have hF : Hid (FrU base w (w.alloc (.cells #[.int .i64 3, .int .i64 0, .int .i64 (y : Int), .int .i64 (-1)] 134))) := FrU.of_ext ((Ext.refl w).alloc _)
  have hZ : Hid (base ≤ (w.alloc (.cells #[.int .i64 3, .int .i64 0, .int .i64 (y : Int), .int .i64 (-1)] 134)).heap.size) := by have := hF.out.size; show base ≤ _; omega
  have p0 := hB.out.box 0 _ rfl
  have p1 := hB.out.box 1 _ rfl
  have p2 := hB.out.box 2 _ rfl
  have p3 := hB.out.box 3 _ rfl
  have hNW := hide (hN.out.ext ((Ext.refl w).alloc (.cells #[.int .i64 3, .int .i64 0, .int .i64 (y : Int), .int .i64 (-1)] 134)))
  clear hO hN
  go_enter Yaan.func78, Yaan.ntmps78
  go_wp2_with (at_builtin; refine app_strW rfl rfl base hZ.out (.slice pv l.length cv) (l) ([40, 45, 32]) rfl hO1.out rfl (by first | exact itoa_nn _ | simp) (by have := hlen; first | (simp only [List.length_append, List.length_cons, List.length_nil] at this ⊢; omega) | omega) ?_; intro v2 w2 O9 F9; replace hF := hide (hF.out.trans F9); replace hB := hide (F9.blk hB.out (by decide)); replace hZ : Hid (base ≤ w2.heap.size) := Nat.le_trans hZ.out F9.size; replace hNW := hide (F9.nodes hNW.out hna.out); (try clear hOB); have hOB := hide O9; clear hO1; have hO1 : Hid (OwnW w2 base v2 _) := Or.inl hOB.out; clear O9 F9; (try clear p0); (try clear p2); (try clear p3); have p0 := hB.out.box 0 _ rfl; have p2 := hB.out.box 2 _ rfl; have p3 := hB.out.box 3 _ rfl)
  refine (ih.out _ y hy.out v2 (l ++ [40, 45, 32]) w2 hNW.out hO1.out hZ.out (by simp only [List.length_append, List.length_cons, List.length_nil] at hlen ⊢; omega)).mono ?_
  rintro e w3 ⟨v3, rfl, O9, F9⟩
  replace hF := hide (hF.out.trans F9)
  replace hB := hide (F9.blk hB.out (by decide))
  (try clear hOB)
  have hOB := hide O9
  clear hO1
  have hO1 : Hid (OwnW w3 base v3 _) := Or.inl hOB.out
  replace hNW := hide (F9.nodes hNW.out hna.out)
  replace hZ : Hid (base ≤ w3.heap.size) := Nat.le_trans hZ.out F9.size
  clear O9 F9 p0 p2 p3
  have p0 := hB.out.box 0 _ rfl
  have p3 := hB.out.box 3 _ rfl
  have p2 := hB.out.box 2 _ rfl
  go_wp2_with (at_builtin; refine app_byteW rfl rfl base (by have := hZ.out; simp; omega) v3 (l ++ [40, 45, 32] ++ pn nd f y) 41 41 rfl rfl (OwnW.alloc hO1.out _) w3.heap.size 1 (by rfl) (heap_alloc_new w3 _) (by have := hlen; first | (simp only [List.length_append, List.length_cons, List.length_nil] at this ⊢; omega) | omega) ?_; intro v4 w4 O9 F9; replace F9 := FrU.trans (FrU.of_ext ((Ext.refl w3).alloc _)) F9; replace hF := hide (hF.out.trans F9); replace hB := hide (F9.blk hB.out (by decide)); replace hZ : Hid (base ≤ w4.heap.size) := Nat.le_trans hZ.out F9.size; replace hNW := hide (F9.nodes hNW.out hna.out); (try clear hOB); have hOB := hide O9; clear hO1; have hO1 : Hid (OwnW w4 base v4 _) := Or.inl hOB.out; clear O9 F9; (try clear p0); (try clear p2); (try clear p3); have p0 := hB.out.box 0 _ rfl; have p2 := hB.out.box 2 _ rfl; have p3 := hB.out.box 3 _ rfl)
  go_ret
  exact ⟨v4, rfl, hOB.out, hF.out⟩
set_option maxHeartbeats 8000000 in
theorem printNode_not (base : Nat) (na : Option Addr) (nc : Nat) (nd : List Nd) (hna : Hid (∀ p, na = some p → p.block < base)) (f : Nat) (ih : Hid (OkP base na nc nd f)) (a x y : Nat) (hx : x < nd.length) (e : nd.getD x nd0 = ⟨15, 0, (y : Int), -1⟩) (hxy : x = y + 1) (hy : Hid (NB nd f a y))
    (pv : Option Addr) (cv : Nat) (l : List UInt8) (w : World) (hN : Hid (NodesAt w na nd)) (hO : Hid (OwnW w base (.slice pv l.length cv) l)) (hbase : base ≤ w.heap.size) (hlen : l.length + ([40, 78, 79, 84, 32] ++ pn nd f y ++ [41]).length < 2 ^ 38) :
    Calls Yaan.prog 78 #[.slice na nd.length nc, .int .i64 x, .slice pv l.length cv] w (RetB base (l ++ [40, 78, 79, 84, 32] ++ pn nd f y ++ [41]) w) := by
  have hx' : (x : Int) < nd.length := by omega
  have hyx : (y : Int) < x := by omega
  have hy0 : (0 : Int) ≤ y := by omega
  replace hxy := hide hxy
  obtain ⟨b, off, rfl, g1, g2, g3, g4⟩ := hN.out.get x hx
  rw [e] at g1 g2 g3 g4
  simp only at g1 g2 g3 g4
  clear e
  have hB : Hid (Blk (w.alloc (.cells #[.int .i64 15, .int .i64 0, .int .i64 (y : Int), .int .i64 (-1)] 134)) w.heap.size 134 [.int .i64 15, .int .i64 0, .int .i64 (y : Int), .int .i64 (-1)]) := Blk.new w _ _
  have hO1 := hide (hO.out.alloc (.cells #[.int .i64 15, .int .i64 0, .int .i64 (y : Int), .int .i64 (-1)] 134))
  have hF : Hid (FrU base w (w.alloc (.cells #[.int .i64 15, .int .i64 0, .int .i64 (y : Int), .int .i64 (-1)] 134))) := FrU.of_ext ((Ext.refl w).alloc _)
  have hZ : Hid (base ≤ (w.alloc (.cells #[.int .i64 15, .int .i64 0, .int .i64 (y : Int), .int .i64 (-1)] 134)).heap.size) := by have := hF.out.size; show base ≤ _; omega
  have p0 := hB.out.box 0 _ rfl
  have p1 := hB.out.box 1 _ rfl
  have p2 := hB.out.box 2 _ rfl
  have p3 := hB.out.box 3 _ rfl
  have hNW := hide (hN.out.ext ((Ext.refl w).alloc (.cells #[.int .i64 15, .int .i64 0, .int .i64 (y : Int), .int .i64 (-1)] 134)))
  clear hO hN
  go_enter Yaan.func78, Yaan.ntmps78
  go_wp2_with (at_builtin; refine app_strW rfl rfl base hZ.out (.slice pv l.length cv) (l) ([40, 78, 79, 84, 32]) rfl hO1.out rfl (by first | exact itoa_nn _ | simp) (by have := hlen; first | (simp only [List.length_append, List.length_cons, List.length_nil] at this ⊢; omega) | omega) ?_; intro v2 w2 O9 F9; replace hF := hide (hF.out.trans F9); replace hB := hide (F9.blk hB.out (by decide)); replace hZ : Hid (base ≤ w2.heap.size) := Nat.le_trans hZ.out F9.size; replace hNW := hide (F9.nodes hNW.out hna.out); (try clear hOB); have hOB := hide O9; clear hO1; have hO1 : Hid (OwnW w2 base v2 _) := Or.inl hOB.out; clear O9 F9; (try clear p0); (try clear p2); (try clear p3); have p0 := hB.out.box 0 _ rfl; have p2 := hB.out.box 2 _ rfl; have p3 := hB.out.box 3 _ rfl)
  refine (ih.out _ y hy.out v2 (l ++ [40, 78, 79, 84, 32]) w2 hNW.out hO1.out hZ.out (by simp only [List.length_append, List.length_cons, List.length_nil] at hlen ⊢; omega)).mono ?_
  rintro e w3 ⟨v3, rfl, O9, F9⟩
  replace hF := hide (hF.out.trans F9)
  replace hB := hide (F9.blk hB.out (by decide))
  (try clear hOB)
  have hOB := hide O9
  clear hO1
  have hO1 : Hid (OwnW w3 base v3 _) := Or.inl hOB.out
  replace hNW := hide (F9.nodes hNW.out hna.out)
  replace hZ : Hid (base ≤ w3.heap.size) := Nat.le_trans hZ.out F9.size
  clear O9 F9 p0 p2 p3
  have p0 := hB.out.box 0 _ rfl
  have p3 := hB.out.box 3 _ rfl
  have p2 := hB.out.box 2 _ rfl
  go_wp2_with (at_builtin; refine app_byteW rfl rfl base (by have := hZ.out; simp; omega) v3 (l ++ [40, 78, 79, 84, 32] ++ pn nd f y) 41 41 rfl rfl (OwnW.alloc hO1.out _) w3.heap.size 1 (by rfl) (heap_alloc_new w3 _) (by have := hlen; first | (simp only [List.length_append, List.length_cons, List.length_nil] at this ⊢; omega) | omega) ?_; intro v4 w4 O9 F9; replace F9 := FrU.trans (FrU.of_ext ((Ext.refl w3).alloc _)) F9; replace hF := hide (hF.out.trans F9); replace hB := hide (F9.blk hB.out (by decide)); replace hZ : Hid (base ≤ w4.heap.size) := Nat.le_trans hZ.out F9.size; replace hNW := hide (F9.nodes hNW.out hna.out); (try clear hOB); have hOB := hide O9; clear hO1; have hO1 : Hid (OwnW w4 base v4 _) := Or.inl hOB.out; clear O9 F9; (try clear p0); (try clear p2); (try clear p3); have p0 := hB.out.box 0 _ rfl; have p2 := hB.out.box 2 _ rfl; have p3 := hB.out.box 3 _ rfl)
  go_ret
  exact ⟨v4, rfl, hOB.out, hF.out⟩
set_option maxHeartbeats 16000000 in
theorem printNode_bin (base : Nat) (na : Option Addr) (nc : Nat) (nd : List Nd) (hna : Hid (∀ p, na = some p → p.block < base)) (f : Nat) (ih : Hid (OkP base na nc nd f)) (a x y z : Nat) (o : Int) (hx : x < nd.length) (e : nd.getD x nd0 = ⟨o, 0, (y : Int), (z : Int)⟩) (h4 : 4 ≤ o) (h14 : o ≤ 14) (hxz : x = z + 1) (hyz : y ≤ z) (hy : Hid (NB nd f a y)) (hz : Hid (NB nd f (y + 1) z))
    (pv : Option Addr) (cv : Nat) (l : List UInt8) (w : World) (hN : Hid (NodesAt w na nd)) (hO : Hid (OwnW w base (.slice pv l.length cv) l)) (hbase : base ≤ w.heap.size) (hlen : l.length + ([40] ++ pn nd f y ++ (32 :: (opT o ++ [32])) ++ pn nd f z ++ [41]).length < 2 ^ 38) :
    Calls Yaan.prog 78 #[.slice na nd.length nc, .int .i64 x, .slice pv l.length cv] w (RetB base (l ++ [40] ++ pn nd f y ++ (32 :: (opT o ++ [32])) ++ pn nd f z ++ [41]) w) := by
  have hx' : (x : Int) < nd.length := by omega
  have hyx : (y : Int) < x := by omega
  have hzx : (z : Int) < x := by omega
  have hy0 : (0 : Int) ≤ y := by omega
  have hz0 : (0 : Int) ≤ z := by omega
  have o1 : (o == 1) = false := by simp; omega
  have o2 : (o == 2) = false := by simp; omega
  have o3 : (o == 3) = false := by simp; omega
  have o15 : (o == 15) = false := by simp; omega
  replace hxz := hide hxz
  replace hyz := hide hyz
  obtain ⟨b, off, rfl, g1, g2, g3, g4⟩ := hN.out.get x hx
  rw [e] at g1 g2 g3 g4
  simp only at g1 g2 g3 g4
  clear e
  have hB : Hid (Blk (w.alloc (.cells #[.int .i64 o, .int .i64 0, .int .i64 (y : Int), .int .i64 (z : Int)] 134)) w.heap.size 134 [.int .i64 o, .int .i64 0, .int .i64 (y : Int), .int .i64 (z : Int)]) := Blk.new w _ _
  have hO1 := hide (hO.out.alloc (.cells #[.int .i64 o, .int .i64 0, .int .i64 (y : Int), .int .i64 (z : Int)] 134))
  have hF : Hid (FrU base w (w.alloc (.cells #[.int .i64 o, .int .i64 0, .int .i64 (y : Int), .int .i64 (z : Int)] 134))) := FrU.of_ext ((Ext.refl w).alloc _)
  have hZ : Hid (base ≤ (w.alloc (.cells #[.int .i64 o, .int .i64 0, .int .i64 (y : Int), .int .i64 (z : Int)] 134)).heap.size) := by have := hF.out.size; show base ≤ _; omega
  have p0 := hB.out.box 0 _ rfl
  have p1 := hB.out.box 1 _ rfl
  have p2 := hB.out.box 2 _ rfl
  have p3 := hB.out.box 3 _ rfl
  have hNW := hide (hN.out.ext ((Ext.refl w).alloc (.cells #[.int .i64 o, .int .i64 0, .int .i64 (y : Int), .int .i64 (z : Int)] 134)))
  clear hO hN
  go_enter Yaan.func78, Yaan.ntmps78
  go_wp2_with fail
  generalize w.alloc (.cells #[.int .i64 o, .int .i64 0, .int .i64 (y : Int), .int .i64 (z : Int)] 134) = W at *
  refine (isBin_yes o h4 h14 W).mono ?_
  rintro e w1 ⟨rfl, rfl⟩
  go_wp2_with (at_builtin; refine app_byteW rfl rfl base (by have := hZ.out; simp; omega) (.slice pv l.length cv) (l) 40 40 rfl rfl (OwnW.alloc hO1.out _) W.heap.size 1 (by rfl) (heap_alloc_new W _) (by have := hlen; first | (simp only [List.length_append, List.length_cons, List.length_nil] at this ⊢; omega) | omega) ?_; intro v2 w2 O9 F9; replace F9 := FrU.trans (FrU.of_ext ((Ext.refl W).alloc _)) F9; replace hF := hide (hF.out.trans F9); replace hB := hide (F9.blk hB.out (by decide)); replace hZ : Hid (base ≤ w2.heap.size) := Nat.le_trans hZ.out F9.size; replace hNW := hide (F9.nodes hNW.out hna.out); (try clear hOB); have hOB := hide O9; clear hO1; have hO1 : Hid (OwnW w2 base v2 _) := Or.inl hOB.out; clear O9 F9; (try clear p0); (try clear p2); (try clear p3); have p0 := hB.out.box 0 _ rfl; have p2 := hB.out.box 2 _ rfl; have p3 := hB.out.box 3 _ rfl)
  refine (ih.out _ y hy.out v2 (l ++ [40]) w2 hNW.out hO1.out hZ.out (by simp only [List.length_append, List.length_cons, List.length_nil] at hlen ⊢; omega)).mono ?_
  rintro e w3 ⟨v3, rfl, O9, F9⟩
  replace hF := hide (hF.out.trans F9)
  replace hB := hide (F9.blk hB.out (by decide))
  (try clear hOB)
  have hOB := hide O9
  clear hO1
  have hO1 : Hid (OwnW w3 base v3 _) := Or.inl hOB.out
  replace hNW := hide (F9.nodes hNW.out hna.out)
  replace hZ : Hid (base ≤ w3.heap.size) := Nat.le_trans hZ.out F9.size
  clear O9 F9 p0 p2 p3
  have p0 := hB.out.box 0 _ rfl
  have p3 := hB.out.box 3 _ rfl
  have p2 := hB.out.box 2 _ rfl
  go_wp2_with fail
  refine (opText o h4 h14 w3).mono ?_
  rintro e w4 ⟨rfl, x1⟩
  replace hF := hide (hF.out.trans (FrU.of_ext x1))
  replace hB := hide (hB.out.ext x1)
  replace hO1 := hide (hO1.out.ext x1)
  replace hNW := hide (hNW.out.ext x1)
  replace hZ : Hid (base ≤ w4.heap.size) := Nat.le_trans hZ.out x1.size
  clear x1 p0 p2 p3
  have hol := opT_len o h4 h14
  have hcat1 : (({ data := #[32] } : ByteArray) ++ tx (opT o)) = tx (32 :: (opT o)) := tx_append [32] (opT o)
  have hcat2 : (tx (32 :: (opT o)) ++ ({ data := #[32] } : ByteArray)) = tx (32 :: ((opT o) ++ [32])) := tx_append (32 :: (opT o)) [32]
  have hz1 : ¬ 9223372036854775807 < 1 + (tx (opT o)).size := by rw [tx_size]; omega
  have hz2 : ¬ 9223372036854775807 < (tx (32 :: (opT o))).size + 1 := by rw [tx_size]; simp only [List.length_cons]; omega
  go_wp2_with (at_builtin; refine app_strW rfl rfl base hZ.out v3 (l ++ [40] ++ pn nd f y) (32 :: ((opT o) ++ [32])) rfl hO1.out rfl (by first | exact itoa_nn _ | simp) (by have := hlen; first | (simp only [List.length_append, List.length_cons, List.length_nil] at this ⊢; omega) | omega) ?_; intro v5 w5 O9 F9; replace hF := hide (hF.out.trans F9); replace hB := hide (F9.blk hB.out (by decide)); replace hZ : Hid (base ≤ w5.heap.size) := Nat.le_trans hZ.out F9.size; replace hNW := hide (F9.nodes hNW.out hna.out); (try clear hOB); have hOB := hide O9; clear hO1; have hO1 : Hid (OwnW w5 base v5 _) := Or.inl hOB.out; clear O9 F9; (try clear p0); (try clear p2); (try clear p3); have p0 := hB.out.box 0 _ rfl; have p2 := hB.out.box 2 _ rfl; have p3 := hB.out.box 3 _ rfl)
  clear hcat1 hcat2 hz1 hz2
  refine (ih.out _ z hz.out v5 (l ++ [40] ++ pn nd f y ++ (32 :: ((opT o) ++ [32]))) w5 hNW.out hO1.out hZ.out (by simp only [List.length_append, List.length_cons, List.length_nil] at hlen ⊢; omega)).mono ?_
  rintro e w6 ⟨v6, rfl, O9, F9⟩
  replace hF := hide (hF.out.trans F9)
  replace hB := hide (F9.blk hB.out (by decide))
  (try clear hOB)
  have hOB := hide O9
  clear hO1
  have hO1 : Hid (OwnW w6 base v6 _) := Or.inl hOB.out
  replace hNW := hide (F9.nodes hNW.out hna.out)
  replace hZ : Hid (base ≤ w6.heap.size) := Nat.le_trans hZ.out F9.size
  clear O9 F9 p0 p2 p3
  have p0 := hB.out.box 0 _ rfl
  have p3 := hB.out.box 3 _ rfl
  have p2 := hB.out.box 2 _ rfl
  go_wp2_with (at_builtin; refine app_byteW rfl rfl base (by have := hZ.out; simp; omega) v6 (l ++ [40] ++ pn nd f y ++ (32 :: ((opT o) ++ [32])) ++ pn nd f z) 41 41 rfl rfl (OwnW.alloc hO1.out _) w6.heap.size 1 (by rfl) (heap_alloc_new w6 _) (by have := hlen; first | (simp only [List.length_append, List.length_cons, List.length_nil] at this ⊢; omega) | omega) ?_; intro v7 w7 O9 F9; replace F9 := FrU.trans (FrU.of_ext ((Ext.refl w6).alloc _)) F9; replace hF := hide (hF.out.trans F9); replace hB := hide (F9.blk hB.out (by decide)); replace hZ : Hid (base ≤ w7.heap.size) := Nat.le_trans hZ.out F9.size; replace hNW := hide (F9.nodes hNW.out hna.out); (try clear hOB); have hOB := hide O9; clear hO1; have hO1 : Hid (OwnW w7 base v7 _) := Or.inl hOB.out; clear O9 F9; (try clear p0); (try clear p2); (try clear p3); have p0 := hB.out.box 0 _ rfl; have p2 := hB.out.box 2 _ rfl; have p3 := hB.out.box 3 _ rfl)
  go_ret
  exact ⟨v7, rfl, hOB.out, hF.out⟩
theorem printNodeAll (base : Nat) (na : Option Addr) (nc : Nat) (nd : List Nd) (hna : Hid (∀ p, na = some p → p.block < base)) : ∀ f, OkP base na nc nd f := by
  intro f
  induction f with
  | zero => intro a x h; exact h.elim
  | succ f ih =>
    intro a x hb v l w hN hO hbase hlen
    obtain ⟨pv, cv, rfl⟩ := hO.form
    obtain ⟨h0, h | h | h | h⟩ := hb
    · obtain ⟨z, e, z0, z1, _⟩ := h
      rw [pn_lit e] at hlen ⊢
      exact printNode_lit base na nc nd x h0 z e z0 z1 pv cv l w hna hN hO hbase hlen
    · obtain ⟨z, e, z0, z1, _⟩ := h
      rw [pn_col e] at hlen ⊢
      exact printNode_col base na nc nd x h0 z e z0 z1 pv cv l w hna hN hO hbase hlen
    · obtain ⟨o, y, e, ho, hxy, hy⟩ := h
      rcases ho with rfl | rfl
      · rw [pn_neg e] at hlen ⊢
        have := printNode_neg base na nc nd hna f ih a x y h0 e hxy hy pv cv l w hN hO hbase (by simp only [List.length_append, List.length_cons, List.length_nil] at hlen ⊢; omega)
        simpa only [List.append_assoc, List.cons_append, List.nil_append] using this
      · rw [pn_not e] at hlen ⊢
        have := printNode_not base na nc nd hna f ih a x y h0 e hxy hy pv cv l w hN hO hbase (by simp only [List.length_append, List.length_cons, List.length_nil] at hlen ⊢; omega)
        simpa only [List.append_assoc, List.cons_append, List.nil_append] using this
    · obtain ⟨o, y, z, e, h4, h14, hxz, hy, hz⟩ := h
      have hyz := (NB.bound _ _ _ hz).1
      rw [pn_bin e h4 h14] at hlen ⊢
      have := printNode_bin base na nc nd hna f ih a x y z o h0 e h4 h14 hxz (by omega) hy hz pv cv l w hN hO hbase (by simp only [List.length_append, List.length_cons, List.length_nil] at hlen ⊢; omega)
      simpa only [List.append_assoc, List.cons_append, List.nil_append] using this
end Go.Proofs.Ybyaaw
