/- Walks: spec.evalTree, spec.emitNode -/
import Derived.Test.YbyabwGreatCmp4
namespace Go.Proofs.YbyabwGreat
open Go.RowKit
set_option maxRecDepth 100000
set_option linter.unusedVariables false
set_option linter.unusedSimpArgs false

def RetNum (v : Int) (w : World) : Ending → World → Prop := fun en w' => en = .returned (.int .i64 v) ∧ Ext w w'
def OkT (na : Option Addr) (nc : Nat) (nd : List Nd) (zr : List Int) (f : Nat) : Prop := ∀ x, x < f → x < nd.length → ∀ (xi : Int) w, xi = (x : Int) → NodesAt w na nd → Calls Yabn.prog 88 #[.slice na nd.length nc, .int .i64 xi] w (RetNum (evX nd zr x) w)
theorem zr_at (n i : Nat) : (List.replicate n (0 : Int)).getD i 0 = 0 := by
  rw [List.getD_eq_getElem?_getD, List.getElem?_replicate]
  split <;> rfl
set_option maxHeartbeats 8000000 in
theorem evalTree1 (na : Option Addr) (nc : Nat) (nd : List Nd) (n : Nat) (hw : Hid (WfA nd n)) (f : Nat) (ih : Hid (OkT na nc nd (List.replicate n 0) f)) (x : Nat) (hxf : x ≤ f) (hx : x < nd.length) (w : World) (hN : Hid (NodesAt w na nd)) :
    Calls Yabn.prog 88 #[.slice na nd.length nc, .int .i64 x] w (RetNum (evX nd (List.replicate n 0) x) w) := by
  obtain ⟨⟨o, y, l, r⟩, hnd⟩ : ∃ m, Hid (nd.getD x nd0 = m) := ⟨_, rfl⟩
  rcases hw.out.kind hx with ho | ⟨ho, _⟩ | ⟨m, ho, hl, hmx⟩ | ⟨m, m2, ho, hl, hr, hmx, hmx2⟩
  · have hev : Hid (evX nd (List.replicate n 0) x = y) := by show _ = _; rw [evX_lit ho, hnd.out]
    rw [hnd.out] at ho
    simp only at ho
    have ob : (o == 1) = true := by simp [ho]
    replace ho := hide ho
    rw [hev.out]
    have hxl : (x : Int) < nd.length := by omega
    obtain ⟨b, off, rfl, g1, g2, g3, g4⟩ := hN.out.get x hx
    rw [hnd.out] at g1 g2 g3 g4
    simp only at g1 g2 g3 g4
    have hT : Hid (Blk (w.alloc (.cells #[.int .i64 o, .int .i64 y, .int .i64 l, .int .i64 r] 98)) w.heap.size 98 [.int .i64 o, .int .i64 y, .int .i64 l, .int .i64 r]) := Blk.new w _ _
    have hX : Hid (Ext w (w.alloc (.cells #[.int .i64 o, .int .i64 y, .int .i64 l, .int .i64 r] 98))) := (Ext.refl w).alloc _
    have hNW := hide (hN.out.ext hX.out)
    have t0 := hT.out.box 0 _ rfl
    have t1 := hT.out.box 1 _ rfl
    have t2 := hT.out.box 2 _ rfl
    have t3 := hT.out.box 3 _ rfl
    go_enter Yabn.func88, Yabn.ntmps88
    go_wp2_with fail
    go_ret
    exact ⟨rfl, hX.out⟩
  · have hev : Hid (evX nd (List.replicate n 0) x = 0) := by show _ = _; rw [evX_col ho, zr_at]
    rw [hnd.out] at ho
    simp only at ho
    have ob1 : (o == 1) = false := by simp [ho]
    have ob : (o == 2) = true := by simp [ho]
    replace ho := hide ho
    rw [hev.out]
    have hxl : (x : Int) < nd.length := by omega
    obtain ⟨b, off, rfl, g1, g2, g3, g4⟩ := hN.out.get x hx
    rw [hnd.out] at g1 g2 g3 g4
    simp only at g1 g2 g3 g4
    have hT : Hid (Blk (w.alloc (.cells #[.int .i64 o, .int .i64 y, .int .i64 l, .int .i64 r] 98)) w.heap.size 98 [.int .i64 o, .int .i64 y, .int .i64 l, .int .i64 r]) := Blk.new w _ _
    have hX : Hid (Ext w (w.alloc (.cells #[.int .i64 o, .int .i64 y, .int .i64 l, .int .i64 r] 98))) := (Ext.refl w).alloc _
    have hNW := hide (hN.out.ext hX.out)
    have t0 := hT.out.box 0 _ rfl
    have t1 := hT.out.box 1 _ rfl
    have t2 := hT.out.box 2 _ rfl
    have t3 := hT.out.box 3 _ rfl
    go_enter Yabn.func88, Yabn.ntmps88
    go_wp2_with fail
    go_ret
    exact ⟨rfl, hX.out⟩
  · rcases ho with ho | ho
    · have hev := hide (evX_neg (row := List.replicate n 0) ho hl hmx)
      rw [hnd.out] at ho hl
      simp only at ho hl
      have ob1 : (o == 1) = false := by simp [ho]
      have ob2 : (o == 2) = false := by simp [ho]
      have ob3 : (o == 3) = true := by simp [ho]
      replace ho := hide ho
      replace hl := hide hl
      rw [hev.out]
      have hxl : (x : Int) < nd.length := by omega
      obtain ⟨b, off, rfl, g1, g2, g3, g4⟩ := hN.out.get x hx
      rw [hnd.out] at g1 g2 g3 g4
      simp only at g1 g2 g3 g4
      have hT : Hid (Blk (w.alloc (.cells #[.int .i64 o, .int .i64 y, .int .i64 l, .int .i64 r] 98)) w.heap.size 98 [.int .i64 o, .int .i64 y, .int .i64 l, .int .i64 r]) := Blk.new w _ _
      have hX : Hid (Ext w (w.alloc (.cells #[.int .i64 o, .int .i64 y, .int .i64 l, .int .i64 r] 98))) := (Ext.refl w).alloc _
      have hNW := hide (hN.out.ext hX.out)
      have t0 := hT.out.box 0 _ rfl
      have t1 := hT.out.box 1 _ rfl
      have t2 := hT.out.box 2 _ rfl
      have t3 := hT.out.box 3 _ rfl
      go_enter Yabn.func88, Yabn.ntmps88
      go_wp2_with fail
      refine (ih.out m (by omega) (by omega) l (w.alloc (.cells #[.int .i64 o, .int .i64 y, .int .i64 l, .int .i64 r] 98)) hl.out hNW.out).mono ?_
      rintro e w2 ⟨rfl, x9⟩
      replace hT := hide (hT.out.ext x9)
      replace hX : Hid (Ext w w2) := hX.out.trans x9
      replace hNW := hide (hNW.out.ext x9)
      clear x9 t0 t1 t2 t3
      have t0 := hT.out.box 0 _ rfl
      have t3 := hT.out.box 3 _ rfl
      have t1 := hT.out.box 1 _ rfl
      have t2 := hT.out.box 2 _ rfl
      go_wp2_with fail
      go_ret
      exact ⟨rfl, hX.out⟩
    · have hev := hide (evX_not (row := List.replicate n 0) ho hl hmx)
      rw [hnd.out] at ho hl
      simp only at ho hl
      have ob1 : (o == 1) = false := by simp [ho]
      have ob2 : (o == 2) = false := by simp [ho]
      have ob3 : (o == 3) = false := by simp [ho]
      have ob15 : (o == 15) = true := by simp [ho]
      replace ho := hide ho
      replace hl := hide hl
      rw [hev.out]
      have hxl : (x : Int) < nd.length := by omega
      obtain ⟨b, off, rfl, g1, g2, g3, g4⟩ := hN.out.get x hx
      rw [hnd.out] at g1 g2 g3 g4
      simp only at g1 g2 g3 g4
      have hT : Hid (Blk (w.alloc (.cells #[.int .i64 o, .int .i64 y, .int .i64 l, .int .i64 r] 98)) w.heap.size 98 [.int .i64 o, .int .i64 y, .int .i64 l, .int .i64 r]) := Blk.new w _ _
      have hX : Hid (Ext w (w.alloc (.cells #[.int .i64 o, .int .i64 y, .int .i64 l, .int .i64 r] 98))) := (Ext.refl w).alloc _
      have hNW := hide (hN.out.ext hX.out)
      have t0 := hT.out.box 0 _ rfl
      have t1 := hT.out.box 1 _ rfl
      have t2 := hT.out.box 2 _ rfl
      have t3 := hT.out.box 3 _ rfl
      go_enter Yabn.func88, Yabn.ntmps88
      go_wp2_with fail
      refine (ih.out m (by omega) (by omega) l (w.alloc (.cells #[.int .i64 o, .int .i64 y, .int .i64 l, .int .i64 r] 98)) hl.out hNW.out).mono ?_
      rintro e w2 ⟨rfl, x9⟩
      replace hT := hide (hT.out.ext x9)
      replace hX : Hid (Ext w w2) := hX.out.trans x9
      replace hNW := hide (hNW.out.ext x9)
      clear x9 t0 t1 t2 t3
      have t0 := hT.out.box 0 _ rfl
      have t3 := hT.out.box 3 _ rfl
      have t1 := hT.out.box 1 _ rfl
      have t2 := hT.out.box 2 _ rfl
      go_wp2_with fail
      refine (b2i_spec _ w2).mono ?_
      rintro e w3 ⟨rfl, rfl⟩
      go_wp2_with fail
      go_ret
      exact ⟨rfl, hX.out⟩
  · have hev := hide (evX_bi (row := List.replicate n 0) ho hl hr hmx hmx2)
    rw [hnd.out] at ho hl hr
    simp only at ho hl hr
    have ob1 : (o == 1) = false := by simp; omega
    have ob2 : (o == 2) = false := by simp; omega
    have ob3 : (o == 3) = false := by simp; omega
    have ob15 : (o == 15) = false := by simp; omega
    replace ho := hide ho
    replace hl := hide hl
    replace hr := hide hr
    rw [hev.out, hnd.out]
    have hxl : (x : Int) < nd.length := by omega
    obtain ⟨b, off, rfl, g1, g2, g3, g4⟩ := hN.out.get x hx
    rw [hnd.out] at g1 g2 g3 g4
    simp only at g1 g2 g3 g4
    have hT : Hid (Blk (w.alloc (.cells #[.int .i64 o, .int .i64 y, .int .i64 l, .int .i64 r] 98)) w.heap.size 98 [.int .i64 o, .int .i64 y, .int .i64 l, .int .i64 r]) := Blk.new w _ _
    have hX : Hid (Ext w (w.alloc (.cells #[.int .i64 o, .int .i64 y, .int .i64 l, .int .i64 r] 98))) := (Ext.refl w).alloc _
    have hNW := hide (hN.out.ext hX.out)
    have t0 := hT.out.box 0 _ rfl
    have t1 := hT.out.box 1 _ rfl
    have t2 := hT.out.box 2 _ rfl
    have t3 := hT.out.box 3 _ rfl
    go_enter Yabn.func88, Yabn.ntmps88
    go_wp2_with fail
    refine (ih.out m (by omega) (by omega) l (w.alloc (.cells #[.int .i64 o, .int .i64 y, .int .i64 l, .int .i64 r] 98)) hl.out hNW.out).mono ?_
    rintro e w2 ⟨rfl, x9⟩
    replace hT := hide (hT.out.ext x9)
    replace hX : Hid (Ext w w2) := hX.out.trans x9
    replace hNW := hide (hNW.out.ext x9)
    clear x9 t0 t1 t2 t3
    have t0 := hT.out.box 0 _ rfl
    have t3 := hT.out.box 3 _ rfl
    have t1 := hT.out.box 1 _ rfl
    have t2 := hT.out.box 2 _ rfl
    go_wp2_with fail
    refine (ih.out m2 (by omega) (by omega) r w2 hr.out hNW.out).mono ?_
    rintro e w3 ⟨rfl, x9⟩
    replace hT := hide (hT.out.ext x9)
    replace hX : Hid (Ext w w3) := hX.out.trans x9
    replace hNW := hide (hNW.out.ext x9)
    clear x9 t0 t1 t2 t3
    have t0 := hT.out.box 0 _ rfl
    have t3 := hT.out.box 3 _ rfl
    have t1 := hT.out.box 1 _ rfl
    have t2 := hT.out.box 2 _ rfl
    go_wp2_with fail
    refine (apply o _ _ w3).mono ?_
    rintro e w4 ⟨rfl, rfl⟩
    go_wp2_with fail
    go_ret
    exact ⟨rfl, hX.out⟩
theorem evalTreeAll (na : Option Addr) (nc : Nat) (nd : List Nd) (n : Nat) (hw : Hid (WfA nd n)) : ∀ f, OkT na nc nd (List.replicate n 0) f := by
  intro f
  induction f with
  | zero => intro x h; omega
  | succ f ih =>
    intro x hf hx xi w hxi hN
    subst hxi
    exact evalTree1 na nc nd n hw f ih x (by omega) hx w hN
theorem evalTree (na : Option Addr) (nc : Nat) (nd : List Nd) (n : Nat) (hw : Hid (WfA nd n)) (x : Nat) (hx : x < nd.length) (w : World) (hN : NodesAt w na nd) :
    Calls Yabn.prog 88 #[.slice na nd.length nc, .int .i64 x] w (RetNum (evX nd (List.replicate n 0) x) w) := evalTreeAll na nc nd n hw (x + 1) x (by omega) hx x w rfl hN
end Go.Proofs.YbyabwGreat
