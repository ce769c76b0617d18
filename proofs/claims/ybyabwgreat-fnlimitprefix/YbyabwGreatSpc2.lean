/- Walk: spec.emitNode -/
import Derived.Test.YbyabwGreatSpc1
namespace Go.Proofs.YbyabwGreat
open Go.RowKit
set_option maxRecDepth 100000
set_option linter.unusedVariables false
set_option linter.unusedSimpArgs false

/-- A call that appends to the row v and hands back v': only v's block has changed, v' lies there or is new. -/
structure FrV (v v' : Value) (w w' : World) : Prop where
  but : But (fun q => v.ownBlock = some q) w w'
  own : ∀ q, v'.ownBlock = some q → v.ownBlock = some q ∨ w.heap.size ≤ q
section
variable {v v1 v2 : Value} {w w1 w2 : World}
theorem FrV.refl (v : Value) (w : World) : FrV v v w w := ⟨But.refl _ _, fun q h => .inl h⟩
theorem FrV.of_ext (h : Ext w w1) : FrV v v w w1 := ⟨But.of_ext h, fun q h => .inl h⟩
theorem FrV.trans (h : FrV v v1 w w1) (k : FrV v1 v2 w1 w2) : FrV v v2 w w2 where
  but := ⟨k.but.os.trans h.but.os, k.but.tape.trans h.but.tape, k.but.output.trans h.but.output, Nat.le_trans h.but.size k.but.size, fun q hq hn => by
    have hs := h.but.size
    refine (k.but.block q (by omega) (fun hv => ?_)).trans (h.but.block q hq hn)
    rcases h.own q hv with hv | hv
    · exact hn hv
    · omega⟩
  own := fun q hq => by
    have hs := h.but.size
    rcases k.own q hq with hv | hv
    · exact h.own q hv
    · exact .inr (by omega)
theorem FrV.app {g k cap : Nat} (hX : Ext w w1) (hg : w1.grownBy w2 v.ownBlock) (hor : v.ownBlock = some g ∨ g = w1.heap.size) : FrV v (.slice (some ⟨g, 0, none⟩) k cap) w w2 :=
  (FrV.of_ext hX).trans ⟨But.of_grown hg (fun q hq => hq), fun q hq => by
    cases hq
    rcases hor with h | h
    · exact .inl h
    · exact .inr (Nat.le_of_eq h.symm)⟩
theorem FrV.frT {base : Nat} {ns : List Nd} (h : FrV v v1 w w1) (hO : OwnN w base 98 v ns) : FrT 98 base w w1 := h.but.mono (fun q hq => ⟨hO.block q hq, by
  rcases hO.2.2 with ⟨rfl, _⟩ | ⟨g, cap, cur, rfl, _, hh, _⟩
  · cases hq
  · cases hq; exact ⟨cur, _, hh⟩⟩)
end
def RetE2 (base : Nat) (v : Value) (p : List Nd × Int) (w : World) : Ending → World → Prop := fun en w' => ∃ v', en = .returned (.tuple #[v', .int .i64 p.2]) ∧ OwnN w' base 98 v' p.1 ∧ FrV v v' w w'
def OkE (base b0 : Nat) (na : Option Addr) (nc hb hcap : Nat) (nd : List Nd) (n f : Nat) : Prop := ∀ x, x < f → x < nd.length → ∀ (xi : Int) (v : Value) (code : List Nd) (w : World), xi = (x : Int) → NodesAt w na nd →
  OwnZ w b0 (.slice (some ⟨hb, 0, none⟩) nd.length hcap) (toL hcN nd nd.length) → OwnN w base 98 v code → base ≤ w.heap.size → code.length + tsAt nd x ≤ 65536 → WfA code n →
  Calls Yabn.prog 60 #[.slice na nd.length nc, .slice (some ⟨hb, 0, none⟩) nd.length hcap, .int .i64 xi, v] w (RetE2 base v (em nd (List.replicate n 0) x code) w)
set_option maxHeartbeats 8000000 in
theorem emitNode1 (base b0 : Nat) (na : Option Addr) (nc hb hcap : Nat) (nd : List Nd) (n : Nat) (hw : Hid (WfA nd n)) (hna : Hid (∀ p, na = some p → p.block < base)) (f : Nat) (ih : Hid (OkE base b0 na nc hb hcap nd n f)) (x : Nat) (hxf : x ≤ f) (hx : x < nd.length) (v : Value) (code : List Nd) (w : World)
    (hN : Hid (NodesAt w na nd)) (hZ : Hid (OwnZ w b0 (.slice (some ⟨hb, 0, none⟩) nd.length hcap) (toL hcN nd nd.length))) (hO : Hid (OwnN w base 98 v code)) (hbase : Hid (base ≤ w.heap.size)) (hlen : Hid (code.length + tsAt nd x ≤ 65536)) (hcw : Hid (WfA code n)) :
    Calls Yabn.prog 60 #[.slice na nd.length nc, .slice (some ⟨hb, 0, none⟩) nd.length hcap, .int .i64 x, v] w (RetE2 base v (em nd (List.replicate n 0) x code) w) := by
  obtain ⟨⟨o, y, l, r⟩, hnd⟩ : ∃ m, Hid (nd.getD x nd0 = m) := ⟨_, rfl⟩
  obtain ⟨bz, hbz⟩ : ∃ b, Hid (hcAt nd x = b) := ⟨_, rfl⟩
  have hcd : code.length ≤ 65536 := by have := hlen.out; omega
  have hcl2 : Hid (code.length < 2 ^ 39) := by show _ < _; omega
  cases bz with
  | false =>
    have hem := hide (em_free (zr := List.replicate n 0) (code := code) hbz.out)
    have hxl : (x : Int) < nd.length := by omega
    obtain ⟨b, off, hnae, g1, g2, g3, g4⟩ := hN.out.get x hx
    subst hnae
    rw [hnd.out] at g1 g2 g3 g4
    simp only at g1 g2 g3 g4
    have hcl := cell_lt g1
    have ch := hc_row hZ.out x hx
    rw [hbz.out] at ch
    have hhl := hZ.out.lt.2
    simp only at hcl
    have hT : Hid (Blk (w.alloc (.cells #[.int .i64 o, .int .i64 y, .int .i64 l, .int .i64 r] 98)) w.heap.size 98 [.int .i64 o, .int .i64 y, .int .i64 l, .int .i64 r]) := Blk.new w _ _
    have hX : Hid (Ext w (w.alloc (.cells #[.int .i64 o, .int .i64 y, .int .i64 l, .int .i64 r] 98))) := (Ext.refl w).alloc _
    have hF : Hid (FrV v v w (w.alloc (.cells #[.int .i64 o, .int .i64 y, .int .i64 l, .int .i64 r] 98))) := FrV.of_ext hX.out
    have hNW := hide (hN.out.ext hX.out)
    have hZW := hide (hZ.out.ext hX.out)
    have hOW := hide (OwnN.ext hO.out hX.out)
    have hE : Hid (base ≤ (w.alloc (.cells #[.int .i64 o, .int .i64 y, .int .i64 l, .int .i64 r] 98)).heap.size) := Nat.le_trans hbase.out hX.out.size
    have hnb : Hid (v.ownBlock ≠ some w.heap.size) := fun hh => by have := (World.ownsRow.lt hO.out.2 _ hh).2; omega
    have t0 := hT.out.box 0 _ rfl
    have t1 := hT.out.box 1 _ rfl
    have t2 := hT.out.box 2 _ rfl
    have t3 := hT.out.box 3 _ rfl
    go_enter Yabn.func60, Yabn.ntmps60
    go_wp2_with fail
    generalize w.alloc (.cells #[.int .i64 o, .int .i64 y, .int .i64 l, .int .i64 r] 98) = W at *
    refine (evalTree (some ⟨b, off, none⟩) nc nd n hw x hx W hNW.out).mono ?_
    rintro e w2 ⟨rfl, x2⟩
    replace hOW := hide (OwnN.ext hOW.out x2)
    replace hF := hide (hF.out.trans (FrV.of_ext x2))
    replace hE : Hid (base ≤ w2.heap.size) := Nat.le_trans hE.out x2.size
    clear x2 t0 t1 t2 t3 ch hZW hNW hT hX
    obtain ⟨ev, hev⟩ : ∃ z, evX nd (List.replicate n 0) x = z := ⟨_, rfl⟩
    rw [hev] at hem
    simp only [hev]
    have hX3 : Hid (Ext w2 (w2.alloc (.cells #[.int .i64 1, .int .i64 ev, .int .i64 (-1), .int .i64 (-1)] 98))) := (Ext.refl _).alloc _
    have hO3 := hide (OwnN.ext hOW.out hX3.out)
    have hE3 : Hid (base ≤ (w2.alloc (.cells #[.int .i64 1, .int .i64 ev, .int .i64 (-1), .int .i64 (-1)] 98)).heap.size) := Nat.le_trans hE.out hX3.out.size
    have hblk : Hid ((w2.alloc (.cells #[.int .i64 1, .int .i64 ev, .int .i64 (-1), .int .i64 (-1)] 98)).heap[w2.heap.size]? = some (.cells #[.int .i64 1, .int .i64 ev, .int .i64 (-1), .int .i64 (-1)] 98 (0, 0))) := by
      have := heap_alloc_new w2 (.cells #[.int .i64 1, .int .i64 ev, .int .i64 (-1), .int .i64 (-1)] 98)
      rw [show w2.heap.size = w2.heap.size by rfl] at this
      exact this
    go_wp2_with (at_builtin; refine app_node rfl rfl base hE3.out v code ⟨1, ev, (-1), (-1)⟩ rfl hO3.out (w2.heap.size) 1 (by rfl) hblk.out hcl2.out ?_; intro g5 cap5 w9 O9 hg9 hor9 _; have hF9 := hide (hF.out.trans (FrV.app (k := code.length + 1) (cap := cap5) hX3.out hg9 hor9)); replace O9 := hide O9; clear hg9 hor9)
    go_ret2
    rw [hem.out]
    exact ⟨_, by go_num, O9.out, hF9.out⟩
  | true =>
    rcases hw.out.kind hx with ho | ⟨ho, _⟩ | ⟨m, ho, hl, hmx⟩ | ⟨m, m2, ho, hl, hr, hmx, hmx2⟩
    · rw [hcAt_lit ho] at hbz; cases hbz.out
    · have hem := hide (em_col (zr := List.replicate n 0) (code := code) hbz.out ho)
      rw [hnd.out] at ho hem
      simp only at ho hem
      have ob : (o == 2) = true := by simp [ho]
      replace ho := hide ho
      have hxl : (x : Int) < nd.length := by omega
      obtain ⟨b, off, hnae, g1, g2, g3, g4⟩ := hN.out.get x hx
      subst hnae
      rw [hnd.out] at g1 g2 g3 g4
      simp only at g1 g2 g3 g4
      have hcl := cell_lt g1
      have ch := hc_row hZ.out x hx
      rw [hbz.out] at ch
      have hhl := hZ.out.lt.2
      simp only at hcl
      have hT : Hid (Blk (w.alloc (.cells #[.int .i64 o, .int .i64 y, .int .i64 l, .int .i64 r] 98)) w.heap.size 98 [.int .i64 o, .int .i64 y, .int .i64 l, .int .i64 r]) := Blk.new w _ _
      have hX : Hid (Ext w (w.alloc (.cells #[.int .i64 o, .int .i64 y, .int .i64 l, .int .i64 r] 98))) := (Ext.refl w).alloc _
      have hF : Hid (FrV v v w (w.alloc (.cells #[.int .i64 o, .int .i64 y, .int .i64 l, .int .i64 r] 98))) := FrV.of_ext hX.out
      have hNW := hide (hN.out.ext hX.out)
      have hZW := hide (hZ.out.ext hX.out)
      have hOW := hide (OwnN.ext hO.out hX.out)
      have hE : Hid (base ≤ (w.alloc (.cells #[.int .i64 o, .int .i64 y, .int .i64 l, .int .i64 r] 98)).heap.size) := Nat.le_trans hbase.out hX.out.size
      have hnb : Hid (v.ownBlock ≠ some w.heap.size) := fun hh => by have := (World.ownsRow.lt hO.out.2 _ hh).2; omega
      have t0 := hT.out.box 0 _ rfl
      have t1 := hT.out.box 1 _ rfl
      have t2 := hT.out.box 2 _ rfl
      have t3 := hT.out.box 3 _ rfl
      go_enter Yabn.func60, Yabn.ntmps60
      have hX3 : Hid (Ext (w.alloc (.cells #[.int .i64 o, .int .i64 y, .int .i64 l, .int .i64 r] 98)) ((w.alloc (.cells #[.int .i64 o, .int .i64 y, .int .i64 l, .int .i64 r] 98)).alloc (.cells #[.int .i64 2, .int .i64 y, .int .i64 (-1), .int .i64 (-1)] 98))) := (Ext.refl _).alloc _
      have hO3 := hide (OwnN.ext hOW.out hX3.out)
      have hE3 : Hid (base ≤ ((w.alloc (.cells #[.int .i64 o, .int .i64 y, .int .i64 l, .int .i64 r] 98)).alloc (.cells #[.int .i64 2, .int .i64 y, .int .i64 (-1), .int .i64 (-1)] 98)).heap.size) := Nat.le_trans hE.out hX3.out.size
      have hblk : Hid (((w.alloc (.cells #[.int .i64 o, .int .i64 y, .int .i64 l, .int .i64 r] 98)).alloc (.cells #[.int .i64 2, .int .i64 y, .int .i64 (-1), .int .i64 (-1)] 98)).heap[w.heap.size + 1]? = some (.cells #[.int .i64 2, .int .i64 y, .int .i64 (-1), .int .i64 (-1)] 98 (0, 0))) := by
        have := heap_alloc_new (w.alloc (.cells #[.int .i64 o, .int .i64 y, .int .i64 l, .int .i64 r] 98)) (.cells #[.int .i64 2, .int .i64 y, .int .i64 (-1), .int .i64 (-1)] 98)
        rw [show (w.alloc (.cells #[.int .i64 o, .int .i64 y, .int .i64 l, .int .i64 r] 98)).heap.size = w.heap.size + 1 by simp] at this
        exact this
      go_wp2_with (at_builtin; refine app_node rfl rfl base hE3.out v code ⟨2, y, (-1), (-1)⟩ rfl hO3.out (w.heap.size + 1) 1 (by rfl) hblk.out hcl2.out ?_; intro g5 cap5 w9 O9 hg9 hor9 _; have hF9 := hide (hF.out.trans (FrV.app (k := code.length + 1) (cap := cap5) hX3.out hg9 hor9)); replace O9 := hide O9; clear hg9 hor9)
      go_ret2
      rw [hem.out]
      exact ⟨_, by go_num, O9.out, hF9.out⟩
    · have hem := hide (em_un (zr := List.replicate n 0) (code := code) hw.out hx hbz.out ho hl hmx)
      have hts := tsAt_un ho hl hmx
      rw [hnd.out] at ho hem hl
      simp only at ho hem hl
      have ob2 : (o == 2) = false := by simp; omega
      replace hl := hide hl
      have hlv : Hid (code.length + tsAt nd m ≤ 65536) := by have := hlen.out; rw [hts] at this; show _ ≤ _; omega
      clear hts
      have hxl : (x : Int) < nd.length := by omega
      obtain ⟨b, off, hnae, g1, g2, g3, g4⟩ := hN.out.get x hx
      subst hnae
      rw [hnd.out] at g1 g2 g3 g4
      simp only at g1 g2 g3 g4
      have hcl := cell_lt g1
      have ch := hc_row hZ.out x hx
      rw [hbz.out] at ch
      have hhl := hZ.out.lt.2
      simp only at hcl
      have hT : Hid (Blk (w.alloc (.cells #[.int .i64 o, .int .i64 y, .int .i64 l, .int .i64 r] 98)) w.heap.size 98 [.int .i64 o, .int .i64 y, .int .i64 l, .int .i64 r]) := Blk.new w _ _
      have hX : Hid (Ext w (w.alloc (.cells #[.int .i64 o, .int .i64 y, .int .i64 l, .int .i64 r] 98))) := (Ext.refl w).alloc _
      have hF : Hid (FrV v v w (w.alloc (.cells #[.int .i64 o, .int .i64 y, .int .i64 l, .int .i64 r] 98))) := FrV.of_ext hX.out
      have hNW := hide (hN.out.ext hX.out)
      have hZW := hide (hZ.out.ext hX.out)
      have hOW := hide (OwnN.ext hO.out hX.out)
      have hE : Hid (base ≤ (w.alloc (.cells #[.int .i64 o, .int .i64 y, .int .i64 l, .int .i64 r] 98)).heap.size) := Nat.le_trans hbase.out hX.out.size
      have hnb : Hid (v.ownBlock ≠ some w.heap.size) := fun hh => by have := (World.ownsRow.lt hO.out.2 _ hh).2; omega
      have t0 := hT.out.box 0 _ rfl
      have t1 := hT.out.box 1 _ rfl
      have t2 := hT.out.box 2 _ rfl
      have t3 := hT.out.box 3 _ rfl
      go_enter Yabn.func60, Yabn.ntmps60
      go_wp2_with fail
      generalize w.alloc (.cells #[.int .i64 o, .int .i64 y, .int .i64 l, .int .i64 r] 98) = W at *
      obtain ⟨c1, e1, k1⟩ := em_law (zr := List.replicate n 0) hw.out (m + 1) m (by omega) (by omega) code hcw.out
      rw [e1] at hem
      simp only at hem
      have hi9 := k1.hi
      refine (ih.out m (by omega) (by omega) l v code W hl.out hNW.out hZW.out hOW.out hE.out hlv.out hcw.out).mono ?_
      rintro e w2 ⟨v2, rfl, O9, F9⟩
      rw [e1] at O9
      simp only [e1]
      have hFT := F9.frT hOW.out
      have hnb9 : Hid (v2.ownBlock ≠ some w.heap.size) := fun hh => by
        rcases F9.own _ hh with h | h
        · exact hnb.out h
        · have := hT.out.lt; omega
      replace hT := hide (F9.but.blk hT.out hnb.out)
      replace hNW := hide (hFT.nodes hNW.out hna.out)
      replace hZW : Hid (OwnZ w2 b0 (.slice (some ⟨hb, 0, none⟩) nd.length hcap) (toL hcN nd nd.length)) := hFT.row hZW.out (by decide)
      replace hE : Hid (base ≤ w2.heap.size) := Nat.le_trans hE.out F9.but.size
      replace hF := hide (hF.out.trans F9)
      replace hcw := hide k1.wf
      clear hOW hnb
      have hOW := hide O9
      have hnb := hnb9
      clear hFT O9 F9 hnb9 t0 t1 t2 t3 e1
      have t0 := hT.out.box 0 _ rfl
      have t1 := hT.out.box 1 _ rfl
      have t2 := hT.out.box 2 _ rfl
      have t3 := hT.out.box 3 _ rfl
      have hc1 : c1.length ≤ 65536 := by have := hlv.out; omega
      have hlo := k1.lo
      clear hcl2
      have hcl2 : Hid (c1.length < 2 ^ 39) := by show _ < _; omega
      obtain ⟨i1, hi1⟩ : ∃ i : Int, (c1.length : Int) - 1 = i := ⟨_, rfl⟩
      rw [hi1] at hem
      simp only [hi1]
      replace hi1 := hide hi1
      clear k1 hi9
      rcases ho with ho | ho
      · have ob3 : (o == 3) = true := by simp [ho]
        replace ho := hide ho
        have hX3 : Hid (Ext w2 (w2.alloc (.cells #[.int .i64 o, .int .i64 0, .int .i64 i1, .int .i64 (-1)] 98))) := (Ext.refl _).alloc _
        have hO3 := hide (OwnN.ext hOW.out hX3.out)
        have hE3 : Hid (base ≤ (w2.alloc (.cells #[.int .i64 o, .int .i64 0, .int .i64 i1, .int .i64 (-1)] 98)).heap.size) := Nat.le_trans hE.out hX3.out.size
        have hblk : Hid ((w2.alloc (.cells #[.int .i64 o, .int .i64 0, .int .i64 i1, .int .i64 (-1)] 98)).heap[w2.heap.size]? = some (.cells #[.int .i64 o, .int .i64 0, .int .i64 i1, .int .i64 (-1)] 98 (0, 0))) := by
          have := heap_alloc_new w2 (.cells #[.int .i64 o, .int .i64 0, .int .i64 i1, .int .i64 (-1)] 98)
          rw [show w2.heap.size = w2.heap.size by rfl] at this
          exact this
        go_wp2_with (at_builtin; refine app_node rfl rfl base hE3.out v2 c1 ⟨o, 0, i1, (-1)⟩ rfl hO3.out (w2.heap.size) 1 (by rfl) hblk.out hcl2.out ?_; intro g5 cap5 w9 O9 hg9 hor9 _; have hF9 := hide (hF.out.trans (FrV.app (k := c1.length + 1) (cap := cap5) hX3.out hg9 hor9)); replace O9 := hide O9; clear hg9 hor9)
        go_ret2
        rw [hem.out]
        exact ⟨_, by go_num, O9.out, hF9.out⟩
      · have ob3 : (o == 3) = false := by simp [ho]
        have ob15 : (o == 15) = true := by simp [ho]
        replace ho := hide ho
        have hX3 : Hid (Ext w2 (w2.alloc (.cells #[.int .i64 o, .int .i64 0, .int .i64 i1, .int .i64 (-1)] 98))) := (Ext.refl _).alloc _
        have hO3 := hide (OwnN.ext hOW.out hX3.out)
        have hE3 : Hid (base ≤ (w2.alloc (.cells #[.int .i64 o, .int .i64 0, .int .i64 i1, .int .i64 (-1)] 98)).heap.size) := Nat.le_trans hE.out hX3.out.size
        have hblk : Hid ((w2.alloc (.cells #[.int .i64 o, .int .i64 0, .int .i64 i1, .int .i64 (-1)] 98)).heap[w2.heap.size]? = some (.cells #[.int .i64 o, .int .i64 0, .int .i64 i1, .int .i64 (-1)] 98 (0, 0))) := by
          have := heap_alloc_new w2 (.cells #[.int .i64 o, .int .i64 0, .int .i64 i1, .int .i64 (-1)] 98)
          rw [show w2.heap.size = w2.heap.size by rfl] at this
          exact this
        go_wp2_with (at_builtin; refine app_node rfl rfl base hE3.out v2 c1 ⟨o, 0, i1, (-1)⟩ rfl hO3.out (w2.heap.size) 1 (by rfl) hblk.out hcl2.out ?_; intro g5 cap5 w9 O9 hg9 hor9 _; have hF9 := hide (hF.out.trans (FrV.app (k := c1.length + 1) (cap := cap5) hX3.out hg9 hor9)); replace O9 := hide O9; clear hg9 hor9)
        go_ret2
        rw [hem.out]
        exact ⟨_, by go_num, O9.out, hF9.out⟩
    · have hem := hide (em_bi (zr := List.replicate n 0) (code := code) hw.out hx hbz.out ho hl hr hmx hmx2)
      have hts := tsAt_bi ho hl hr hmx hmx2
      rw [hnd.out] at ho hem hl hr
      simp only at ho hem hl hr
      have ob2 : (o == 2) = false := by simp; omega
      have ob3 : (o == 3) = false := by simp; omega
      have ob15 : (o == 15) = false := by simp; omega
      replace hl := hide hl
      replace hr := hide hr
      replace ho := hide ho
      have hlv : Hid (code.length + tsAt nd m + (1 + tsAt nd m2) ≤ 65536) := by have := hlen.out; rw [hts] at this; show _ ≤ _; omega
      clear hts
      have hxl : (x : Int) < nd.length := by omega
      obtain ⟨b, off, hnae, g1, g2, g3, g4⟩ := hN.out.get x hx
      subst hnae
      rw [hnd.out] at g1 g2 g3 g4
      simp only at g1 g2 g3 g4
      have hcl := cell_lt g1
      have ch := hc_row hZ.out x hx
      rw [hbz.out] at ch
      have hhl := hZ.out.lt.2
      simp only at hcl
      have hT : Hid (Blk (w.alloc (.cells #[.int .i64 o, .int .i64 y, .int .i64 l, .int .i64 r] 98)) w.heap.size 98 [.int .i64 o, .int .i64 y, .int .i64 l, .int .i64 r]) := Blk.new w _ _
      have hX : Hid (Ext w (w.alloc (.cells #[.int .i64 o, .int .i64 y, .int .i64 l, .int .i64 r] 98))) := (Ext.refl w).alloc _
      have hF : Hid (FrV v v w (w.alloc (.cells #[.int .i64 o, .int .i64 y, .int .i64 l, .int .i64 r] 98))) := FrV.of_ext hX.out
      have hNW := hide (hN.out.ext hX.out)
      have hZW := hide (hZ.out.ext hX.out)
      have hOW := hide (OwnN.ext hO.out hX.out)
      have hE : Hid (base ≤ (w.alloc (.cells #[.int .i64 o, .int .i64 y, .int .i64 l, .int .i64 r] 98)).heap.size) := Nat.le_trans hbase.out hX.out.size
      have hnb : Hid (v.ownBlock ≠ some w.heap.size) := fun hh => by have := (World.ownsRow.lt hO.out.2 _ hh).2; omega
      have t0 := hT.out.box 0 _ rfl
      have t1 := hT.out.box 1 _ rfl
      have t2 := hT.out.box 2 _ rfl
      have t3 := hT.out.box 3 _ rfl
      go_enter Yabn.func60, Yabn.ntmps60
      go_wp2_with fail
      generalize w.alloc (.cells #[.int .i64 o, .int .i64 y, .int .i64 l, .int .i64 r] 98) = W at *
      obtain ⟨c1, e1, k1⟩ := em_law (zr := List.replicate n 0) hw.out (m + 1) m (by omega) (by omega) code hcw.out
      rw [e1] at hem
      simp only at hem
      have hlv1 : Hid (code.length + tsAt nd m ≤ 65536) := by have := hlv.out; show _ ≤ _; omega
      have hi9 := k1.hi
      refine (ih.out m (by omega) (by omega) l v code W hl.out hNW.out hZW.out hOW.out hE.out hlv1.out hcw.out).mono ?_
      rintro e w2 ⟨v2, rfl, O9, F9⟩
      rw [e1] at O9
      simp only [e1]
      have hFT := F9.frT hOW.out
      have hnb9 : Hid (v2.ownBlock ≠ some w.heap.size) := fun hh => by
        rcases F9.own _ hh with h | h
        · exact hnb.out h
        · have := hT.out.lt; omega
      replace hT := hide (F9.but.blk hT.out hnb.out)
      replace hNW := hide (hFT.nodes hNW.out hna.out)
      replace hZW : Hid (OwnZ w2 b0 (.slice (some ⟨hb, 0, none⟩) nd.length hcap) (toL hcN nd nd.length)) := hFT.row hZW.out (by decide)
      replace hE : Hid (base ≤ w2.heap.size) := Nat.le_trans hE.out F9.but.size
      replace hF := hide (hF.out.trans F9)
      replace hcw := hide k1.wf
      clear hOW hnb
      have hOW := hide O9
      have hnb := hnb9
      clear hFT O9 F9 hnb9 t0 t1 t2 t3 e1
      have t0 := hT.out.box 0 _ rfl
      have t1 := hT.out.box 1 _ rfl
      have t2 := hT.out.box 2 _ rfl
      have t3 := hT.out.box 3 _ rfl
      have hc1 : c1.length ≤ 65536 := by have := hlv1.out; omega
      have hlo := k1.lo
      have hlv2 : Hid (c1.length + tsAt nd m2 ≤ 65536) := by have := hlv.out; show _ ≤ _; omega
      obtain ⟨i1, hi1⟩ : ∃ i : Int, (c1.length : Int) - 1 = i := ⟨_, rfl⟩
      rw [hi1] at hem
      simp only [hi1]
      replace hi1 := hide hi1
      clear k1 hi9
      go_wp2_with fail
      obtain ⟨c2, e2, k2⟩ := em_law (zr := List.replicate n 0) hw.out (m2 + 1) m2 (by omega) (by omega) c1 hcw.out
      rw [e2] at hem
      simp only at hem
      have hi9 := k2.hi
      refine (ih.out m2 (by omega) (by omega) r v2 c1 w2 hr.out hNW.out hZW.out hOW.out hE.out hlv2.out hcw.out).mono ?_
      rintro e w3 ⟨v3, rfl, O9, F9⟩
      rw [e2] at O9
      simp only [e2]
      have hFT := F9.frT hOW.out
      have hnb9 : Hid (v3.ownBlock ≠ some w.heap.size) := fun hh => by
        rcases F9.own _ hh with h | h
        · exact hnb.out h
        · have := hT.out.lt; omega
      replace hT := hide (F9.but.blk hT.out hnb.out)
      replace hNW := hide (hFT.nodes hNW.out hna.out)
      replace hZW : Hid (OwnZ w3 b0 (.slice (some ⟨hb, 0, none⟩) nd.length hcap) (toL hcN nd nd.length)) := hFT.row hZW.out (by decide)
      replace hE : Hid (base ≤ w3.heap.size) := Nat.le_trans hE.out F9.but.size
      replace hF := hide (hF.out.trans F9)
      replace hcw := hide k2.wf
      clear hOW hnb
      have hOW := hide O9
      have hnb := hnb9
      clear hFT O9 F9 hnb9 t0 t1 t2 t3 e2
      have t0 := hT.out.box 0 _ rfl
      have t1 := hT.out.box 1 _ rfl
      have t2 := hT.out.box 2 _ rfl
      have t3 := hT.out.box 3 _ rfl
      have hc2 : c2.length ≤ 65536 := by have := hlv2.out; omega
      have hlo2 := k2.lo
      clear hcl2
      have hcl2 : Hid (c2.length < 2 ^ 39) := by show _ < _; omega
      obtain ⟨i2, hi2⟩ : ∃ i : Int, (c2.length : Int) - 1 = i := ⟨_, rfl⟩
      rw [hi2] at hem
      simp only [hi2]
      replace hi2 := hide hi2
      clear k2 hi9
      have hX3 : Hid (Ext w3 (w3.alloc (.cells #[.int .i64 o, .int .i64 0, .int .i64 i1, .int .i64 i2] 98))) := (Ext.refl _).alloc _
      have hO3 := hide (OwnN.ext hOW.out hX3.out)
      have hE3 : Hid (base ≤ (w3.alloc (.cells #[.int .i64 o, .int .i64 0, .int .i64 i1, .int .i64 i2] 98)).heap.size) := Nat.le_trans hE.out hX3.out.size
      have hblk : Hid ((w3.alloc (.cells #[.int .i64 o, .int .i64 0, .int .i64 i1, .int .i64 i2] 98)).heap[w3.heap.size]? = some (.cells #[.int .i64 o, .int .i64 0, .int .i64 i1, .int .i64 i2] 98 (0, 0))) := by
        have := heap_alloc_new w3 (.cells #[.int .i64 o, .int .i64 0, .int .i64 i1, .int .i64 i2] 98)
        rw [show w3.heap.size = w3.heap.size by rfl] at this
        exact this
      go_wp2_with (at_builtin; refine app_node rfl rfl base hE3.out v3 c2 ⟨o, 0, i1, i2⟩ rfl hO3.out (w3.heap.size) 1 (by rfl) hblk.out hcl2.out ?_; intro g5 cap5 w9 O9 hg9 hor9 _; have hF9 := hide (hF.out.trans (FrV.app (k := c2.length + 1) (cap := cap5) hX3.out hg9 hor9)); replace O9 := hide O9; clear hg9 hor9)
      go_ret2
      rw [hem.out]
      exact ⟨_, by go_num, O9.out, hF9.out⟩
theorem emitNodeAll (base b0 : Nat) (na : Option Addr) (nc hb hcap : Nat) (nd : List Nd) (n : Nat) (hw : Hid (WfA nd n)) (hna : Hid (∀ p, na = some p → p.block < base)) : ∀ f, OkE base b0 na nc hb hcap nd n f := by
  intro f
  induction f with
  | zero => intro x h; omega
  | succ f ih =>
    intro x hf hx xi v code w hxi hN hZ hO hbase hlen hcw
    subst hxi
    exact emitNode1 base b0 na nc hb hcap nd n hw hna f ih x (by omega) hx v code w hN hZ hO hbase hlen hcw
end Go.Proofs.YbyabwGreat
