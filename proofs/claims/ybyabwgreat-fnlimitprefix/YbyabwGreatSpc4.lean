/- Walk: spec.reachCols -/
import Derived.Test.YbyabwGreatSpc3
namespace Go.Proofs.YbyabwGreat
open Go.RowKit
set_option maxRecDepth 100000
set_option linter.unusedVariables false
set_option linter.unusedSimpArgs false

theorem spec_isBin (o : Int) (w : World) : Calls Yabn.prog 59 #[.int .i64 o] w (RetBq (decide (4 ≤ o) && decide (o ≤ 14)) w) := by
  by_cases h : 4 ≤ o
  · go_enter Yabn.func59, Yabn.ntmps59
    go_wp2
    go_ret
    exact ⟨by simp [h] <;> omega, rfl⟩
  · go_enter Yabn.func59, Yabn.ntmps59
    go_wp2
    go_ret
    exact ⟨by simp [h] <;> omega, rfl⟩
def RetCols (nd : List Nd) (root : Nat) (w : World) : Ending → World → Prop := fun en w' => ∃ (cols : List Int) (a : Option Addr) (cap : Nat), en = .returned (.slice a cols.length cap) ∧ OwnI w' w.heap.size 2 (.slice a cols.length cap) cols ∧ (∀ gr, okAt gr nd root = true ↔ ∀ c ∈ cols, c ∈ gr) ∧ cols.length ≤ root + 1 ∧ Ext w w'
set_option maxHeartbeats 8000000 in
theorem reachCols (nd : List Nd) (na : Option Addr) (nc n root : Nat) (hw : Hid (WfA nd n)) (hr : root < nd.length) (hnl : nd.length ≤ 131072) (w : World) (hN : Hid (NodesAt w na nd)) :
    Calls Yabn.prog 61 #[.slice na nd.length nc, .int .i64 root] w (RetCols nd root w) := by
  have hrl : (root : Int) < nd.length := by omega
  go_enter Yabn.func61, Yabn.ntmps61
  go_wp2_with (at_make; refine mk_bool rfl rfl (root + 1) (by go_num) (by go_num) (by omega) w.heap.size rfl ?_; intro w1 O1 x1 z1; have c1 := O1.cellAt root (by simp); have fz := O1.frozenAt root; have O2 := hide (O1.stored root true); have X2 : Hid (Ext w (w1.setCell ⟨w.heap.size, root, none⟩ (.bool true))) := x1.setCell (Nat.le_refl _) _; clear O1 x1 z1)
  go_loopw [6, 7] (fun v i wr => ∃ (x : Int) (k : Nat) (cols : List Int) (rs : List Bool), i = .int .i64 x ∧ x = (k : Int) - 1 ∧ k ≤ root + 1 ∧ Hid (OwnZ wr w.heap.size (.slice (some ⟨w.heap.size, 0, none⟩) (root + 1) (root + 1)) rs) ∧ Hid (OwnI wr w.heap.size 2 v cols) ∧ Hid (cols.length + k ≤ root + 1) ∧ Hid (Rch nd root k rs cols) ∧ Hid (Ext w wr)) (fun _ i _ => (intOf i + 1).toNat)
  case atStart => exact ⟨_, root + 1, [], _, rfl, by omega, Nat.le_refl _, O2, OwnI.nil _ _ _, by show _ ≤ _; simp, Rch.start nd root, X2⟩
  clear O2 X2 c1 fz
  obtain ⟨x, k, cols, rs, rfl, hxk, hk, hZ, hO, hlc, hR, hX⟩ := hrel
  cases k with
  | zero =>
    have hxn : ¬ (0 : Int) ≤ x := by omega
    replace hxk := hide hxk
    obtain ⟨a, cap, rfl, _⟩ := hO.out.form
    have hlen : Hid (cols.length ≤ root + 1) := by have := hlc.out; show _ ≤ _; omega
    go_wp2
    go_ret
    exact ⟨cols, a, cap, rfl, hO.out, fun gr => hR.out.done gr, hlen.out, hX.out⟩
  | succ j =>
    obtain rfl : x = (j : Int) := by omega
    clear hxk
    have hj0 : (0 : Int) ≤ j := by omega
    have hjr : (j : Int) < ((root + 1 : Nat) : Int) := by omega
    have hjn : (j : Int) < nd.length := by omega
    have hrl2 : Hid (rs.length = root + 1) := hZ.out.len.symm
    have hsz := hZ.out.lt.2
    have cj := hZ.out.cellAt j (by have := hrl2.out; omega)
    have hl9 : Hid (cols.length + j ≤ root + 1) := by have := hlc.out; show _ ≤ _; omega
    obtain ⟨bz, hbz⟩ : ∃ b, Hid (rs.getD j false = b) := ⟨_, rfl⟩
    rw [hbz.out] at cj
    cases bz with
    | false =>
      have hR9 := hide (hR.out.skip hbz.out)
      have hZ9 := hZ
      have hO9 := hO
      have hX9 := hX
      go_wp2
      go_roundw
      case rel => exact ⟨_, j, cols, rs, rfl, by go_num, by omega, hZ9.out, hO9.out, hl9.out, hR9.out, hX9.out⟩
      case measure => simp [intOf] <;> omega
    | true =>
      have hwk := hw.out.kind (x := j) (by omega)
      obtain ⟨b, off, rfl, g1, g2, g3, g4⟩ := (hN.out.ext hX.out).get j (by omega)
      obtain ⟨⟨o, y, l, r⟩, hnd⟩ : ∃ m, Hid (nd.getD j nd0 = m) := ⟨_, rfl⟩
      rw [hnd.out] at g1 g2 g3 g4
      simp only at g1 g2 g3 g4
      have hT : Hid (Blk (wr.alloc (.cells #[.int .i64 o, .int .i64 y, .int .i64 l, .int .i64 r] 98)) wr.heap.size 98 [.int .i64 o, .int .i64 y, .int .i64 l, .int .i64 r]) := Blk.new wr _ _
      have t0 := hT.out.box 0 _ rfl
      have t1 := hT.out.box 1 _ rfl
      have t2 := hT.out.box 2 _ rfl
      have t3 := hT.out.box 3 _ rfl
      rcases hwk with ho | ⟨ho, _⟩ | ⟨m, ho, hl, hmk⟩ | ⟨m, m2, ho, hl, hr2, hmk, hmk2⟩
      · have hR9 := hide (hR.out.lit ho)
        rw [hnd.out] at ho
        simp only at ho
        have ob2 : (o == 2) = false := by simp [ho]
        have ob3 : (o == 3) = false := by simp [ho]
        have ob15 : (o == 15) = false := by simp [ho]
        have od4 : decide (4 ≤ o) = false := by simp [ho]
        replace ho := hide ho
        have hZ9 := hide (hZ.out.alloc (.cells #[.int .i64 o, .int .i64 y, .int .i64 l, .int .i64 r] 98))
        have hO9 := hide (hO.out.alloc (.cells #[.int .i64 o, .int .i64 y, .int .i64 l, .int .i64 r] 98))
        have hX9 := hide (hX.out.alloc (.cells #[.int .i64 o, .int .i64 y, .int .i64 l, .int .i64 r] 98))
        go_wp2_with (go_at_call 59; refine (spec_isBin _ _).mono ?_; rintro e wx ⟨rfl, rfl⟩)
        go_roundw
        case rel => exact ⟨_, j, cols, rs, rfl, by go_num, by omega, hZ9.out, hO9.out, hl9.out, hR9.out, hX9.out⟩
        case measure => simp [intOf] <;> omega
      · have hR9 := hide (hR.out.col hbz.out ho)
        rw [hnd.out] at ho hR9
        simp only at ho hR9
        have ob2 : (o == 2) = true := by simp [ho]
        replace ho := hide ho
        have hl9 : Hid ((cols ++ [y]).length + j ≤ root + 1) := by have := hlc.out; show _ ≤ _; rw [List.length_append, List.length_singleton]; omega
        have hcl : Hid (cols.length < 2 ^ 39) := by have := hlc.out; show _ < _; omega
        have hX3 : Hid (Ext wr ((wr.alloc (.cells #[.int .i64 o, .int .i64 y, .int .i64 l, .int .i64 r] 98)).alloc (.cells #[.int .i64 y] 2))) := ((Ext.refl wr).alloc _).alloc _
        have hO3 := hide (hO.out.ext hX3.out)
        have hZ3 := hide (hZ.out.ext hX3.out)
        have hblk : Hid (((wr.alloc (.cells #[.int .i64 o, .int .i64 y, .int .i64 l, .int .i64 r] 98)).alloc (.cells #[.int .i64 y] 2)).heap[wr.heap.size + 1]? = some (.cells #[.int .i64 y] 2 (0, 0))) := by
          have := heap_alloc_new (wr.alloc (.cells #[.int .i64 o, .int .i64 y, .int .i64 l, .int .i64 r] 98)) (.cells #[.int .i64 y] 2)
          rw [show (wr.alloc (.cells #[.int .i64 o, .int .i64 y, .int .i64 l, .int .i64 r] 98)).heap.size = wr.heap.size + 1 by simp] at this
          exact this
        have hE : Hid (w.heap.size ≤ ((wr.alloc (.cells #[.int .i64 o, .int .i64 y, .int .i64 l, .int .i64 r] 98)).alloc (.cells #[.int .i64 y] 2)).heap.size) := (hX.out.trans hX3.out).size
        go_wp2_with (at_builtin; refine app_i64 rfl rfl w.heap.size hE.out u6 cols y rfl hO3.out (wr.heap.size + 1) 1 (by rfl) hblk.out hcl.out ?_; intro g5 cap5 w4 O4 hg4 _ _; have hO9 := hide O4; have hX9 := hide ((hX.out.trans hX3.out).grown hg4 (fun q hq => hO3.out.block q hq)); have hZ9 := hide (World.ownsRow.kept hZ3.out hg4 (apart_types hZ3.out hO3.out (by decide))); clear O4 hg4)
        go_roundw
        case rel => exact ⟨_, j, (cols ++ [y]), rs, rfl, by go_num, by omega, hZ9.out, hO9.out, hl9.out, hR9.out, hX9.out⟩
        case measure => simp [intOf] <;> omega
      · have hR9 := hide (hR.out.un hbz.out ho hl hmk (by have := hrl2.out; omega))
        rw [hnd.out] at ho hl
        simp only at ho hl
        subst hl
        have hm0 : (0 : Int) ≤ m := by omega
        have hmr : (m : Int) < ((root + 1 : Nat) : Int) := by omega
        have cm := hZ.out.cellAt m (by have := hrl2.out; omega)
        have fzm := hZ.out.frozenAt m
        have ob2 : (o == 2) = false := by simp; omega
        have hZ9 : Hid (∀ ob, OwnZ ((wr.setCell ⟨w.heap.size, m, none⟩ (.bool true)).alloc ob) w.heap.size (.slice (some ⟨w.heap.size, 0, none⟩) (root + 1) (root + 1)) (rs.set m true)) := fun ob => (hZ.out.stored m true).alloc ob
        have hO9 : Hid (∀ ob, OwnI ((wr.setCell ⟨w.heap.size, m, none⟩ (.bool true)).alloc ob) w.heap.size 2 u6 cols) := fun ob => OwnI.alloc (World.ownsRow.kept hO.out (grown_setCell wr ⟨w.heap.size, m, none⟩ (.bool true)) (apart_types hO.out hZ.out (by decide))) ob
        have hX9 : Hid (∀ ob, Ext w ((wr.setCell ⟨w.heap.size, m, none⟩ (.bool true)).alloc ob)) := fun ob => (hX.out.setCell (Nat.le_refl _) _).alloc ob
        rcases ho with ho | ho
        · have ob3 : (o == 3) = true := by simp [ho]
          replace ho := hide ho
          go_wp2_with fail
          go_roundw
          case rel => exact ⟨_, j, cols, rs.set m true, rfl, by go_num, by omega, hZ9.out _, hO9.out _, hl9.out, hR9.out, hX9.out _⟩
          case measure => simp [intOf] <;> omega
        · have ob3 : (o == 3) = false := by simp [ho]
          have ob15 : (o == 15) = true := by simp [ho]
          replace ho := hide ho
          go_wp2_with fail
          go_roundw
          case rel => exact ⟨_, j, cols, rs.set m true, rfl, by go_num, by omega, hZ9.out _, hO9.out _, hl9.out, hR9.out, hX9.out _⟩
          case measure => simp [intOf] <;> omega
      · have hR9 := hide (hR.out.bi hbz.out ho hl hr2 hmk hmk2 (by have := hrl2.out; omega) (by have := hrl2.out; omega))
        rw [hnd.out] at ho hl hr2
        simp only at ho hl hr2
        subst hl hr2
        have hm0 : (0 : Int) ≤ m := by omega
        have hmr : (m : Int) < ((root + 1 : Nat) : Int) := by omega
        have hm20 : (0 : Int) ≤ m2 := by omega
        have hm2r : (m2 : Int) < ((root + 1 : Nat) : Int) := by omega
        have cm := hZ.out.cellAt m (by have := hrl2.out; omega)
        have fzm := hZ.out.frozenAt m
        have hZ8 := hide (hZ.out.stored m true)
        have cm2 := hZ8.out.cellAt m2 (by rw [List.length_set]; have := hrl2.out; omega)
        have fzm2 := hZ8.out.frozenAt m2
        have ob2 : (o == 2) = false := by simp; omega
        have ob3 : (o == 3) = false := by simp; omega
        have ob15 : (o == 15) = false := by simp; omega
        obtain ⟨ho4, ho14⟩ := ho
        have ho4' : decide (4 ≤ o) = true := by simp [ho4]
        have ho14' : decide (o ≤ 14) = true := by simp [ho14]
        have hZ9 : Hid (∀ ob, OwnZ (((wr.setCell ⟨w.heap.size, m, none⟩ (.bool true)).setCell ⟨w.heap.size, m2, none⟩ (.bool true)).alloc ob) w.heap.size (.slice (some ⟨w.heap.size, 0, none⟩) (root + 1) (root + 1)) ((rs.set m true).set m2 true)) := fun ob => (hZ8.out.stored m2 true).alloc ob
        have hO8 : Hid (OwnI (wr.setCell ⟨w.heap.size, m, none⟩ (.bool true)) w.heap.size 2 u6 cols) := World.ownsRow.kept hO.out (grown_setCell wr ⟨w.heap.size, m, none⟩ (.bool true)) (apart_types hO.out hZ.out (by decide))
        have hO9 : Hid (∀ ob, OwnI (((wr.setCell ⟨w.heap.size, m, none⟩ (.bool true)).setCell ⟨w.heap.size, m2, none⟩ (.bool true)).alloc ob) w.heap.size 2 u6 cols) := fun ob => OwnI.alloc (World.ownsRow.kept hO8.out (grown_setCell _ ⟨w.heap.size, m2, none⟩ (.bool true)) (apart_types hO8.out hZ8.out (by decide))) ob
        have hX9 : Hid (∀ ob, Ext w (((wr.setCell ⟨w.heap.size, m, none⟩ (.bool true)).setCell ⟨w.heap.size, m2, none⟩ (.bool true)).alloc ob)) := fun ob => ((hX.out.setCell (Nat.le_refl _) _).setCell (Nat.le_refl _) _).alloc ob
        go_wp2_with (go_at_call 59; refine (spec_isBin _ _).mono ?_; rintro e wx ⟨rfl, rfl⟩)
        go_roundw
        case rel => exact ⟨_, j, cols, (rs.set m true).set m2 true, rfl, by go_num, by omega, hZ9.out _, hO9.out _, hl9.out, hR9.out, hX9.out _⟩
        case measure => simp [intOf] <;> omega
end Go.Proofs.YbyabwGreat
