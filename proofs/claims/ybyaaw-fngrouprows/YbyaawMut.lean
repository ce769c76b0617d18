/- Walk: laws.mutate -/
import Derived.Test.YbyaawPlnEq
import Derived.Test.YbyaawGen11
import Derived.Test.YbyaawGen1
import Derived.Test.YbyaawCmpT
import Derived.Test.YbyaawStI
import Derived.Test.YbyaawVPl
import Derived.Test.YbyaawEval3
namespace Go.Proofs.Ybyaaw
open Go.RowKit
set_option maxRecDepth 100000
set_option linter.unusedVariables false
set_option linter.unusedSimpArgs false

structure QAt2 (w : World) (q : Qy) (ia na ga : Option Addr) : Prop where
  its : PairsAt w ia q.its
  nd : NodesAt w na q.nd
  gr : IntsAt w ga q.gr
  li : q.its.length ≤ 65536
  ln : q.nd.length ≤ 65536
  lg : q.gr.length ≤ 65600
theorem QAt2.ext {w w' : World} {q : Qy} {ia na ga : Option Addr} (h : QAt2 w q ia na ga) (he : Ext w w') : QAt2 w' q ia na ga := ⟨h.its.ext he, h.nd.ext he, h.gr.ext he, h.li, h.ln, h.lg⟩
theorem OwnQ.at2 {w : World} {base : Nat} {q : Qy} {ia na ga : Option Addr} {ic nc gc : Nat} (h : OwnQ w base q ia na ga ic nc gc) : QAt2 w q ia na ga := ⟨h.its.pairs, h.nd.nodes, h.gr.ints, h.li, h.ln, Nat.le_trans h.lg (by omega)⟩
/-- A query's rows, of the call's own. -/
structure OwnQ2 (w : World) (base : Nat) (q : Qy) (ia na ga : Option Addr) (ic nc gc : Nat) : Prop where
  its : OwnP w base 45 (.slice ia q.its.length ic) q.its
  nd : OwnN w base 134 (.slice na q.nd.length nc) q.nd
  gr : OwnI w base 3 (.slice ga q.gr.length gc) q.gr
  li : q.its.length ≤ 65536
  ln : q.nd.length ≤ 65536
  lg : q.gr.length ≤ 65600
theorem OwnQ2.at {w : World} {base : Nat} {q : Qy} {ia na ga : Option Addr} {ic nc gc : Nat} (h : OwnQ2 w base q ia na ga ic nc gc) : QAt2 w q ia na ga := ⟨h.its.pairs, h.nd.nodes, h.gr.ints, h.li, h.ln, h.lg⟩
theorem OwnQ2.fr {w w' : World} {base base' : Nat} {q : Qy} {ia na ga : Option Addr} {ic nc gc : Nat} (h : OwnQ2 w base q ia na ga ic nc gc) (hf : FrT 36 base' w w') : OwnQ2 w' base q ia na ga ic nc gc := ⟨hf.row h.its (by decide), ⟨h.nd.1, hf.row h.nd.2 (by decide)⟩, hf.row h.gr (by decide), h.li, h.ln, h.lg⟩
def RetMut (base : Nat) (w : World) : Ending → World → Prop := fun en w' => ∃ q ia na ga ic nc gc, en = .returned (.agg (qCells q ia na ga ic nc gc).toArray) ∧ OwnQ2 w' base q ia na ga ic nc gc ∧ Below base w w' ∧ ∀ g cs, Blk w g 36 cs → Blk w' g 36 cs
theorem blk2 (w : World) (cs ds : Array Value) (t s : TypeId) : Blk ((w.alloc (.cells cs t)).alloc (.cells ds s)) (w.heap.size + 1) s ds.toList := by
  have := Blk.new (w.alloc (.cells cs t)) ds s
  rw [show (w.alloc (.cells cs t)).heap.size = w.heap.size + 1 by simp] at this
  exact this
theorem nodeRows_set (nd : List Nd) (i : Nat) (n : Nd) : (nodeRows nd).set i n.cells = nodeRows (nd.set i n) := by simp [nodeRows, List.map_set]
theorem itRows_set (xs : List (Int × Int)) (i : Nat) (p : Int × Int) : (itRows xs).set i [.int .i64 p.1, .int .i64 p.2] = itRows (xs.set i p) := by simp [itRows, List.map_set]
theorem OwnP.rows {w : World} {base : Nat} {e : TypeId} {v : Value} {xs : List (Int × Int)} (h : OwnP w base e v xs) : OwnV w base e 2 v (itRows xs) := by
  refine ⟨fun x hx => ?_, ?_⟩
  · simp only [itRows, List.mem_map] at hx
    obtain ⟨p, _, rfl⟩ := hx
    rfl
  · rw [itRows_len, itRows_flat]
    exact h
/-- Nothing but the call's own boxes has changed. -/
theorem size_ints : (Yaan.prog.info? 34).map (·.size) = some 1 := by kernel_rfl
theorem size_nodeM : (Yaan.prog.info? 134).map (·.size) = some 4 := by kernel_rfl
set_option maxHeartbeats 8000000 in
theorem mutate (q : Qy) (ia na ga : Option Addr) (ic nc gc : Nat) (zs : List Int) (a : Option Addr) (c base : Nat) (w : World) (hQ : Hid (OwnQ w base q ia na ga ic nc gc)) (hb : base ≤ w.heap.size) (hz : Hid (BytesAt w a zs)) (h0 : 0 < zs.length) (hl : zs.length ≤ 1048576) :
    Calls Yaan.prog 46 #[.agg (qCells q ia na ga ic nc gc).toArray, .slice a zs.length c] w (RetMut base w) := by
  obtain ⟨its, nd, wh, gr, li⟩ := q
  have hX : Hid (Ext w ((w.alloc (.cells #[.slice ia its.length ic, .slice na nd.length nc, .int .i64 wh, .slice ga gr.length gc, .int .i64 li] 36)).alloc (.cells #[.slice none 0 0, .slice none 0 0, .int .i64 0, .slice none 0 0, .int .i64 0] 36))) := ((Ext.refl w).alloc _).alloc _
  have hB : Hid (Blk ((w.alloc (.cells #[.slice ia its.length ic, .slice na nd.length nc, .int .i64 wh, .slice ga gr.length gc, .int .i64 li] 36)).alloc (.cells #[.slice none 0 0, .slice none 0 0, .int .i64 0, .slice none 0 0, .int .i64 0] 36)) w.heap.size 36 [.slice ia its.length ic, .slice na nd.length nc, .int .i64 wh, .slice ga gr.length gc, .int .i64 li]) := (Blk.new w _ _).alloc _
  have hR : Hid (Blk ((w.alloc (.cells #[.slice ia its.length ic, .slice na nd.length nc, .int .i64 wh, .slice ga gr.length gc, .int .i64 li] 36)).alloc (.cells #[.slice none 0 0, .slice none 0 0, .int .i64 0, .slice none 0 0, .int .i64 0] 36)) (w.heap.size + 1) 36 qz) := blk2 w _ _ _ _
  obtain ⟨b, off, rfl, z1, z2, z3⟩ := (hz.out.ext hX.out) (zs.length - 1) (by omega)
  obtain ⟨b', off', e', y1, y2, y3⟩ := (hz.out.ext hX.out) (zs.length / 2) (by omega)
  cases e'
  generalize zs.getD (zs.length - 1) 0 = m at *
  generalize zs.getD (zs.length / 2) 0 = v at *
  have p0 := hB.out.box 0 _ rfl
  have p1 := hB.out.box 1 _ rfl
  have p2 := hB.out.box 2 _ rfl
  have p3 := hB.out.box 3 _ rfl
  have p4 := hB.out.box 4 _ rfl
  have hdl : nd.length ≤ 65536 := hQ.out.ln
  have hil : its.length ≤ 65536 := hQ.out.li
  have hin : 1 ≤ its.length := hQ.out.ne
  have hgl : gr.length ≤ 65536 := hQ.out.lg
  have hws : Hid (((w.alloc (.cells #[.slice ia its.length ic, .slice na nd.length nc, .int .i64 wh, .slice ga gr.length gc, .int .i64 li] 36)).alloc (.cells #[.slice none 0 0, .slice none 0 0, .int .i64 0, .slice none 0 0, .int .i64 0] 36)).heap.size = w.heap.size + 2) := by show _ = _; simp
  simp only [qCells]
  have h7 : m % 7 = 0 ∨ m % 7 = 1 ∨ m % 7 = 2 ∨ m % 7 = 3 ∨ m % 7 = 4 ∨ m % 7 = 5 ∨ m % 7 = 6 := by omega
  have hnode : 0 < nd.length → ∃ (i : Nat) (gb : Nat), Hid (v % (nd.length : Int) = (i : Int)) ∧ i < nd.length ∧ na = some ⟨gb, 0, none⟩ := fun hn => by
    obtain ⟨i, hi⟩ : ∃ i : Nat, v % (nd.length : Int) = (i : Int) := ⟨(v % (nd.length : Int)).toNat, by have := Int.emod_nonneg v (show (nd.length : Int) ≠ 0 by omega); omega⟩
    have hi2 : i < nd.length := by have := Int.emod_lt_of_pos v (show (0 : Int) < nd.length by omega); omega
    obtain ⟨a2, cap2, e2, hh⟩ := hQ.out.nd.form
    rcases hh with ⟨_, _, h0⟩ | ⟨g, rfl⟩
    · simp only at h0; omega
    · cases e2; exact ⟨i, g, hi, hi2, rfl⟩
  have hitem : ∃ (i : Nat) (gb : Nat), Hid (v % (its.length : Int) = (i : Int)) ∧ i < its.length ∧ ia = some ⟨gb, 0, none⟩ := by
    obtain ⟨i, hi⟩ : ∃ i : Nat, v % (its.length : Int) = (i : Int) := ⟨(v % (its.length : Int)).toNat, by have := Int.emod_nonneg v (show (its.length : Int) ≠ 0 by omega); omega⟩
    have hi2 : i < its.length := by have := Int.emod_lt_of_pos v (show (0 : Int) < its.length by omega); omega
    obtain ⟨b1, off1, e1, _⟩ := hQ.out.its.pairs i hi2
    obtain ⟨a2, cap2, e2, hh⟩ := hQ.out.its.form
    rcases hh with ⟨h0, _⟩ | ⟨g, rfl⟩
    · cases e2; rw [h0] at e1; cases e1
    · cases e2; exact ⟨i, g, hi, hi2, rfl⟩
  replace hnode := hide hnode
  replace hitem := hide hitem
  go_enter Yaan.func46, Yaan.ntmps46
  rcases h7 with h7 | h7 | h7 | h7 | h7 | h7 | h7
  · have e0 : (m % 7 == 0) = true := by simp [h7]
    replace h7 := hide h7
    by_cases hn0 : 0 < nd.length
    · obtain ⟨i, gb, hi, hi2, rfl⟩ := hnode.out hn0
      clear hnode hitem
      have hn0' : (0 : Int) < nd.length := by omega
      have hi2' : (i : Int) < nd.length := by omega
      obtain ⟨b2, off2, e2, g1, g2, g3, g4⟩ := (hQ.out.nd.nodes.ext hX.out).get i hi2
      cases e2
      obtain ⟨⟨o, y, l, r⟩, hnd⟩ : ∃ m, Hid (nd.getD i nd0 = m) := ⟨_, rfl⟩
      rw [hnd.out] at g1 g2 g3 g4
      simp only [Nat.zero_add] at g1 g2 g3 g4
      have hi3 : v % (nd.length : Int) = (i : Int) := hi.out
      have hT : Hid (Ext w (((w.alloc (.cells #[.slice ia its.length ic, .slice (some ⟨gb, 0, none⟩) nd.length nc, .int .i64 wh, .slice ga gr.length gc, .int .i64 li] 36)).alloc (.cells #[.slice none 0 0, .slice none 0 0, .int .i64 0, .slice none 0 0, .int .i64 0] 36)).alloc (.cells #[.int .i64 o, .int .i64 y, .int .i64 (wrap64 (v % ((i : Int) + 2) - 1)), .int .i64 r] 134))) := hX.out.alloc _
      have hO := hide (OwnN.ext hQ.out.nd hT.out)
      have hBx := hide (hB.out.alloc (.cells #[.int .i64 o, .int .i64 y, .int .i64 (wrap64 (v % ((i : Int) + 2) - 1)), .int .i64 r] 134))
      have hRx := hide (hR.out.alloc (.cells #[.int .i64 o, .int .i64 y, .int .i64 (wrap64 (v % ((i : Int) + 2) - 1)), .int .i64 r] 134))
      have hIx := hide (OwnP.ext hQ.out.its hT.out)
      have hGx := hide (OwnI.ext hQ.out.gr hT.out)
      have hl1 : Hid (its.length ≤ 65536) := hQ.out.li
      have hl2 : Hid ((nd.set i ⟨o, y, (wrap64 (v % ((i : Int) + 2) - 1)), r⟩).length ≤ 65536) := by show _ ≤ _; rw [List.length_set]; exact hQ.out.ln
      have hl3 : Hid (gr.length ≤ 65600) := Nat.le_trans hQ.out.lg (by decide)
      have hbt : Hid (base ≤ (((w.alloc (.cells #[.slice ia its.length ic, .slice (some ⟨gb, 0, none⟩) nd.length nc, .int .i64 wh, .slice ga gr.length gc, .int .i64 li] 36)).alloc (.cells #[.slice none 0 0, .slice none 0 0, .int .i64 0, .slice none 0 0, .int .i64 0] 36)).alloc (.cells #[.int .i64 o, .int .i64 y, .int .i64 (wrap64 (v % ((i : Int) + 2) - 1)), .int .i64 r] 134)).heap.size) := Nat.le_trans hb hT.out.size
      go_wp2_with (first | (refine wpList_storeV rfl rfl (i := i) (k := 4) (vs := [.int .i64 o, .int .i64 y, .int .i64 (wrap64 (v % ((i : Int) + 2) - 1)), .int .i64 r]) (by rfl) (by rfl) hO.out (by rw [nodeRows_len]; omega) size_nodeM rfl (by simp [Value.oneCell']) ?_; intro w3 O3 g3; have hf3 := FrT.grown hO.out.2 g3; have hB3 := hide (FrT.blk hf3 hBx.out (by decide)); have hR3 := hide (FrT.blk hf3 hRx.out (by decide)); have hI3 : Hid (OwnP w3 base 45 (.slice ia its.length ic) its) := hf3.row hIx.out (by decide); have hG3 : Hid (OwnI w3 base 3 (.slice ga gr.length gc) gr) := hf3.row hGx.out (by decide); have hL3 : Hid (Below base w w3) := Below.trans (Below.mono hT.out hb) (But.below hf3 (fun q hq => hq.1) hbt.out); have hO3 : Hid (OwnN w3 base 134 (.slice (some ⟨gb, 0, none⟩) nd.length nc) (nd.set i ⟨o, y, (wrap64 (v % ((i : Int) + 2) - 1)), r⟩)) := OwnV.congr O3 (nodeRows_set nd i ⟨o, y, (wrap64 (v % ((i : Int) + 2) - 1)), r⟩); have hK3 : Hid (∀ g cs, Blk w g 36 cs → Blk w3 g 36 cs) := fun g cs hh => FrT.blk hf3 (hh.ext hT.out) (by decide); clear O3 g3 hf3 p0 p1 p2 p3 p4; have p0 := hB3.out.box 0 _ rfl; have p1 := hB3.out.box 1 _ rfl; have p2 := hB3.out.box 2 _ rfl; have p3 := hB3.out.box 3 _ rfl; have p4 := hB3.out.box 4 _ rfl) | (refine wpList_storeB (vs := [.slice ia its.length ic, .slice (some ⟨gb, 0, none⟩) nd.length nc, .int .i64 wh, .slice ga gr.length gc, .int .i64 li]) rfl rfl (by rfl) (by rfl) hR3.out size_query rfl (by simp [Value.oneCell']) ?_; intro w9 hb9 hg9; replace hb9 := hide hb9; replace hg9 := hide hg9))
      refine bodyPost_ret (results_cell1 rfl (by rfl) hb9.out Yaan.underlying36 size_query) rfl ?_
      have hf9 : FrT 36 base w3 w9 := But.of_grown hg9.out (fun q hq => by cases hq; exact ⟨by omega, _, _, hR3.out⟩)
      have hbs : base ≤ w3.heap.size := by have := hR3.out.lt; omega
      have hI9 : OwnP w9 base 45 (.slice ia its.length ic) its := hf9.row hI3.out (by decide)
      have hO9 : OwnN w9 base 134 (.slice (some ⟨gb, 0, none⟩) nd.length nc) (nd.set i ⟨o, y, (wrap64 (v % ((i : Int) + 2) - 1)), r⟩) := ⟨hO3.out.1, hf9.row hO3.out.2 (by decide)⟩
      have hG9 : OwnI w9 base 3 (.slice ga (gr).length gc) gr := hf9.row hG3.out (by decide)
      exact ⟨⟨its, (nd.set i ⟨o, y, (wrap64 (v % ((i : Int) + 2) - 1)), r⟩), wh, gr, li⟩, ia, (some ⟨gb, 0, none⟩), ga, ic, nc, gc, by simp [qCells], ⟨by simpa using hI9, by simpa using hO9, hG9, hl1.out, hl2.out, hl3.out⟩, Below.trans hL3.out (But.below hf9 (fun q hq => hq.1) hbs), fun g cs hh => (hK3.out g cs hh).grown hg9.out (fun e => by cases e; have := hh.lt; omega)⟩
    · have hn0' : ¬ (0 : Int) < nd.length := by omega
      clear hnode hitem
      go_wp2_with fail
      refine bodyPost_ret (results_cell1 rfl (by rfl) (blk2 w _ _ _ _) Yaan.underlying36 size_query) rfl ?_
      exact ⟨⟨its, nd, wh, gr, li⟩, ia, na, ga, ic, nc, gc, rfl, ⟨OwnP.ext hQ.out.its (((Ext.refl w).alloc _).alloc _), OwnN.ext hQ.out.nd (((Ext.refl w).alloc _).alloc _), OwnI.ext hQ.out.gr (((Ext.refl w).alloc _).alloc _), hQ.out.li, hQ.out.ln, Nat.le_trans hQ.out.lg (by decide)⟩, Below.mono (((Ext.refl w).alloc _).alloc _) hb, fun g cs hh => (hh.alloc _).alloc _⟩
  · have e0 : (m % 7 == 0) = false := by simp [h7]
    have e1 : (m % 7 == 1) = true := by simp [h7]
    replace h7 := hide h7
    by_cases hn0 : 0 < nd.length
    · obtain ⟨i, gb, hi, hi2, rfl⟩ := hnode.out hn0
      clear hnode hitem
      have hn0' : (0 : Int) < nd.length := by omega
      have hi2' : (i : Int) < nd.length := by omega
      obtain ⟨b2, off2, e2, g1, g2, g3, g4⟩ := (hQ.out.nd.nodes.ext hX.out).get i hi2
      cases e2
      obtain ⟨⟨o, y, l, r⟩, hnd⟩ : ∃ m, Hid (nd.getD i nd0 = m) := ⟨_, rfl⟩
      rw [hnd.out] at g1 g2 g3 g4
      simp only [Nat.zero_add] at g1 g2 g3 g4
      have hi3 : v % (nd.length : Int) = (i : Int) := hi.out
      have hT : Hid (Ext w (((w.alloc (.cells #[.slice ia its.length ic, .slice (some ⟨gb, 0, none⟩) nd.length nc, .int .i64 wh, .slice ga gr.length gc, .int .i64 li] 36)).alloc (.cells #[.slice none 0 0, .slice none 0 0, .int .i64 0, .slice none 0 0, .int .i64 0] 36)).alloc (.cells #[.int .i64 o, .int .i64 y, .int .i64 l, .int .i64 (wrap64 (v % ((i : Int) + 2) - 1))] 134))) := hX.out.alloc _
      have hO := hide (OwnN.ext hQ.out.nd hT.out)
      have hBx := hide (hB.out.alloc (.cells #[.int .i64 o, .int .i64 y, .int .i64 l, .int .i64 (wrap64 (v % ((i : Int) + 2) - 1))] 134))
      have hRx := hide (hR.out.alloc (.cells #[.int .i64 o, .int .i64 y, .int .i64 l, .int .i64 (wrap64 (v % ((i : Int) + 2) - 1))] 134))
      have hIx := hide (OwnP.ext hQ.out.its hT.out)
      have hGx := hide (OwnI.ext hQ.out.gr hT.out)
      have hl1 : Hid (its.length ≤ 65536) := hQ.out.li
      have hl2 : Hid ((nd.set i ⟨o, y, l, (wrap64 (v % ((i : Int) + 2) - 1))⟩).length ≤ 65536) := by show _ ≤ _; rw [List.length_set]; exact hQ.out.ln
      have hl3 : Hid (gr.length ≤ 65600) := Nat.le_trans hQ.out.lg (by decide)
      have hbt : Hid (base ≤ (((w.alloc (.cells #[.slice ia its.length ic, .slice (some ⟨gb, 0, none⟩) nd.length nc, .int .i64 wh, .slice ga gr.length gc, .int .i64 li] 36)).alloc (.cells #[.slice none 0 0, .slice none 0 0, .int .i64 0, .slice none 0 0, .int .i64 0] 36)).alloc (.cells #[.int .i64 o, .int .i64 y, .int .i64 l, .int .i64 (wrap64 (v % ((i : Int) + 2) - 1))] 134)).heap.size) := Nat.le_trans hb hT.out.size
      go_wp2_with (first | (refine wpList_storeV rfl rfl (i := i) (k := 4) (vs := [.int .i64 o, .int .i64 y, .int .i64 l, .int .i64 (wrap64 (v % ((i : Int) + 2) - 1))]) (by rfl) (by rfl) hO.out (by rw [nodeRows_len]; omega) size_nodeM rfl (by simp [Value.oneCell']) ?_; intro w3 O3 g3; have hf3 := FrT.grown hO.out.2 g3; have hB3 := hide (FrT.blk hf3 hBx.out (by decide)); have hR3 := hide (FrT.blk hf3 hRx.out (by decide)); have hI3 : Hid (OwnP w3 base 45 (.slice ia its.length ic) its) := hf3.row hIx.out (by decide); have hG3 : Hid (OwnI w3 base 3 (.slice ga gr.length gc) gr) := hf3.row hGx.out (by decide); have hL3 : Hid (Below base w w3) := Below.trans (Below.mono hT.out hb) (But.below hf3 (fun q hq => hq.1) hbt.out); have hO3 : Hid (OwnN w3 base 134 (.slice (some ⟨gb, 0, none⟩) nd.length nc) (nd.set i ⟨o, y, l, (wrap64 (v % ((i : Int) + 2) - 1))⟩)) := OwnV.congr O3 (nodeRows_set nd i ⟨o, y, l, (wrap64 (v % ((i : Int) + 2) - 1))⟩); have hK3 : Hid (∀ g cs, Blk w g 36 cs → Blk w3 g 36 cs) := fun g cs hh => FrT.blk hf3 (hh.ext hT.out) (by decide); clear O3 g3 hf3 p0 p1 p2 p3 p4; have p0 := hB3.out.box 0 _ rfl; have p1 := hB3.out.box 1 _ rfl; have p2 := hB3.out.box 2 _ rfl; have p3 := hB3.out.box 3 _ rfl; have p4 := hB3.out.box 4 _ rfl) | (refine wpList_storeB (vs := [.slice ia its.length ic, .slice (some ⟨gb, 0, none⟩) nd.length nc, .int .i64 wh, .slice ga gr.length gc, .int .i64 li]) rfl rfl (by rfl) (by rfl) hR3.out size_query rfl (by simp [Value.oneCell']) ?_; intro w9 hb9 hg9; replace hb9 := hide hb9; replace hg9 := hide hg9))
      refine bodyPost_ret (results_cell1 rfl (by rfl) hb9.out Yaan.underlying36 size_query) rfl ?_
      have hf9 : FrT 36 base w3 w9 := But.of_grown hg9.out (fun q hq => by cases hq; exact ⟨by omega, _, _, hR3.out⟩)
      have hbs : base ≤ w3.heap.size := by have := hR3.out.lt; omega
      have hI9 : OwnP w9 base 45 (.slice ia its.length ic) its := hf9.row hI3.out (by decide)
      have hO9 : OwnN w9 base 134 (.slice (some ⟨gb, 0, none⟩) nd.length nc) (nd.set i ⟨o, y, l, (wrap64 (v % ((i : Int) + 2) - 1))⟩) := ⟨hO3.out.1, hf9.row hO3.out.2 (by decide)⟩
      have hG9 : OwnI w9 base 3 (.slice ga (gr).length gc) gr := hf9.row hG3.out (by decide)
      exact ⟨⟨its, (nd.set i ⟨o, y, l, (wrap64 (v % ((i : Int) + 2) - 1))⟩), wh, gr, li⟩, ia, (some ⟨gb, 0, none⟩), ga, ic, nc, gc, by simp [qCells], ⟨by simpa using hI9, by simpa using hO9, hG9, hl1.out, hl2.out, hl3.out⟩, Below.trans hL3.out (But.below hf9 (fun q hq => hq.1) hbs), fun g cs hh => (hK3.out g cs hh).grown hg9.out (fun e => by cases e; have := hh.lt; omega)⟩
    · have hn0' : ¬ (0 : Int) < nd.length := by omega
      clear hnode hitem
      go_wp2_with fail
      refine bodyPost_ret (results_cell1 rfl (by rfl) (blk2 w _ _ _ _) Yaan.underlying36 size_query) rfl ?_
      exact ⟨⟨its, nd, wh, gr, li⟩, ia, na, ga, ic, nc, gc, rfl, ⟨OwnP.ext hQ.out.its (((Ext.refl w).alloc _).alloc _), OwnN.ext hQ.out.nd (((Ext.refl w).alloc _).alloc _), OwnI.ext hQ.out.gr (((Ext.refl w).alloc _).alloc _), hQ.out.li, hQ.out.ln, Nat.le_trans hQ.out.lg (by decide)⟩, Below.mono (((Ext.refl w).alloc _).alloc _) hb, fun g cs hh => (hh.alloc _).alloc _⟩
  · have e0 : (m % 7 == 0) = false := by simp [h7]
    have e1 : (m % 7 == 1) = false := by simp [h7]
    have e2 : (m % 7 == 2) = true := by simp [h7]
    replace h7 := hide h7
    by_cases hn0 : 0 < nd.length
    · obtain ⟨i, gb, hi, hi2, rfl⟩ := hnode.out hn0
      clear hnode hitem
      have hn0' : (0 : Int) < nd.length := by omega
      have hi2' : (i : Int) < nd.length := by omega
      obtain ⟨b2, off2, e2, g1, g2, g3, g4⟩ := (hQ.out.nd.nodes.ext hX.out).get i hi2
      cases e2
      obtain ⟨⟨o, y, l, r⟩, hnd⟩ : ∃ m, Hid (nd.getD i nd0 = m) := ⟨_, rfl⟩
      rw [hnd.out] at g1 g2 g3 g4
      simp only [Nat.zero_add] at g1 g2 g3 g4
      have hi3 : v % (nd.length : Int) = (i : Int) := hi.out
      have hT : Hid (Ext w (((w.alloc (.cells #[.slice ia its.length ic, .slice (some ⟨gb, 0, none⟩) nd.length nc, .int .i64 wh, .slice ga gr.length gc, .int .i64 li] 36)).alloc (.cells #[.slice none 0 0, .slice none 0 0, .int .i64 0, .slice none 0 0, .int .i64 0] 36)).alloc (.cells #[.int .i64 (v % 17), .int .i64 y, .int .i64 l, .int .i64 r] 134))) := hX.out.alloc _
      have hO := hide (OwnN.ext hQ.out.nd hT.out)
      have hBx := hide (hB.out.alloc (.cells #[.int .i64 (v % 17), .int .i64 y, .int .i64 l, .int .i64 r] 134))
      have hRx := hide (hR.out.alloc (.cells #[.int .i64 (v % 17), .int .i64 y, .int .i64 l, .int .i64 r] 134))
      have hIx := hide (OwnP.ext hQ.out.its hT.out)
      have hGx := hide (OwnI.ext hQ.out.gr hT.out)
      have hl1 : Hid (its.length ≤ 65536) := hQ.out.li
      have hl2 : Hid ((nd.set i ⟨(v % 17), y, l, r⟩).length ≤ 65536) := by show _ ≤ _; rw [List.length_set]; exact hQ.out.ln
      have hl3 : Hid (gr.length ≤ 65600) := Nat.le_trans hQ.out.lg (by decide)
      have hbt : Hid (base ≤ (((w.alloc (.cells #[.slice ia its.length ic, .slice (some ⟨gb, 0, none⟩) nd.length nc, .int .i64 wh, .slice ga gr.length gc, .int .i64 li] 36)).alloc (.cells #[.slice none 0 0, .slice none 0 0, .int .i64 0, .slice none 0 0, .int .i64 0] 36)).alloc (.cells #[.int .i64 (v % 17), .int .i64 y, .int .i64 l, .int .i64 r] 134)).heap.size) := Nat.le_trans hb hT.out.size
      go_wp2_with (first | (refine wpList_storeV rfl rfl (i := i) (k := 4) (vs := [.int .i64 (v % 17), .int .i64 y, .int .i64 l, .int .i64 r]) (by rfl) (by rfl) hO.out (by rw [nodeRows_len]; omega) size_nodeM rfl (by simp [Value.oneCell']) ?_; intro w3 O3 g3; have hf3 := FrT.grown hO.out.2 g3; have hB3 := hide (FrT.blk hf3 hBx.out (by decide)); have hR3 := hide (FrT.blk hf3 hRx.out (by decide)); have hI3 : Hid (OwnP w3 base 45 (.slice ia its.length ic) its) := hf3.row hIx.out (by decide); have hG3 : Hid (OwnI w3 base 3 (.slice ga gr.length gc) gr) := hf3.row hGx.out (by decide); have hL3 : Hid (Below base w w3) := Below.trans (Below.mono hT.out hb) (But.below hf3 (fun q hq => hq.1) hbt.out); have hO3 : Hid (OwnN w3 base 134 (.slice (some ⟨gb, 0, none⟩) nd.length nc) (nd.set i ⟨(v % 17), y, l, r⟩)) := OwnV.congr O3 (nodeRows_set nd i ⟨(v % 17), y, l, r⟩); have hK3 : Hid (∀ g cs, Blk w g 36 cs → Blk w3 g 36 cs) := fun g cs hh => FrT.blk hf3 (hh.ext hT.out) (by decide); clear O3 g3 hf3 p0 p1 p2 p3 p4; have p0 := hB3.out.box 0 _ rfl; have p1 := hB3.out.box 1 _ rfl; have p2 := hB3.out.box 2 _ rfl; have p3 := hB3.out.box 3 _ rfl; have p4 := hB3.out.box 4 _ rfl) | (refine wpList_storeB (vs := [.slice ia its.length ic, .slice (some ⟨gb, 0, none⟩) nd.length nc, .int .i64 wh, .slice ga gr.length gc, .int .i64 li]) rfl rfl (by rfl) (by rfl) hR3.out size_query rfl (by simp [Value.oneCell']) ?_; intro w9 hb9 hg9; replace hb9 := hide hb9; replace hg9 := hide hg9))
      refine bodyPost_ret (results_cell1 rfl (by rfl) hb9.out Yaan.underlying36 size_query) rfl ?_
      have hf9 : FrT 36 base w3 w9 := But.of_grown hg9.out (fun q hq => by cases hq; exact ⟨by omega, _, _, hR3.out⟩)
      have hbs : base ≤ w3.heap.size := by have := hR3.out.lt; omega
      have hI9 : OwnP w9 base 45 (.slice ia its.length ic) its := hf9.row hI3.out (by decide)
      have hO9 : OwnN w9 base 134 (.slice (some ⟨gb, 0, none⟩) nd.length nc) (nd.set i ⟨(v % 17), y, l, r⟩) := ⟨hO3.out.1, hf9.row hO3.out.2 (by decide)⟩
      have hG9 : OwnI w9 base 3 (.slice ga (gr).length gc) gr := hf9.row hG3.out (by decide)
      exact ⟨⟨its, (nd.set i ⟨(v % 17), y, l, r⟩), wh, gr, li⟩, ia, (some ⟨gb, 0, none⟩), ga, ic, nc, gc, by simp [qCells], ⟨by simpa using hI9, by simpa using hO9, hG9, hl1.out, hl2.out, hl3.out⟩, Below.trans hL3.out (But.below hf9 (fun q hq => hq.1) hbs), fun g cs hh => (hK3.out g cs hh).grown hg9.out (fun e => by cases e; have := hh.lt; omega)⟩
    · have hn0' : ¬ (0 : Int) < nd.length := by omega
      clear hnode hitem
      go_wp2_with fail
      refine bodyPost_ret (results_cell1 rfl (by rfl) (blk2 w _ _ _ _) Yaan.underlying36 size_query) rfl ?_
      exact ⟨⟨its, nd, wh, gr, li⟩, ia, na, ga, ic, nc, gc, rfl, ⟨OwnP.ext hQ.out.its (((Ext.refl w).alloc _).alloc _), OwnN.ext hQ.out.nd (((Ext.refl w).alloc _).alloc _), OwnI.ext hQ.out.gr (((Ext.refl w).alloc _).alloc _), hQ.out.li, hQ.out.ln, Nat.le_trans hQ.out.lg (by decide)⟩, Below.mono (((Ext.refl w).alloc _).alloc _) hb, fun g cs hh => (hh.alloc _).alloc _⟩
  · have e0 : (m % 7 == 0) = false := by simp [h7]
    have e1 : (m % 7 == 1) = false := by simp [h7]
    have e2 : (m % 7 == 2) = false := by simp [h7]
    have e3 : (m % 7 == 3) = true := by simp [h7]
    replace h7 := hide h7
    clear hnode hitem
    go_wp2_with fail
    refine bodyPost_ret (results_cell1 rfl (by rfl) (blk2 w _ _ _ _) Yaan.underlying36 size_query) rfl ?_
    exact ⟨⟨its, nd, (wrap64 (v % ((nd.length : Int) + 2) - 1)), gr, li⟩, ia, na, ga, ic, nc, gc, rfl, ⟨OwnP.ext hQ.out.its (((Ext.refl w).alloc _).alloc _), OwnN.ext hQ.out.nd (((Ext.refl w).alloc _).alloc _), OwnI.ext hQ.out.gr (((Ext.refl w).alloc _).alloc _), hQ.out.li, hQ.out.ln, Nat.le_trans hQ.out.lg (by decide)⟩, Below.mono (((Ext.refl w).alloc _).alloc _) hb, fun g cs hh => (hh.alloc _).alloc _⟩
  · have e0 : (m % 7 == 0) = false := by simp [h7]
    have e1 : (m % 7 == 1) = false := by simp [h7]
    have e2 : (m % 7 == 2) = false := by simp [h7]
    have e3 : (m % 7 == 3) = false := by simp [h7]
    have e4 : (m % 7 == 4) = true := by simp [h7]
    replace h7 := hide h7
    obtain ⟨i, gb, hi, hi2, rfl⟩ := hitem.out
    clear hnode hitem
    have hn0' : (0 : Int) < its.length := by omega
    have hi2' : (i : Int) < its.length := by omega
    obtain ⟨b2, off2, e2, g1, g2⟩ := (hQ.out.its.pairs.ext hX.out) i hi2
    cases e2
    obtain ⟨⟨g, y⟩, hnd⟩ : ∃ m, Hid (its.getD i (0, 0) = m) := ⟨_, rfl⟩
    rw [hnd.out] at g1 g2
    simp only [Nat.zero_add] at g1 g2
    have hi3 : v % (its.length : Int) = (i : Int) := hi.out
    have hT : Hid (Ext w (((w.alloc (.cells #[.slice (some ⟨gb, 0, none⟩) its.length ic, .slice na nd.length nc, .int .i64 wh, .slice ga gr.length gc, .int .i64 li] 36)).alloc (.cells #[.slice none 0 0, .slice none 0 0, .int .i64 0, .slice none 0 0, .int .i64 0] 36)).alloc (.cells #[.int .i64 (v / 3 % 7 - 1), .int .i64 y] 45))) := hX.out.alloc _
    have hIx := hide (OwnP.rows (OwnP.ext hQ.out.its hT.out))
    have hBx := hide (hB.out.alloc (.cells #[.int .i64 (v / 3 % 7 - 1), .int .i64 y] 45))
    have hRx := hide (hR.out.alloc (.cells #[.int .i64 (v / 3 % 7 - 1), .int .i64 y] 45))
    have hO := hide (OwnN.ext hQ.out.nd hT.out)
    have hGx := hide (OwnI.ext hQ.out.gr hT.out)
    have hl1 : Hid ((its.set i ((v / 3 % 7 - 1), y)).length ≤ 65536) := by show _ ≤ _; rw [List.length_set]; exact hQ.out.li
    have hl2 : Hid (nd.length ≤ 65536) := hQ.out.ln
    have hl3 : Hid (gr.length ≤ 65600) := Nat.le_trans hQ.out.lg (by decide)
    have hbt : Hid (base ≤ (((w.alloc (.cells #[.slice (some ⟨gb, 0, none⟩) its.length ic, .slice na nd.length nc, .int .i64 wh, .slice ga gr.length gc, .int .i64 li] 36)).alloc (.cells #[.slice none 0 0, .slice none 0 0, .int .i64 0, .slice none 0 0, .int .i64 0] 36)).alloc (.cells #[.int .i64 (v / 3 % 7 - 1), .int .i64 y] 45)).heap.size) := Nat.le_trans hb hT.out.size
    go_wp2_with (first | (refine wpList_storeV rfl rfl (i := i) (k := 2) (vs := [.int .i64 (v / 3 % 7 - 1), .int .i64 y]) (by rfl) (by rfl) hIx.out (by rw [itRows_len]; omega) size_item2 rfl (by simp [Value.oneCell']) ?_; intro w3 O3 g3; have hf3 := FrT.grown hIx.out.2 g3; have hB3 := hide (FrT.blk hf3 hBx.out (by decide)); have hR3 := hide (FrT.blk hf3 hRx.out (by decide)); have hO3 : Hid (OwnN w3 base 134 (.slice na nd.length nc) nd) := ⟨hO.out.1, hf3.row hO.out.2 (by decide)⟩; have hG3 : Hid (OwnI w3 base 3 (.slice ga gr.length gc) gr) := hf3.row hGx.out (by decide); have hL3 : Hid (Below base w w3) := Below.trans (Below.mono hT.out hb) (But.below hf3 (fun q hq => hq.1) hbt.out); have hI3 : Hid (OwnP w3 base 45 (.slice (some ⟨gb, 0, none⟩) its.length ic) (its.set i ((v / 3 % 7 - 1), y))) := OwnP.of_rows (OwnV.congr O3 (itRows_set its i ((v / 3 % 7 - 1), y))); have hK3 : Hid (∀ g cs, Blk w g 36 cs → Blk w3 g 36 cs) := fun g cs hh => FrT.blk hf3 (hh.ext hT.out) (by decide); clear O3 g3 hf3 p0 p1 p2 p3 p4; have p0 := hB3.out.box 0 _ rfl; have p1 := hB3.out.box 1 _ rfl; have p2 := hB3.out.box 2 _ rfl; have p3 := hB3.out.box 3 _ rfl; have p4 := hB3.out.box 4 _ rfl) | (refine wpList_storeB (vs := [.slice (some ⟨gb, 0, none⟩) its.length ic, .slice na nd.length nc, .int .i64 wh, .slice ga gr.length gc, .int .i64 li]) rfl rfl (by rfl) (by rfl) hR3.out size_query rfl (by simp [Value.oneCell']) ?_; intro w9 hb9 hg9; replace hb9 := hide hb9; replace hg9 := hide hg9))
    refine bodyPost_ret (results_cell1 rfl (by rfl) hb9.out Yaan.underlying36 size_query) rfl ?_
    have hf9 : FrT 36 base w3 w9 := But.of_grown hg9.out (fun q hq => by cases hq; exact ⟨by omega, _, _, hR3.out⟩)
    have hbs : base ≤ w3.heap.size := by have := hR3.out.lt; omega
    have hI9 : OwnP w9 base 45 (.slice (some ⟨gb, 0, none⟩) its.length ic) (its.set i ((v / 3 % 7 - 1), y)) := hf9.row hI3.out (by decide)
    have hO9 : OwnN w9 base 134 (.slice na nd.length nc) nd := ⟨hO3.out.1, hf9.row hO3.out.2 (by decide)⟩
    have hG9 : OwnI w9 base 3 (.slice ga (gr).length gc) gr := hf9.row hG3.out (by decide)
    exact ⟨⟨(its.set i ((v / 3 % 7 - 1), y)), nd, wh, gr, li⟩, (some ⟨gb, 0, none⟩), na, ga, ic, nc, gc, by simp [qCells], ⟨by simpa using hI9, by simpa using hO9, hG9, hl1.out, hl2.out, hl3.out⟩, Below.trans hL3.out (But.below hf9 (fun q hq => hq.1) hbs), fun g cs hh => (hK3.out g cs hh).grown hg9.out (fun e => by cases e; have := hh.lt; omega)⟩
  · have e0 : (m % 7 == 0) = false := by simp [h7]
    have e1 : (m % 7 == 1) = false := by simp [h7]
    have e2 : (m % 7 == 2) = false := by simp [h7]
    have e3 : (m % 7 == 3) = false := by simp [h7]
    have e4 : (m % 7 == 4) = false := by simp [h7]
    have e5 : (m % 7 == 5) = true := by simp [h7]
    replace h7 := hide h7
    obtain ⟨i, gb, hi, hi2, rfl⟩ := hitem.out
    clear hnode hitem
    have hn0' : (0 : Int) < its.length := by omega
    have hi2' : (i : Int) < its.length := by omega
    obtain ⟨b2, off2, e2, g1, g2⟩ := (hQ.out.its.pairs.ext hX.out) i hi2
    cases e2
    obtain ⟨⟨g, y⟩, hnd⟩ : ∃ m, Hid (its.getD i (0, 0) = m) := ⟨_, rfl⟩
    rw [hnd.out] at g1 g2
    simp only [Nat.zero_add] at g1 g2
    have hi3 : v % (its.length : Int) = (i : Int) := hi.out
    have hT : Hid (Ext w (((w.alloc (.cells #[.slice (some ⟨gb, 0, none⟩) its.length ic, .slice na nd.length nc, .int .i64 wh, .slice ga gr.length gc, .int .i64 li] 36)).alloc (.cells #[.slice none 0 0, .slice none 0 0, .int .i64 0, .slice none 0 0, .int .i64 0] 36)).alloc (.cells #[.int .i64 g, .int .i64 (wrap64 (v / 3 % ((nd.length : Int) + 2) - 1))] 45))) := hX.out.alloc _
    have hIx := hide (OwnP.rows (OwnP.ext hQ.out.its hT.out))
    have hBx := hide (hB.out.alloc (.cells #[.int .i64 g, .int .i64 (wrap64 (v / 3 % ((nd.length : Int) + 2) - 1))] 45))
    have hRx := hide (hR.out.alloc (.cells #[.int .i64 g, .int .i64 (wrap64 (v / 3 % ((nd.length : Int) + 2) - 1))] 45))
    have hO := hide (OwnN.ext hQ.out.nd hT.out)
    have hGx := hide (OwnI.ext hQ.out.gr hT.out)
    have hl1 : Hid ((its.set i (g, (wrap64 (v / 3 % ((nd.length : Int) + 2) - 1)))).length ≤ 65536) := by show _ ≤ _; rw [List.length_set]; exact hQ.out.li
    have hl2 : Hid (nd.length ≤ 65536) := hQ.out.ln
    have hl3 : Hid (gr.length ≤ 65600) := Nat.le_trans hQ.out.lg (by decide)
    have hbt : Hid (base ≤ (((w.alloc (.cells #[.slice (some ⟨gb, 0, none⟩) its.length ic, .slice na nd.length nc, .int .i64 wh, .slice ga gr.length gc, .int .i64 li] 36)).alloc (.cells #[.slice none 0 0, .slice none 0 0, .int .i64 0, .slice none 0 0, .int .i64 0] 36)).alloc (.cells #[.int .i64 g, .int .i64 (wrap64 (v / 3 % ((nd.length : Int) + 2) - 1))] 45)).heap.size) := Nat.le_trans hb hT.out.size
    go_wp2_with (first | (refine wpList_storeV rfl rfl (i := i) (k := 2) (vs := [.int .i64 g, .int .i64 (wrap64 (v / 3 % ((nd.length : Int) + 2) - 1))]) (by rfl) (by rfl) hIx.out (by rw [itRows_len]; omega) size_item2 rfl (by simp [Value.oneCell']) ?_; intro w3 O3 g3; have hf3 := FrT.grown hIx.out.2 g3; have hB3 := hide (FrT.blk hf3 hBx.out (by decide)); have hR3 := hide (FrT.blk hf3 hRx.out (by decide)); have hO3 : Hid (OwnN w3 base 134 (.slice na nd.length nc) nd) := ⟨hO.out.1, hf3.row hO.out.2 (by decide)⟩; have hG3 : Hid (OwnI w3 base 3 (.slice ga gr.length gc) gr) := hf3.row hGx.out (by decide); have hL3 : Hid (Below base w w3) := Below.trans (Below.mono hT.out hb) (But.below hf3 (fun q hq => hq.1) hbt.out); have hI3 : Hid (OwnP w3 base 45 (.slice (some ⟨gb, 0, none⟩) its.length ic) (its.set i (g, (wrap64 (v / 3 % ((nd.length : Int) + 2) - 1))))) := OwnP.of_rows (OwnV.congr O3 (itRows_set its i (g, (wrap64 (v / 3 % ((nd.length : Int) + 2) - 1))))); have hK3 : Hid (∀ g cs, Blk w g 36 cs → Blk w3 g 36 cs) := fun g cs hh => FrT.blk hf3 (hh.ext hT.out) (by decide); clear O3 g3 hf3 p0 p1 p2 p3 p4; have p0 := hB3.out.box 0 _ rfl; have p1 := hB3.out.box 1 _ rfl; have p2 := hB3.out.box 2 _ rfl; have p3 := hB3.out.box 3 _ rfl; have p4 := hB3.out.box 4 _ rfl) | (refine wpList_storeB (vs := [.slice (some ⟨gb, 0, none⟩) its.length ic, .slice na nd.length nc, .int .i64 wh, .slice ga gr.length gc, .int .i64 li]) rfl rfl (by rfl) (by rfl) hR3.out size_query rfl (by simp [Value.oneCell']) ?_; intro w9 hb9 hg9; replace hb9 := hide hb9; replace hg9 := hide hg9))
    refine bodyPost_ret (results_cell1 rfl (by rfl) hb9.out Yaan.underlying36 size_query) rfl ?_
    have hf9 : FrT 36 base w3 w9 := But.of_grown hg9.out (fun q hq => by cases hq; exact ⟨by omega, _, _, hR3.out⟩)
    have hbs : base ≤ w3.heap.size := by have := hR3.out.lt; omega
    have hI9 : OwnP w9 base 45 (.slice (some ⟨gb, 0, none⟩) its.length ic) (its.set i (g, (wrap64 (v / 3 % ((nd.length : Int) + 2) - 1)))) := hf9.row hI3.out (by decide)
    have hO9 : OwnN w9 base 134 (.slice na nd.length nc) nd := ⟨hO3.out.1, hf9.row hO3.out.2 (by decide)⟩
    have hG9 : OwnI w9 base 3 (.slice ga (gr).length gc) gr := hf9.row hG3.out (by decide)
    exact ⟨⟨(its.set i (g, (wrap64 (v / 3 % ((nd.length : Int) + 2) - 1)))), nd, wh, gr, li⟩, (some ⟨gb, 0, none⟩), na, ga, ic, nc, gc, by simp [qCells], ⟨by simpa using hI9, by simpa using hO9, hG9, hl1.out, hl2.out, hl3.out⟩, Below.trans hL3.out (But.below hf9 (fun q hq => hq.1) hbs), fun g cs hh => (hK3.out g cs hh).grown hg9.out (fun e => by cases e; have := hh.lt; omega)⟩
  · have e0 : (m % 7 == 0) = false := by simp [h7]
    have e1 : (m % 7 == 1) = false := by simp [h7]
    have e2 : (m % 7 == 2) = false := by simp [h7]
    have e3 : (m % 7 == 3) = false := by simp [h7]
    have e4 : (m % 7 == 4) = false := by simp [h7]
    have e5 : (m % 7 == 5) = false := by simp [h7]
    replace h7 := hide h7
    clear hnode hitem
    by_cases hv : v % 2 = 0
    · have hv' : (v % 2 == 0) = true := by simp [hv]
      replace hv := hide hv
      go_wp2_with fail
      refine bodyPost_ret (results_cell1 rfl (by rfl) (blk2 w _ _ _ _) Yaan.underlying36 size_query) rfl ?_
      exact ⟨⟨its, nd, wh, gr, (v % 4 - 2)⟩, ia, na, ga, ic, nc, gc, rfl, ⟨OwnP.ext hQ.out.its (((Ext.refl w).alloc _).alloc _), OwnN.ext hQ.out.nd (((Ext.refl w).alloc _).alloc _), OwnI.ext hQ.out.gr (((Ext.refl w).alloc _).alloc _), hQ.out.li, hQ.out.ln, Nat.le_trans hQ.out.lg (by decide)⟩, Below.mono (((Ext.refl w).alloc _).alloc _) hb, fun g cs hh => (hh.alloc _).alloc _⟩
    · have hv' : (v % 2 == 0) = false := by simp [hv]
      replace hv := hide hv
      have hT : Hid (Ext w (((w.alloc (.cells #[.slice ia its.length ic, .slice na nd.length nc, .int .i64 wh, .slice ga gr.length gc, .int .i64 li] 36)).alloc (.cells #[.slice none 0 0, .slice none 0 0, .int .i64 0, .slice none 0 0, .int .i64 0] 36)).alloc (.cells #[.int .i64 (v % 12)] 3))) := hX.out.alloc _
      have hBx := hide (hB.out.alloc (.cells #[.int .i64 (v % 12)] 3))
      have hRx := hide (hR.out.alloc (.cells #[.int .i64 (v % 12)] 3))
      have hIx := hide (OwnP.ext hQ.out.its hT.out)
      have hO := hide (OwnN.ext hQ.out.nd hT.out)
      have hGx := hide (OwnI.ext hQ.out.gr hT.out)
      have hbt : Hid (base ≤ (((w.alloc (.cells #[.slice ia its.length ic, .slice na nd.length nc, .int .i64 wh, .slice ga gr.length gc, .int .i64 li] 36)).alloc (.cells #[.slice none 0 0, .slice none 0 0, .int .i64 0, .slice none 0 0, .int .i64 0] 36)).alloc (.cells #[.int .i64 (v % 12)] 3)).heap.size) := Nat.le_trans hb hT.out.size
      have hblk : Hid ((((w.alloc (.cells #[.slice ia its.length ic, .slice na nd.length nc, .int .i64 wh, .slice ga gr.length gc, .int .i64 li] 36)).alloc (.cells #[.slice none 0 0, .slice none 0 0, .int .i64 0, .slice none 0 0, .int .i64 0] 36)).alloc (.cells #[.int .i64 (v % 12)] 3)).heap[w.heap.size + 1 + 1]? = some (.cells #[.int .i64 (v % 12)] 3 (0, 0))) := by
        have := heap_alloc_new ((w.alloc (.cells #[.slice ia its.length ic, .slice na nd.length nc, .int .i64 wh, .slice ga gr.length gc, .int .i64 li] 36)).alloc (.cells #[.slice none 0 0, .slice none 0 0, .int .i64 0, .slice none 0 0, .int .i64 0] 36)) (.cells #[.int .i64 (v % 12)] 3)
        rw [hws.out] at this
        exact this
      have hl1 : Hid (its.length ≤ 65536) := hQ.out.li
      have hl2 : Hid (nd.length ≤ 65536) := hQ.out.ln
      have hl3 : Hid ((gr ++ [v % 12]).length ≤ 65600) := by show _ ≤ _; simp; omega
      go_wp2_with (first | (at_builtin; refine app_int rfl rfl base hbt.out _ gr (v % 12) rfl hGx.out (w.heap.size + 1 + 1) 1 (by rfl) hblk.out (by omega) ?_; intro g7 cap7 w2 O3 g3 _ _; have hf3 := FrT.grown hGx.out g3; have hB2 := hide (FrT.blk hf3 hBx.out (by decide)); have hR2 := hide (FrT.blk hf3 hRx.out (by decide)); have hI2 : Hid (OwnP w2 base 45 (.slice ia its.length ic) its) := hf3.row hIx.out (by decide); have hO2 : Hid (OwnN w2 base 134 (.slice na nd.length nc) nd) := ⟨hO.out.1, hf3.row hO.out.2 (by decide)⟩; have hL2 : Hid (Below base w w2) := Below.trans (Below.mono hT.out hb) (But.below hf3 (fun q hq => hq.1) hbt.out); have hG2 := hide O3; have hK2 : Hid (∀ g cs, Blk w g 36 cs → Blk w2 g 36 cs) := fun g cs hh => FrT.blk hf3 (hh.ext hT.out) (by decide); clear O3 g3 hf3 p0 p1 p2 p3 p4) | (refine wpList_st1 (g := w.heap.size) (i := 3) (v := .slice (some ⟨g7, 0, none⟩) (gr.length + 1) cap7) rfl rfl (by rfl) (by rfl) rfl (hB2.out.box 3 _ rfl) (hB2.out.frozen 3) size_ints ?_; obtain ⟨w3, hw3⟩ : ∃ x, x = w2.setCell ⟨w.heap.size, 3, none⟩ (.slice (some ⟨g7, 0, none⟩) (gr.length + 1) cap7) := ⟨_, rfl⟩; rw [← hw3]; have hB3 : Hid (Blk w3 w.heap.size 36 [.slice ia its.length ic, .slice na nd.length nc, .int .i64 wh, .slice (some ⟨g7, 0, none⟩) (gr.length + 1) cap7, .int .i64 li]) := (by rw [hw3]; exact hB2.out.stored 3 _); have hf3 : FrT 36 base w2 w3 := (by rw [hw3]; exact But.of_grown (grown_setCell _ _ _) (fun q hq => by cases hq; exact ⟨hb, _, _, hB2.out⟩)); have hR3 : Hid (Blk w3 (w.heap.size + 1) 36 qz) := (by rw [hw3]; exact hR2.out.setCell (by show w.heap.size ≠ w.heap.size + 1; omega) _); have hI3 : Hid (OwnP w3 base 45 (.slice ia its.length ic) its) := hf3.row hI2.out (by decide); have hO3 : Hid (OwnN w3 base 134 (.slice na nd.length nc) nd) := ⟨hO2.out.1, hf3.row hO2.out.2 (by decide)⟩; have hG3 : Hid (OwnI w3 base 3 (.slice (some ⟨g7, 0, none⟩) (gr ++ [v % 12]).length cap7) (gr ++ [v % 12])) := (by rw [List.length_append, List.length_singleton]; exact hf3.row hG2.out (by decide)); have hL3 : Hid (Below base w w3) := Below.trans hL2.out (But.below hf3 (fun q hq => hq.1) (by have := hR2.out.lt; omega)); have hK3 : Hid (∀ g cs, Blk w g 36 cs → Blk w3 g 36 cs) := fun g cs hh => (by rw [hw3]; exact (hK2.out g cs hh).setCell (by have := hh.lt; show w.heap.size ≠ g; omega) _); clear hw3 hf3; have p0 := hB3.out.box 0 _ rfl; have p1 := hB3.out.box 1 _ rfl; have p2 := hB3.out.box 2 _ rfl; have p3 := hB3.out.box 3 _ rfl; have p4 := hB3.out.box 4 _ rfl) | (refine wpList_storeB (vs := [.slice ia its.length ic, .slice na nd.length nc, .int .i64 wh, .slice (some ⟨g7, 0, none⟩) (gr.length + 1) cap7, .int .i64 li]) rfl rfl (by rfl) (by rfl) hR3.out size_query rfl (by simp [Value.oneCell']) ?_; intro w9 hb9 hg9; replace hb9 := hide hb9; replace hg9 := hide hg9))
      refine bodyPost_ret (results_cell1 rfl (by rfl) hb9.out Yaan.underlying36 size_query) rfl ?_
      have hf9 : FrT 36 base w3 w9 := But.of_grown hg9.out (fun q hq => by cases hq; exact ⟨by omega, _, _, hR3.out⟩)
      have hbs : base ≤ w3.heap.size := by have := hR3.out.lt; omega
      have hI9 : OwnP w9 base 45 (.slice ia its.length ic) its := hf9.row hI3.out (by decide)
      have hO9 : OwnN w9 base 134 (.slice na nd.length nc) nd := ⟨hO3.out.1, hf9.row hO3.out.2 (by decide)⟩
      have hG9 : OwnI w9 base 3 (.slice (some ⟨g7, 0, none⟩) ((gr ++ [v % 12])).length cap7) (gr ++ [v % 12]) := hf9.row hG3.out (by decide)
      exact ⟨⟨its, nd, wh, (gr ++ [v % 12]), li⟩, ia, na, (some ⟨g7, 0, none⟩), ic, nc, cap7, by simp [qCells], ⟨by simpa using hI9, by simpa using hO9, hG9, hl1.out, hl2.out, hl3.out⟩, Below.trans hL3.out (But.below hf9 (fun q hq => hq.1) hbs), fun g cs hh => (hK3.out g cs hh).grown hg9.out (fun e => by cases e; have := hh.lt; omega)⟩
end Go.Proofs.Ybyaaw
