/- Walks: laws.cvNodes, eqLNodes, scNodes -/
import Derived.Test.YbyacwNodes1
namespace Go.Proofs.Ybyacw
open Go.RowKit
set_option maxRecDepth 100000
set_option linter.unusedVariables false
section
variable {ops : Array Oper} {rest : List Oper} {o : Oper} {a : Act} {Q : Exit → Act → World → Prop} {w : World}
theorem app_lnode (hg : o.guard = none) {s x : Operand} (ho : o.op = .call { callee := .builtin .append, args := #[s, x], argTypes := #[29, 29] })
    (base : Nat) (hE : base ≤ w.heap.size) (v : Value) (ns : List Nd) (y : Nd) (hs : a.eval s = v) (hown : OwnN w base 122 v ns)
    (B c : Nat) (hx : a.eval x = .slice (some ⟨B, 0, none⟩) 1 c) (hblk : w.heap[B]? = some (.cells #[.int .i64 y.op, .int .i64 y.val, .int .i64 y.l, .int .i64 y.r] 122 (0, 0))) (hb : ns.length < 2 ^ 39)
    (h : ∀ g cap w', OwnN w' base 122 (.slice (some ⟨g, 0, none⟩) (ns.length + 1) cap) (ns ++ [y]) → w.grownBy w' v.ownBlock → (v.ownBlock = some g ∨ g = w.heap.size) → g < w'.heap.size →
      wpList Yacn.prog ops Q rest (a.put o.dst (.slice (some ⟨g, 0, none⟩) (ns.length + 1) cap)) w') : wpList Yacn.prog ops Q (o :: rest) a w := by
  obtain ⟨i, h2, h3, h4, h5⟩ := info_parts info_lnode
  refine wpList_appV hg ho 122 Yacn.underlying29 h2 h3 h4 (by omega) rfl (by omega) base hE v (nodeRows ns) y.cells hs hown B c hx hblk rfl (by simp [Nd.cells, Value.oneCell']) (by rw [nodeRows_len]; exact hb) ?_
  rw [nodeRows_len]
  intro g cap w' ho' hgr hor hlt
  refine h g cap w' ?_ hgr hor hlt
  unfold OwnN nodeRows
  rw [List.map_append]
  exact ho'
end

theorem take_succ_getDN (xs : List Nd) (k : Nat) (h : k < xs.length) : xs.take k ++ [xs.getD k nd0] = xs.take (k + 1) := by
  rw [List.take_succ_eq_append_getElem h]; simp [List.getElem?_eq_getElem h]

set_option maxHeartbeats 1000000 in
theorem cvNodes (xs : List Nd) (a : Option Addr) (c : Nat) (w : World) (h : Hid (NodesAt w a xs)) (l : xs.length < 2 ^ 39) :
    Calls Yacn.prog 16 #[.slice a xs.length c] w (RetNodes 122 xs w) := by
  go_enter Yacn.func16, Yacn.ntmps16
  go_wp2
  go_loopw [3, 4] (fun v i wr => ∃ k : Nat, i = .int .i64 k ∧ k ≤ xs.length ∧ Hid (OwnN wr w.heap.size 122 v (xs.take k)) ∧ Hid (Ext w wr)) (fun _ i _ => xs.length - (intOf i).toNat)
  case atStart => exact ⟨0, rfl, by omega, OwnN.nil _ _ _, Ext.refl w⟩
  obtain ⟨k, rfl, hk, hown, hext⟩ := hrel
  have hWs := hext.out.size
  by_cases hlt : k < xs.length
  · have hlt' : (k : Int) < xs.length := by omega
    obtain ⟨b, off, rfl, g1, g2, g3, g4⟩ := (h.out.ext hext.out).get k hlt
    have htk := take_succ_getDN xs k hlt
    have hln : (xs.take k).length < 2 ^ 39 := by simp; omega
    generalize xs.getD k nd0 = y at *
    obtain ⟨y1, y2, y3, y4⟩ := y
    generalize xs.take k = ps at *
    have hb1 := cell_lt g1
    simp only at g1 g2 g3 g4 hb1
    replace htk := hide htk
    replace hln := hide hln
    go_wp2
    refine Dr.region_text (by kernel_rfl) ?_
    go_wp2_with (at_builtin; refine app_lnode rfl rfl w.heap.size (by simp; omega) _ ps ⟨y1, y2, y3, y4⟩ rfl (OwnN.alloc hown.out _) wr.heap.size 1 (by rfl) (heap_alloc_new wr _) hln.out ?_; intro g cap w2 hown2 hgr hor hlt2; replace hgr := hide hgr; replace hown2 := hide hown2; replace hor := hide hor)
    refine ⟨by rfl, ?_⟩
    go_wp2
    go_roundw
    case rel =>
      refine ⟨k + 1, by go_num, by omega, hown2.out.congr htk.out, (hext.out.alloc _).drew.grown hgr.out ?_⟩
      intro q hq; exact hown.out.block q hq
    case measure => simp [intOf]; omega
  · obtain rfl : k = xs.length := by omega
    rw [List.take_length] at hown
    obtain ⟨p, q, rfl, _⟩ := hown.out.form
    clear hlt hk
    go_wp2
    go_ret
    exact ⟨p, q, rfl, hown.out, hext.out⟩

set_option maxHeartbeats 1000000 in
theorem eqLNodes (xs : List Nd) (a1 a2 : Option Addr) (c1 c2 : Nat) (w : World) (h1 : Hid (NodesAt w a1 xs)) (h2 : Hid (NodesAt w a2 xs)) (l : xs.length < 2 ^ 39) :
    Calls Yacn.prog 15 #[.slice a1 xs.length c1, .slice a2 xs.length c2] w (RetTrue w) := by
  go_enter Yacn.func15, Yacn.ntmps15
  go_wp2
  go_loopw [5] (fun i wr => ∃ k : Nat, i = .int .i64 k ∧ k ≤ xs.length ∧ Hid (Ext w wr)) (fun i _ => xs.length - (intOf i).toNat)
  case atStart => exact ⟨0, rfl, by omega, Ext.refl w⟩
  obtain ⟨k, rfl, hk, hext⟩ := hrel
  by_cases hlt : k < xs.length
  · have hlt' : (k : Int) < xs.length := by omega
    obtain ⟨b1, o1, rfl, g1, g2, g3, g4⟩ := (h1.out.ext hext.out).get k hlt
    obtain ⟨b2, o2, rfl, g5, g6, g7, g8⟩ := (h2.out.ext hext.out).get k hlt
    generalize xs.getD k nd0 = y at *
    obtain ⟨y1, y2, y3, y4⟩ := y
    simp only at g1 g2 g3 g4 g5 g6 g7 g8
    go_wp2
    refine Dr.region_text (by kernel_rfl) ?_
    go_wp2
    refine ⟨by rfl, ?_⟩
    go_wp2
    go_roundw
    case rel => exact ⟨k + 1, by go_num, by omega, hext.out.drew⟩
    case measure => simp [intOf]; omega
  · obtain rfl : k = xs.length := by omega
    clear hlt hk
    go_wp2
    go_ret
    exact ⟨rfl, hext.out⟩

set_option maxHeartbeats 1000000 in
theorem scNodes (xs : List Nd) (a : Option Addr) (c base : Nat) (w : World) (h : Hid (OwnN w base 118 (.slice a xs.length c) xs)) (l : xs.length < 2 ^ 39) :
    Calls Yacn.prog 18 #[.slice a xs.length c] w (RetMod (.slice a xs.length c) w) := by
  obtain ⟨n, hn⟩ : ∃ n, n = xs.length := ⟨_, rfl⟩
  rw [← hn] at h l ⊢
  replace hn := hide hn
  go_enter Yacn.func18, Yacn.ntmps18
  go_wp2
  go_loopw [2] (fun i wr => ∃ (k : Nat) (ys : List Nd), i = .int .i64 k ∧ k ≤ n ∧ Hid (n = ys.length) ∧ Hid (OwnN wr base 118 (.slice a n c) ys) ∧ Hid (w.grownBy wr (Value.slice a n c).ownBlock)) (fun i _ => n - (intOf i).toNat)
  case atStart => exact ⟨0, xs, rfl, by omega, hn, h, World.grownBy.refl w _⟩
  obtain ⟨k, ys, rfl, hk, hys, hown, hbel⟩ := hrel
  by_cases hlt : k < n
  · have hlt' : (k : Int) < n := by omega
    have hky : k < ys.length := by have := hys.out; omega
    have hkr : k < (nodeRows ys).length := by rw [nodeRows_len]; exact hky
    obtain ⟨b, off, rfl, g1, g2, g3, g4⟩ := (OwnN.nodes hown.out).get k hky
    obtain ⟨rfl⟩ : off = 0 := by
      obtain ⟨p, q, e, hf⟩ := hown.out.form
      cases e
      rcases hf with ⟨hf, _⟩ | ⟨g, hf⟩ <;> cases hf
      rfl
    have hlts := OwnV.lt hown.out
    have hf0 := OwnV.frozenAt hown.out (k * 4)
    have hf1 := OwnV.frozenAt hown.out (k * 4 + 1)
    have hf2 := OwnV.frozenAt hown.out (k * 4 + 2)
    have hf3 := OwnV.frozenAt hown.out (k * 4 + 3)
    have hst : ∀ u1 u2 u3 u4, OwnN ((((wr.setCell ⟨b, k * 4, none⟩ (.int .i64 u1)).setCell ⟨b, k * 4 + 1, none⟩ (.int .i64 u2)).setCell ⟨b, k * 4 + 2, none⟩ (.int .i64 u3)).setCell ⟨b, k * 4 + 3, none⟩ (.int .i64 u4)) base 118 (.slice (some ⟨b, 0, none⟩) n c) (ys.set k ⟨u1, u2, u3, u4⟩) := by
      intro u1 u2 u3 u4
      have e1 := OwnV.stored1 hown.out k 0 hkr (by omega) (.int .i64 u1)
      have e2 := OwnV.stored1 e1 k 1 (by rw [List.length_set]; exact hkr) (by omega) (.int .i64 u2)
      have e3 := OwnV.stored1 e2 k 2 (by simp only [List.length_set]; exact hkr) (by omega) (.int .i64 u3)
      have e4 := OwnV.stored1 e3 k 3 (by simp only [List.length_set]; exact hkr) (by omega) (.int .i64 u4)
      unfold OwnN
      refine OwnV.congr e4 ?_
      have hg : ∀ (zs : List (List Value)) (z : List Value), k < zs.length → (zs.set k z).getD k [] = z := fun zs z hz => by
        simp [List.getD_eq_getElem?_getD, List.getElem?_set_self hz]
      have hkr' : k < (nodeRows ys).length ↔ True := by simp [hkr]
      simp only [hg, hkr', List.set_set, nodeRows_at ys k hky, Nd.cells, List.set_cons_zero, List.set_cons_succ]
      simp only [nodeRows, List.map_set, Nd.cells]
    generalize ys.getD k nd0 = y at *
    obtain ⟨y1, y2, y3, y4⟩ := y
    simp only [Nat.zero_add] at g1 g2 g3 g4
    replace hst := hide hst
    replace hys := hide hys
    go_wp2
    go_roundw
    case rel =>
      refine ⟨k + 1, _, by go_num, by omega, ?_, hst.out _ _ _ _, (((hbel.out.trans (grown_setCell wr ⟨b, k * 4, none⟩ _)).trans (grown_setCell _ ⟨b, k * 4 + 1, none⟩ _)).trans (grown_setCell _ ⟨b, k * 4 + 2, none⟩ _)).trans (grown_setCell _ ⟨b, k * 4 + 3, none⟩ _)⟩
      rw [List.length_set]; exact hys.out
    case measure => simp [intOf]; omega
  · obtain rfl : k = n := by omega
    clear hlt hk
    go_wp2
    go_end0
    exact ⟨rfl, hbel.out⟩
end Go.Proofs.Ybyacw
