/- Walks: laws.cvRuns, eqLRuns, prRuns, scRuns, incRuns, incLRuns, cpRuns -/
import Derived.Test.YbyabwInts1
import Derived.Test.YbyabwLaws2
namespace Go.Proofs.Ybyabw
open Go.RowKit
set_option maxRecDepth 100000
set_option linter.unusedVariables false
def incP (p : Int × Int) : Int × Int := (inc1 p.1, inc1 p.2)
theorem info_lrun : (Yabn.prog.info? 185).map (fun i => (i.zero, i.size, i.bytes)) = some (some (.agg #[.int .i64 0, .int .i64 0]), 2, 16) := by kernel_rfl
section
variable {ops : Array Oper} {rest : List Oper} {o : Oper} {a : Act} {Q : Exit → Act → World → Prop} {w : World}
theorem app_lrun (hg : o.guard = none) {s x : Operand} (ho : o.op = .call { callee := .builtin .append, args := #[s, x], argTypes := #[56, 56] })
    (base : Nat) (hE : base ≤ w.heap.size) (v : Value) (xs : List (Int × Int)) (y1 y2 : Int) (hs : a.eval s = v) (hown : OwnP w base 185 v xs)
    (B c : Nat) (hx : a.eval x = .slice (some ⟨B, 0, none⟩) 1 c) (hblk : w.heap[B]? = some (.cells #[.int .i64 y1, .int .i64 y2] 185 (0, 0))) (hb : xs.length < 2 ^ 39)
    (h : ∀ g cap w', OwnP w' base 185 (.slice (some ⟨g, 0, none⟩) (xs.length + 1) cap) (xs ++ [(y1, y2)]) → w.grownBy w' v.ownBlock → (v.ownBlock = some g ∨ g = w.heap.size) → g < w'.heap.size →
      wpList Yabn.prog ops Q rest (a.put o.dst (.slice (some ⟨g, 0, none⟩) (xs.length + 1) cap)) w') : wpList Yabn.prog ops Q (o :: rest) a w := by
  obtain ⟨i, h2, h3, h4, h5⟩ := info_parts info_lrun
  exact wpList_appP hg ho 185 Yabn.underlying56 h2 h3 h4 h5 base hE v xs y1 y2 hs hown B c hx hblk hb h
end
set_option maxHeartbeats 1000000 in
theorem cvRuns (xs : List (Int × Int)) (a : Option Addr) (c : Nat) (w : World) (h : Hid (PairsAt w a xs)) (l : xs.length < 2 ^ 39) :
    Calls Yabn.prog 89 #[.slice a xs.length c] w (RetPairs 185 xs w) := by
  go_enter Yabn.func89, Yabn.ntmps89
  go_wp2
  go_loopw [3, 4] (fun v i wr => ∃ k : Nat, i = .int .i64 k ∧ k ≤ xs.length ∧ Hid (OwnP wr w.heap.size 185 v (xs.take k)) ∧ Hid (Ext w wr)) (fun _ i _ => xs.length - (intOf i).toNat)
  case atStart => exact ⟨0, rfl, by omega, OwnP.nil _ _ _, Ext.refl w⟩
  obtain ⟨k, rfl, hk, hown, hext⟩ := hrel
  have hWs := hext.out.size
  by_cases hlt : k < xs.length
  · have hlt' : (k : Int) < xs.length := by omega
    obtain ⟨b, off, rfl, g1, g2⟩ := (h.out.ext hext.out) k hlt
    have htk := take_succ_getDP xs k hlt
    have hln : (xs.take k).length < 2 ^ 39 := by simp; omega
    generalize xs.getD k (0, 0) = y at *
    obtain ⟨y1, y2⟩ := y
    generalize xs.take k = ps at *
    have hb1 := cell_lt g1
    simp only at g1 g2 hb1
    replace htk := hide htk
    replace hln := hide hln
    go_wp2
    refine Dr.region_text (by kernel_rfl) ?_
    go_wp2_with (at_builtin; refine app_lrun rfl rfl w.heap.size (by simp; omega) _ ps y1 y2 rfl (OwnP.alloc hown.out _) wr.heap.size 1 (by rfl) (heap_alloc_new wr _) hln.out ?_; intro g cap w2 hown2 hgr hor hlt2; replace hgr := hide hgr; replace hown2 := hide hown2; replace hor := hide hor)
    refine ⟨by rfl, ?_⟩
    go_wp2
    go_roundw
    case rel =>
      refine ⟨k + 1, by go_num, by omega, hown2.out.congr htk.out, (hext.out.alloc _).drew.grown hgr.out ?_⟩
      intro q hq; exact hown.out.block q hq
    case measure => simp [intOf]; omega
  · obtain rfl : k = xs.length := by omega
    rw [List.take_length] at hown
    obtain ⟨p, q, rfl, _⟩ := hown.out.form
    clear hlt hk
    go_wp2
    go_ret
    exact ⟨p, q, rfl, hown.out, hext.out⟩

set_option maxHeartbeats 1000000 in
theorem eqLRuns (xs : List (Int × Int)) (a1 a2 : Option Addr) (c1 c2 : Nat) (w : World) (h1 : Hid (PairsAt w a1 xs)) (h2 : Hid (PairsAt w a2 xs)) (l : xs.length < 2 ^ 39) :
    Calls Yabn.prog 88 #[.slice a1 xs.length c1, .slice a2 xs.length c2] w (RetTrue w) := by
  go_enter Yabn.func88, Yabn.ntmps88
  go_wp2
  go_loopw [5] (fun i wr => ∃ k : Nat, i = .int .i64 k ∧ k ≤ xs.length ∧ Hid (Ext w wr)) (fun i _ => xs.length - (intOf i).toNat)
  case atStart => exact ⟨0, rfl, by omega, Ext.refl w⟩
  obtain ⟨k, rfl, hk, hext⟩ := hrel
  by_cases hlt : k < xs.length
  · have hlt' : (k : Int) < xs.length := by omega
    obtain ⟨b1, o1, rfl, g1, g2⟩ := (h1.out.ext hext.out) k hlt
    obtain ⟨b2, o2, rfl, g3, g4⟩ := (h2.out.ext hext.out) k hlt
    generalize xs.getD k (0, 0) = y at *
    obtain ⟨y1, y2⟩ := y
    simp only at g1 g2 g3 g4
    go_wp2
    refine Dr.region_text (by kernel_rfl) ?_
    go_wp2
    refine ⟨by rfl, ?_⟩
    go_wp2
    go_roundw
    case rel => exact ⟨k + 1, by go_num, by omega, hext.out.drew⟩
    case measure => simp [intOf]; omega
  · obtain rfl : k = xs.length := by omega
    go_wp2
    go_ret
    exact ⟨rfl, hext.out⟩

section
variable {ops : Array Oper} {rest : List Oper} {o : Oper} {a : Act} {Q : Exit → Act → World → Prop} {w : World}
theorem prRuns_prb (hg : o.guard = none) {s x : Operand} (ho : o.op = .call { callee := .builtin .append, args := #[s, x], argTypes := #[25, 25] })
    (base : Nat) (v : Value) (xs : List (Int × Int)) (y1 y2 : Int) (hs : a.eval s = v) (hown : OwnP w base 27 v xs)
    (B c : Nat) (hx : a.eval x = .slice (some ⟨B, 0, none⟩) 1 c) (hblk : w.heap[B]? = some (.cells #[.int .i64 y1, .int .i64 y2] 27 (0, 0))) (hb : xs.length < 2 ^ 39)
    (h : ∀ v' w', OwnP w' base 27 v xs → w.grownBy w' v.ownBlock → wpList Yabn.prog ops Q rest (a.put o.dst v') w') : wpList Yabn.prog ops Q (o :: rest) a w := by
  obtain ⟨i, h2, h3, h4, h5⟩ := info_parts info_run
  exact wpList_probeG hg ho 27 Yabn.underlying25 h2 h3 h4 h5 (by simp [Value.cells]) (by omega) base v xs.length (pairCells xs) hs hown B c [.int .i64 y1, .int .i64 y2] hx hblk rfl (by simp [Value.oneCell']) (by simp only [maxLen]; omega) (by omega) h
end
set_option maxHeartbeats 1000000 in
theorem prRuns (xs : List (Int × Int)) (a : Option Addr) (c base : Nat) (m : Int) (w : World) (h : Hid (OwnP w base 27 (.slice a xs.length c) xs)) (l : xs.length < 2 ^ 39) (m0 : 0 ≤ m) (m1 : m < 10) :
    Calls Yabn.prog 140 #[.slice a xs.length c, .int .i64 m] w (RetOwnP 27 (.slice a xs.length c) base xs w) := by
  go_enter Yabn.func140, Yabn.ntmps140
  go_wp2_with (at_builtin; refine prRuns_prb rfl rfl base _ xs m m rfl (h.out.alloc _) w.heap.size 1 (by rfl) (heap_alloc_new w _) (by omega) ?_; intro v' w' ho' hbl; replace ho' := hide ho'; replace hbl := hide hbl)
  go_end0
  exact ⟨rfl, ho'.out, (World.grownBy_alloc w _ _).trans hbl.out⟩

set_option maxHeartbeats 1000000 in
theorem scRuns (xs : List (Int × Int)) (a : Option Addr) (c base : Nat) (w : World) (h : Hid (OwnP w base 27 (.slice a xs.length c) xs)) (l : xs.length < 2 ^ 39) :
    Calls Yabn.prog 90 #[.slice a xs.length c] w (RetMod (.slice a xs.length c) w) := by
  obtain ⟨n, hn⟩ : ∃ n, n = xs.length := ⟨_, rfl⟩
  rw [← hn] at h l ⊢
  go_enter Yabn.func90, Yabn.ntmps90
  go_wp2
  go_loopw [2] (fun i wr => ∃ (k : Nat) (ys : List (Int × Int)), i = .int .i64 k ∧ k ≤ n ∧ Hid (n = ys.length) ∧ Hid (OwnP wr base 27 (.slice a n c) ys) ∧ Hid (w.grownBy wr (Value.slice a n c).ownBlock)) (fun i _ => n - (intOf i).toNat)
  case atStart => exact ⟨0, xs, rfl, by omega, hn, h, World.grownBy.refl w _⟩
  obtain ⟨k, ys, rfl, hk, hys, hown, hbel⟩ := hrel
  by_cases hlt : k < n
  · have hlt' : (k : Int) < n := by omega
    have hky : k < ys.length := by have := hys.out; omega
    obtain ⟨g, rfl⟩ : ∃ g, a = some ⟨g, 0, none⟩ := by
      obtain ⟨p, q, e, hf⟩ := hown.out.form
      injection e with e1
      subst e1
      rcases hf with ⟨rfl, _⟩ | hf
      · obtain ⟨_, _, e, _⟩ := (OwnP.pairs hown.out) k hky
        cases e
      · exact hf
    have hc := (OwnP.pairs hown.out).at k hky
    have hlts := OwnP.lt hown.out
    have hs1 := fun u => OwnP.stored1 hown.out hys.out k hky u
    have hf1 := OwnP.frozenAt hown.out hys.out (k * 2)
    have hf2 := OwnP.frozenAt hown.out hys.out (k * 2 + 1)
    generalize ys.getD k (0, 0) = y at *
    obtain ⟨y1, y2⟩ := y
    obtain ⟨hc1, hc2⟩ := hc
    simp only [Nat.zero_add] at hc1 hc2 hs1
    replace hs1 := hide hs1
    replace hys := hide hys
    go_wp2
    go_roundw
    case rel =>
      refine ⟨k + 1, _, by go_num, by omega, ?_, OwnP.stored2 (hs1.out _) ?_ k (by simp; exact hky) _, (hbel.out.trans (grown_setCell wr ⟨g, k * 2, none⟩ _)).trans (grown_setCell _ ⟨g, k * 2 + 1, none⟩ _)⟩
      · simp only [List.length_set]; exact hys.out
      · simp only [List.length_set]; exact hys.out
    case measure => simp [intOf]; omega
  · obtain rfl : k = n := by omega
    clear hlt hk
    go_wp2
    go_end0
    exact ⟨rfl, hbel.out⟩

set_option maxHeartbeats 1000000 in
theorem incRuns (xs : List (Int × Int)) (a : Option Addr) (c base : Nat) (w : World) (h : Hid (OwnP w base 27 (.slice a xs.length c) xs)) (l : xs.length < 2 ^ 39) :
    Calls Yabn.prog 144 #[.slice a xs.length c] w (RetOwnP 27 (.slice a xs.length c) base (xs.map incP) w) := by
  go_enter Yabn.func144, Yabn.ntmps144
  go_wp2
  go_loopw [2] (fun i wr => ∃ (k : Nat), i = .int .i64 k ∧ k ≤ xs.length ∧ Hid (OwnP wr base 27 (.slice a xs.length c) (modTo incP xs k)) ∧ Hid (w.grownBy wr (Value.slice a xs.length c).ownBlock)) (fun i _ => xs.length - (intOf i).toNat)
  case atStart => exact ⟨0, rfl, by omega, by rw [modTo_zero]; exact h, World.grownBy.refl w _⟩
  obtain ⟨k, rfl, hk, hown, hbel⟩ := hrel
  by_cases hlt : k < xs.length
  · have hlt' : (k : Int) < xs.length := by omega
    have hml := modTo_len incP xs k
    have hky : k < (modTo incP xs k).length := by omega
    obtain ⟨g, rfl⟩ : ∃ g, a = some ⟨g, 0, none⟩ := by
      obtain ⟨p, q, e, hf⟩ := hown.out.form
      injection e with e1
      subst e1
      rcases hf with ⟨rfl, _⟩ | hf
      · obtain ⟨_, _, e, _⟩ := (OwnP.pairs hown.out) k hky
        cases e
      · exact hf
    have hc := (OwnP.pairs hown.out).at k hky
    have hlts := OwnP.lt hown.out
    have hs1 : ∀ u1 u2, OwnP ((wr.setCell ⟨g, k * 2, none⟩ (.int .i64 u1)).setCell ⟨g, k * 2 + 1, none⟩ (.int .i64 u2)) base 27 (.slice (some ⟨g, 0, none⟩) xs.length c) ((modTo incP xs k).set k (u1, u2)) := fun u1 u2 => by
      have e1 := OwnP.stored1 hown.out hml.symm k hky u1
      have e2 := OwnP.stored2 e1 (by rw [List.length_set]; exact hml.symm) k (by rw [List.length_set]; exact hky) u2
      refine e2.congr ?_
      rw [List.set_set]
      congr 1
      simp [List.getD_eq_getElem?_getD, List.getElem?_set_self hky]
    have hf1 := OwnP.frozenAt hown.out hml.symm (k * 2)
    have hf2 := OwnP.frozenAt hown.out hml.symm (k * 2 + 1)
    rw [modTo_get incP xs (0, 0) k hlt] at hc
    have hst := (hs1 (inc1 (xs.getD k (0, 0)).1) (inc1 (xs.getD k (0, 0)).2)).congr (modTo_set incP xs (0, 0) k hlt)
    clear hs1
    generalize xs.getD k (0, 0) = y at *
    obtain ⟨y1, y2⟩ := y
    obtain ⟨hc1, hc2⟩ := hc
    simp only [Nat.zero_add] at hc1 hc2 hst
    replace hst := hide hst
    clear hml hky
    go_wp2
    go_roundw
    case rel => exact ⟨k + 1, by go_num, by omega, hst.out, (hbel.out.trans (grown_setCell wr ⟨g, k * 2, none⟩ _)).trans (grown_setCell _ ⟨g, k * 2 + 1, none⟩ _)⟩
    case measure => simp [intOf]; omega
  · obtain rfl : k = xs.length := by omega
    clear hlt hk
    rw [modTo_all] at hown
    go_wp2
    go_end0
    exact ⟨rfl, hown.out, hbel.out⟩

set_option maxHeartbeats 1000000 in
theorem incLRuns (xs : List (Int × Int)) (a : Option Addr) (c base : Nat) (w : World) (h : Hid (OwnP w base 185 (.slice a xs.length c) xs)) (l : xs.length < 2 ^ 39) :
    Calls Yabn.prog 143 #[.slice a xs.length c] w (RetOwnP 185 (.slice a xs.length c) base (xs.map incP) w) := by
  go_enter Yabn.func143, Yabn.ntmps143
  go_wp2
  go_loopw [2] (fun i wr => ∃ (k : Nat), i = .int .i64 k ∧ k ≤ xs.length ∧ Hid (OwnP wr base 185 (.slice a xs.length c) (modTo incP xs k)) ∧ Hid (w.grownBy wr (Value.slice a xs.length c).ownBlock)) (fun i _ => xs.length - (intOf i).toNat)
  case atStart => exact ⟨0, rfl, by omega, by rw [modTo_zero]; exact h, World.grownBy.refl w _⟩
  obtain ⟨k, rfl, hk, hown, hbel⟩ := hrel
  by_cases hlt : k < xs.length
  · have hlt' : (k : Int) < xs.length := by omega
    have hml := modTo_len incP xs k
    have hky : k < (modTo incP xs k).length := by omega
    obtain ⟨g, rfl⟩ : ∃ g, a = some ⟨g, 0, none⟩ := by
      obtain ⟨p, q, e, hf⟩ := hown.out.form
      injection e with e1
      subst e1
      rcases hf with ⟨rfl, _⟩ | hf
      · obtain ⟨_, _, e, _⟩ := (OwnP.pairs hown.out) k hky
        cases e
      · exact hf
    have hc := (OwnP.pairs hown.out).at k hky
    have hlts := OwnP.lt hown.out
    have hs1 : ∀ u1 u2, OwnP ((wr.setCell ⟨g, k * 2, none⟩ (.int .i64 u1)).setCell ⟨g, k * 2 + 1, none⟩ (.int .i64 u2)) base 185 (.slice (some ⟨g, 0, none⟩) xs.length c) ((modTo incP xs k).set k (u1, u2)) := fun u1 u2 => by
      have e1 := OwnP.stored1 hown.out hml.symm k hky u1
      have e2 := OwnP.stored2 e1 (by rw [List.length_set]; exact hml.symm) k (by rw [List.length_set]; exact hky) u2
      refine e2.congr ?_
      rw [List.set_set]
      congr 1
      simp [List.getD_eq_getElem?_getD, List.getElem?_set_self hky]
    have hf1 := OwnP.frozenAt hown.out hml.symm (k * 2)
    have hf2 := OwnP.frozenAt hown.out hml.symm (k * 2 + 1)
    rw [modTo_get incP xs (0, 0) k hlt] at hc
    have hst := (hs1 (inc1 (xs.getD k (0, 0)).1) (inc1 (xs.getD k (0, 0)).2)).congr (modTo_set incP xs (0, 0) k hlt)
    clear hs1
    generalize xs.getD k (0, 0) = y at *
    obtain ⟨y1, y2⟩ := y
    obtain ⟨hc1, hc2⟩ := hc
    simp only [Nat.zero_add] at hc1 hc2 hst
    replace hst := hide hst
    clear hml hky
    go_wp2
    go_roundw
    case rel => exact ⟨k + 1, by go_num, by omega, hst.out, (hbel.out.trans (grown_setCell wr ⟨g, k * 2, none⟩ _)).trans (grown_setCell _ ⟨g, k * 2 + 1, none⟩ _)⟩
    case measure => simp [intOf]; omega
  · obtain rfl : k = xs.length := by omega
    clear hlt hk
    rw [modTo_all] at hown
    go_wp2
    go_end0
    exact ⟨rfl, hown.out, hbel.out⟩

end Go.Proofs.Ybyabw
