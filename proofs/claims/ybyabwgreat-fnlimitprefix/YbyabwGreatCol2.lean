/- Walks: impl.decodeCol -/
import Derived.Test.YbyabwGreatCol1
import Derived.Test.YbyabwGreatOwn
namespace Go.Proofs.YbyabwGreat
open Go.RowKit
set_option maxRecDepth 100000
set_option linter.unusedVariables false

theorem info_int64 : (Yabn.prog.info? 2).map (fun i => (i.zero, i.size, i.bytes)) = some (some (.int .i64 0), 1, 8) := by kernel_rfl
theorem info_int : (Yabn.prog.info? 3).map (fun i => (i.zero, i.size, i.bytes)) = some (some (.int .i64 0), 1, 8) := by kernel_rfl
theorem size_int64 : (Yabn.prog.info? 2).map (·.size) = some 1 := by kernel_rfl
theorem size_int : (Yabn.prog.info? 3).map (·.size) = some 1 := by kernel_rfl

section
variable {ops : Array Oper} {rest : List Oper} {o : Oper} {a : Act} {Q : Exit → Act → World → Prop} {w : World}
/-- make([]int64, n) -/
theorem mk_i64 (hg : o.guard = none) {l c : Operand} (hop : o.op = Op.makeSlice 23 l c) (n : Nat) (hl : a.eval l = .int .i64 n) (hc : a.eval c = .int .i64 n) (hb : n < 2 ^ 40) (N : Nat) (hN : w.heap.size = N)
    (hK : ∀ w', OwnI w' N 2 (.slice (some ⟨N, 0, none⟩) n n) (List.replicate n 0) → Ext w w' → w'.heap.size = N + 1 → wpList Yabn.prog ops Q rest (a.put o.dst (.slice (some ⟨N, 0, none⟩) n n)) w') :
    wpList Yabn.prog ops Q (o :: rest) a w := by
  obtain ⟨i, h2, h3, h4, h5⟩ := info_parts info_int64
  exact wpList_mkI hg hop 2 Yabn.underlying23 h2 h3 h4 h5 n hl hc hb N hN hK
/-- make([]int, n) -/
theorem mk_int (hg : o.guard = none) {l c : Operand} (hop : o.op = Op.makeSlice 44 l c) (n : Nat) (hl : a.eval l = .int .i64 n) (hc : a.eval c = .int .i64 n) (hb : n < 2 ^ 40) (N : Nat) (hN : w.heap.size = N)
    (hK : ∀ w', OwnI w' N 3 (.slice (some ⟨N, 0, none⟩) n n) (List.replicate n 0) → Ext w w' → w'.heap.size = N + 1 → wpList Yabn.prog ops Q rest (a.put o.dst (.slice (some ⟨N, 0, none⟩) n n)) w') :
    wpList Yabn.prog ops Q (o :: rest) a w := by
  obtain ⟨i, h2, h3, h4, h5⟩ := info_parts info_int
  exact wpList_mkI hg hop 3 Yabn.underlying44 h2 h3 h4 h5 n hl hc hb N hN hK
/-- make([]int64, 0, n) -/
theorem mk0_i64 (hg : o.guard = none) {c : Operand} (hop : o.op = Op.makeSlice 23 (.const (.int .i64 0)) c) (n : Nat) (hc : a.eval c = .int .i64 n) (hb : n < 2 ^ 40) (N : Nat) (hN : w.heap.size = N)
    (hK : ∀ w', OwnI w' N 2 (.slice (some ⟨N, 0, none⟩) 0 n) [] → Ext w w' → w'.heap.size = N + 1 → wpList Yabn.prog ops Q rest (a.put o.dst (.slice (some ⟨N, 0, none⟩) 0 n)) w') :
    wpList Yabn.prog ops Q (o :: rest) a w := by
  obtain ⟨i, h2, h3, h4, h5⟩ := info_parts info_int64
  exact wpList_mk0 hg hop 2 Yabn.underlying23 h2 h3 h4 (by omega) n hc hb N hN hK
/-- append(s, x) -/
theorem app_i64 (hg : o.guard = none) {s x : Operand} (ho : o.op = .call { callee := .builtin .append, args := #[s, x], argTypes := #[23, 23] })
    (base : Nat) (hE : base ≤ w.heap.size) (v : Value) (xs : List Int) (y : Int) (hs : a.eval s = v) (hown : OwnI w base 2 v xs)
    (B c : Nat) (hx : a.eval x = .slice (some ⟨B, 0, none⟩) 1 c) (hblk : w.heap[B]? = some (.cells #[.int .i64 y] 2 (0, 0))) (hb : xs.length < 2 ^ 39)
    (h : ∀ g cap w', OwnI w' base 2 (.slice (some ⟨g, 0, none⟩) (xs.length + 1) cap) (xs ++ [y]) → w.grownBy w' v.ownBlock → (v.ownBlock = some g ∨ g = w.heap.size) → g < w'.heap.size →
      wpList Yabn.prog ops Q rest (a.put o.dst (.slice (some ⟨g, 0, none⟩) (xs.length + 1) cap)) w') : wpList Yabn.prog ops Q (o :: rest) a w := by
  obtain ⟨i, h2, h3, h4, h5⟩ := info_parts info_int64
  exact wpList_appI hg ho 2 Yabn.underlying23 h2 h3 h4 h5 base hE v xs y hs hown B c hx hblk hb h
theorem app_int (hg : o.guard = none) {s x : Operand} (ho : o.op = .call { callee := .builtin .append, args := #[s, x], argTypes := #[44, 44] })
    (base : Nat) (hE : base ≤ w.heap.size) (v : Value) (xs : List Int) (y : Int) (hs : a.eval s = v) (hown : OwnI w base 3 v xs)
    (B c : Nat) (hx : a.eval x = .slice (some ⟨B, 0, none⟩) 1 c) (hblk : w.heap[B]? = some (.cells #[.int .i64 y] 3 (0, 0))) (hb : xs.length < 2 ^ 39)
    (h : ∀ g cap w', OwnI w' base 3 (.slice (some ⟨g, 0, none⟩) (xs.length + 1) cap) (xs ++ [y]) → w.grownBy w' v.ownBlock → (v.ownBlock = some g ∨ g = w.heap.size) → g < w'.heap.size →
      wpList Yabn.prog ops Q rest (a.put o.dst (.slice (some ⟨g, 0, none⟩) (xs.length + 1) cap)) w') : wpList Yabn.prog ops Q (o :: rest) a w := by
  obtain ⟨i, h2, h3, h4, h5⟩ := info_parts info_int
  exact wpList_appI hg ho 3 Yabn.underlying44 h2 h3 h4 h5 base hE v xs y hs hown B c hx hblk hb h
end


set_option maxHeartbeats 1000000 in
theorem decodeCol_0 (pl di co : List Int) (ru : List (Int × Int)) (a1 a2 a3 a4 : Option Addr) (c1 c2 c3 c4 : Nat) (n : Nat) (w : World) (h : Hid (ColAt w ⟨0, pl, di, co, ru⟩ a1 a2 a3 a4)) (hn : n ≤ 65536) (hp : Hid (pl.length = n)) :
    Calls Yabn.prog 79 #[colArg 0 pl di co ru a1 a2 a3 a4 c1 c2 c3 c4, .int .i64 n] w (RetInts 2 pl w) := by
  have l1 : pl.length < 2 ^ 40 := by have := hp.out; omega
  go_enter Yabn.func79, Yabn.ntmps79
  go_wp2_with (first | (at_make; refine mk_i64 rfl rfl n rfl rfl (by omega) (w.heap.size + 1) (by simp) ?_; intro w1 hown hx1 hsz; have hbox := (Box.new w _ _).ext hx1; have f0 := hbox 0 _ rfl; have f1 := hbox 1 _ rfl; replace hown := hide hown; replace hbox := hide hbox) | (refine wpList_cpI rfl rfl 2 Yabn.underlying23 size_int64 (w.heap.size + 1) (w.heap.size + 1) n n (List.replicate n 0) pl (by rfl) (by simp) (unhide hown) a1 pl.length c1 (by rfl) rfl (h.out.plain.ext (((Ext.refl w).alloc _).trans hx1)) (by simp [hp.out]) ?_; intro w2 hown2 hgr; replace hown2 := hide hown2; replace hgr := hide hgr))
  have hx2 : Ext w w2 := (((Ext.refl w).alloc _).trans hx1).grown (unhide hgr) (by intro k hk; cases hk; omega)
  go_ret
  have : n = pl.length := hp.out.symm
  subst this
  exact ⟨_, _, rfl, (unhide hown2).mono (by omega), hx2⟩

set_option maxHeartbeats 1000000 in
theorem decodeCol_1 (pl di co : List Int) (ru : List (Int × Int)) (a1 a2 a3 a4 : Option Addr) (c1 c2 c3 c4 : Nat) (n : Nat) (w : World) (h : Hid (ColAt w ⟨1, pl, di, co, ru⟩ a1 a2 a3 a4)) (hn : n ≤ 65536) (hp : Hid (co.length = n)) (hco : Hid (CodesOK ⟨1, pl, di, co, ru⟩)) (xs : List Int) (hxs : Hid (xs.length = n ∧ ∀ i, i < n → xs.getD i 0 = di.getD (co.getD i 0).toNat 0)) :
    Calls Yabn.prog 79 #[colArg 1 pl di co ru a1 a2 a3 a4 c1 c2 c3 c4, .int .i64 n] w (RetInts 2 xs w) := by
  have l1 : co.length < 2 ^ 40 := by have := hp.out; omega
  go_enter Yabn.func79, Yabn.ntmps79
  go_wp2_with (at_make; refine mk_i64 rfl rfl n rfl rfl (by omega) (w.heap.size + 1) (by simp) ?_; intro w1 hown hx1 hsz; have hbox := (Box.new w _ _).ext hx1; have f0 := hbox 0 _ rfl; replace hown := hide hown; replace hbox := hide hbox)
  have hx2 : Ext w w1 := (((Ext.refl w).alloc _).trans hx1)
  clear f0 hx1 hsz
  go_loopw [6] (fun i wr => ∃ k : Nat, i = .int .i64 k ∧ k ≤ n ∧ Hid (OwnI wr (w.heap.size + 1) 2 (.slice (some ⟨w.heap.size + 1, 0, none⟩) n n) (fillTo xs n k)) ∧ Hid (Ext w wr) ∧ Hid (Box wr w.heap.size [.int .i64 1, .slice a1 pl.length c1, .slice a2 di.length c2, .slice a3 co.length c3, .slice a4 ru.length c4])) (fun i _ => n - (intOf i).toNat)
  case atStart => exact ⟨0, rfl, by omega, by rw [fillTo_zero]; exact hown, hx2, hbox⟩
  clear hown hbox hx2
  obtain ⟨k, rfl, hk, hown, hext, hbox⟩ := hrel
  by_cases hlt : k < n
  · have f2 := hbox.out 2 _ rfl
    have f3 := hbox.out 3 _ rfl
    have hlt' : (k : Int) < n := by omega
    have hco' : Hid (co.length = n) := hp
    obtain ⟨b, off, rfl, hc⟩ := (h.out.codes.ext hext.out) k (by have := hp.out; simp only; omega)
    have hkc := hco.out k (by have := hp.out; simp only; omega)
    simp only at hc hkc
    generalize HX : co.getD k 0 = x at hc hkc
    obtain ⟨x', rfl⟩ := Int.eq_ofNat_of_zero_le hkc.1
    obtain ⟨b2, off2, rfl, hd⟩ := (h.out.dict.ext hext.out) x' (by simp only; omega)
    simp only at hd
    generalize HY : di.getD x' 0 = y at hd
    have hcl : (k : Int) < co.length := by have := hp.out; omega
    have hlen := length_fillTo xs n k hxs.out.1 hk
    have g1 := (OwnI.cellAt hown.out k (by omega))
    have g2 := (OwnI.frozenAt hown.out hlen.symm k)
    generalize (fillTo xs n k).getD k 0 = q at g1
    have hset := fillTo_set xs n k hxs.out.1 hlt
    have hval := hxs.out.2 k hlt
    rw [HX, Int.toNat_natCast, HY] at hval
    rw [hval] at hset
    have hst := (OwnI.stored hown.out hlen.symm k y).congr hset
    replace hst := hide hst
    clear HX HY hset hval hlen
    go_wp2
    refine Dr.region_text (by kernel_rfl) ?_
    go_wp2
    refine ⟨by rfl, ?_⟩
    go_wp2
    go_roundw
    case rel => exact ⟨k + 1, by go_num, by omega, hst, hext.out.drew.setCell (by simp) _, (Box.drew hbox.out).setCell (by simp) _⟩
    case measure => simp [intOf]; omega
  · have : k = n := by omega
    subst this
    go_wp2
    go_ret
    have hl := hxs.out.1
    rw [fillTo_all xs k hl] at hown
    subst hl
    exact ⟨_, _, rfl, hown.out.mono (by omega), hext⟩

set_option maxHeartbeats 1000000 in
theorem decodeCol_2 (pl di co : List Int) (ru : List (Int × Int)) (a1 a2 a3 a4 : Option Addr) (c1 c2 c3 c4 : Nat) (n : Nat) (w : World) (h : Hid (ColAt w ⟨2, pl, di, co, ru⟩ a1 a2 a3 a4)) (hn : n ≤ 65536) (hr : Hid (RunsOK ru)) (hl4 : ru.length ≤ 65536) (hp : Hid (sumTo ru ru.length = n)) :
    Calls Yabn.prog 79 #[colArg 2 pl di co ru a1 a2 a3 a4 c1 c2 c3 c4, .int .i64 n] w (RetInts 2 (decRuns ru) w) := by
  have hlen : (decRuns ru).length = n := by
    have := decRuns_len ru ru.length (Nat.le_refl _) (fun i hi => hr.out.2 i hi)
    rw [List.take_length] at this
    have := hp.out
    omega
  have hmono : ∀ k, k < ru.length → 0 ≤ sumTo ru k ∧ sumTo ru k + (ru.getD k (0, 0)).2 ≤ n := by
    intro k hk
    have e1 := decRuns_len ru k (by omega) (fun i hi => hr.out.2 i (by omega))
    have e2 := decRuns_len ru (k + 1) (by omega) (fun i hi => hr.out.2 i (by omega))
    have e3 := sumTo_succ ru k hk
    have e4 : (decRuns (ru.take (k + 1))).length ≤ (decRuns ru).length := by
      conv => rhs; rw [← List.take_append_drop (k + 1) ru, decRuns_append]
      simp
    omega
  replace hlen := hide hlen
  replace hmono := hide hmono
  go_enter Yabn.func79, Yabn.ntmps79
  go_wp2_with (at_make; refine mk_i64 rfl rfl n rfl rfl (by omega) (w.heap.size + 1) (by simp) ?_; intro w1 hown hx1 hsz; have hbox := (Box.new w _ _).ext hx1; have f0 := hbox 0 _ rfl; have f4 := hbox 4 _ rfl; replace hown := hide hown)
  have hx2 : Ext w w1 := (((Ext.refl w).alloc _).trans hx1)
  clear f0 f4 hx1 hbox
  go_loopw [7, 45] (fun p i wr => ∃ k : Nat, i = .int .i64 k ∧ k ≤ ru.length ∧ p = .int .i64 (sumTo ru k) ∧ Hid (OwnI wr (w.heap.size + 1) 2 (.slice (some ⟨w.heap.size + 1, 0, none⟩) n n) (fillTo (decRuns ru) n (sumTo ru k).toNat)) ∧ Hid (Ext w wr) ∧ w.heap.size + 1 < wr.heap.size) (fun _ i _ => ru.length - (intOf i).toNat)
  case atStart => exact ⟨0, rfl, by omega, rfl, by rw [sumTo_zero, Int.toNat_zero, fillTo_zero]; exact hown, hx2, by omega⟩
  clear hown hx2
  obtain ⟨k, rfl, hk, rfl, hown, hext, hsz1⟩ := hrel
  obtain ⟨W, rfl⟩ : ∃ W, W = wr := ⟨_, rfl⟩
  by_cases hlt : k < ru.length
  · obtain ⟨b, off, rfl, hc, hd⟩ := (h.out.runs.ext hext.out) k hlt
    have hlt' : (k : Int) < ru.length := by omega
    have hss : Hid _ := sumTo_succ ru k hlt
    have hm := hmono.out k hlt
    have hat := fun j hj => decRuns_at ru k j hlt hr.out.2 hj
    have hb : b < W.heap.size := cell_lt hc
    have hy1 := hr.out.2 k hlt
    simp only at hc hd
    generalize (ru.getD k (0, 0)).1 = x at hc hat
    generalize (ru.getD k (0, 0)).2 = y at hd hss hat hm hy1
    generalize sumTo ru k = sk at *
    obtain ⟨s, rfl⟩ := Int.eq_ofNat_of_zero_le hm.1
    obtain ⟨q, rfl⟩ := Int.eq_ofNat_of_zero_le (show 0 ≤ y by omega)
    rw [Int.toNat_natCast] at hown
    replace hat : Hid _ := hat
    go_wp2
    go_loopw [7, 10] (fun p i wq => ∃ j : Nat, i = .int .i64 j ∧ j ≤ q ∧ p = .int .i64 ((s : Int) + j) ∧ Hid (OwnI wq (w.heap.size + 1) 2 (.slice (some ⟨w.heap.size + 1, 0, none⟩) n n) (fillTo (decRuns ru) n (s + j))) ∧ Hid (Ext w wq) ∧ Hid (Box wq W.heap.size [.int .i64 x, .int .i64 q]) ∧ W.heap.size < wq.heap.size) (fun _ i _ => q - (intOf i).toNat)
    case atStart => exact ⟨0, rfl, by omega, by simp, hown.out.alloc _, hext.out.alloc _, Box.new W _ _, by simp⟩
    clear hown
    have hsz := hext.out.size
    obtain ⟨j, rfl, hj, rfl, hown, hext2, hbox, hsz2⟩ := hrel
    have g0 := hbox.out 0 _ rfl
    have g1 := hbox.out 1 _ rfl
    by_cases hjq : j < q
    · have hjq' : (j : Int) < q := by omega
      have hsn : (s : Int) + j < n := by omega
      have hlf := length_fillTo (decRuns ru) n (s + j) hlen.out (by omega)
      have g2 := (OwnI.cellAt hown.out (s + j) (by omega))
      have g3 := (OwnI.frozenAt hown.out hlf.symm (s + j))
      generalize (fillTo (decRuns ru) n (s + j)).getD (s + j) 0 = z at g2
      have hset := fillTo_set (decRuns ru) n (s + j) hlen.out (by omega)
      have hv := hat.out j (by omega)
      rw [Int.toNat_natCast] at hv
      rw [hv] at hset
      have hst := (OwnI.stored hown.out hlf.symm (s + j) x).congr hset
      replace hst := hide hst
      have hne : w.heap.size + 1 ≠ W.heap.size := by omega
      clear hset hv hlf
      go_wp2
      go_roundw
      case rel => exact ⟨j + 1, by go_num, by omega, by go_num, hst, hext2.out.setCell (by simp) _, (unhide hbox).setCell hne _, by simpa using hsz2⟩
      case measure => simp [intOf]; omega
    · have : j = q := by omega
      subst this
      go_wp2
      go_roundw
      case rel => exact ⟨k + 1, by go_num, by omega, by rw [hss.out], by rw [hss.out, show ((s : Int) + (j : Int)).toNat = s + j from by omega]; exact hown, hext2, by omega⟩
      case measure => simp [intOf]; omega
  · have : k = ru.length := by omega
    subst this
    go_wp2
    go_ret
    have hl := hlen.out
    rw [hp.out, Int.toNat_natCast, fillTo_all (decRuns ru) n hl] at hown
    subst hl
    exact ⟨_, _, rfl, hown.out.mono (by omega), hext⟩

theorem getD_map_dec (di co : List Int) (i : Nat) (h : i < co.length) : (co.map fun k => di.getD k.toNat 0).getD i 0 = di.getD (co.getD i 0).toNat 0 := by
  simp [List.getD_eq_getElem?_getD, List.getElem?_eq_getElem h]

/-- decodeCol on a valid column. -/
theorem decodeCol (kind : Int) (pl di co : List Int) (ru : List (Int × Int)) (a1 a2 a3 a4 : Option Addr) (c1 c2 c3 c4 : Nat) (n : Nat) (w : World) (h : ColAt w ⟨kind, pl, di, co, ru⟩ a1 a2 a3 a4) (hv : Valid ⟨kind, pl, di, co, ru⟩ n) :
    Calls Yabn.prog 79 #[colArg kind pl di co ru a1 a2 a3 a4 c1 c2 c3 c4, .int .i64 n] w (RetInts 2 (dec ⟨kind, pl, di, co, ru⟩) w) := by
  obtain ⟨h0, h1, ⟨k0, hp⟩ | ⟨k1, hd, hri, hl, hco⟩ | ⟨k2, hr, hs⟩⟩ := hv
  · simp only at k0 hp
    subst k0
    exact decodeCol_0 pl di co ru a1 a2 a3 a4 c1 c2 c3 c4 n w h (by omega) (by show _ = _; omega)
  · simp only at k1 hl
    subst k1
    have hl' : co.length = n := by omega
    refine decodeCol_1 pl di co ru a1 a2 a3 a4 c1 c2 c3 c4 n w h (by omega) hl' hco _ ⟨by simp [dec, hl'], fun i hi => ?_⟩
    simp only [dec]
    exact getD_map_dec di co i (by omega)
  · simp only at k2 hr hs
    subst k2
    exact decodeCol_2 pl di co ru a1 a2 a3 a4 c1 c2 c3 c4 n w h (by omega) hr hr.1 hs

end Go.Proofs.YbyabwGreat
