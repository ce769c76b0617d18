/- Walks: laws.cpRuns, cpColumn, szColumn -/
import Derived.Test.YbyabwColM
namespace Go.Proofs.Ybyabw
open Go.RowKit
set_option maxRecDepth 100000
set_option linter.unusedVariables false

theorem size_col5 : (Yabn.prog.info? 29).map (·.size) = some 5 := by kernel_rfl
theorem size_run2 : (Yabn.prog.info? 27).map (·.size) = some 2 := by kernel_rfl
def runRows (xs : List (Int × Int)) : List (List Value) := xs.map fun p => [.int .i64 p.1, .int .i64 p.2]
theorem runRows_len (xs : List (Int × Int)) : (runRows xs).length = xs.length := by simp [runRows]
theorem runRows_flat (xs : List (Int × Int)) : (runRows xs).flatten = pairCells xs := by simp [runRows, pairCells, List.flatMap_def]
theorem runRows_at (xs : List (Int × Int)) (i : Nat) (h : i < xs.length) : (runRows xs).getD i [] = [.int .i64 (xs.getD i (0, 0)).1, .int .i64 (xs.getD i (0, 0)).2] := by
  simp [runRows, List.getElem?_eq_getElem h]
def fillQ (xs : List (List Value)) (z : List Value) (n k : Nat) : List (List Value) := xs.take k ++ List.replicate (n - k) z
theorem fillQ_zero (xs : List (List Value)) (z : List Value) (n : Nat) : fillQ xs z n 0 = List.replicate n z := by simp [fillQ]
theorem fillQ_full (xs : List (List Value)) (z : List Value) (n : Nat) (h : xs.length = n) : fillQ xs z n n = xs := by simp [fillQ, ← h]
theorem fillQ_len (xs : List (List Value)) (z : List Value) (n k : Nat) (h : xs.length = n) (hk : k ≤ n) : (fillQ xs z n k).length = n := by simp [fillQ]; omega
theorem fillQ_step (xs : List (List Value)) (z : List Value) (n k : Nat) (h : xs.length = n) (hk : k < n) : (fillQ xs z n k).set k (xs.getD k []) = fillQ xs z n (k + 1) := by
  unfold fillQ
  have hl : (xs.take k).length = k := by simp; omega
  rw [List.set_append_right _ _ (by omega), hl, Nat.sub_self]
  obtain ⟨m, hm⟩ : ∃ m, n - k = m + 1 := ⟨n - k - 1, by omega⟩
  have hm2 : n - (k + 1) = m := by omega
  have hk2 : k < xs.length := by omega
  have e : xs.take (k + 1) = xs.take k ++ [xs[k]] := List.take_succ_eq_append_getElem hk2
  have e2 : xs.getD k [] = xs[k] := by rw [List.getD_eq_getElem?_getD, List.getElem?_eq_getElem hk2]; rfl
  rw [hm, hm2, List.replicate_succ, List.set_cons_zero, e, e2, List.append_assoc]
  rfl
def runZ : List Value := [.int .i64 0, .int .i64 0]

section
variable {ops : Array Oper} {rest : List Oper} {o : Oper} {a : Act} {Q : Exit → Act → World → Prop} {w : World}
theorem mk_run (hg : o.guard = none) {l c : Operand} (hop : o.op = Op.makeSlice 25 l c)
    (n : Nat) (hl : a.eval l = .int .i64 n) (hc : a.eval c = .int .i64 n) (hb : n < 2 ^ 40) (N : Nat) (hN : w.heap.size = N)
    (hK : ∀ w', OwnV w' N 27 2 (.slice (some ⟨N, 0, none⟩) n n) (List.replicate n runZ) → Ext w w' → w'.heap.size = N + 1 → wpList Yabn.prog ops Q rest (a.put o.dst (.slice (some ⟨N, 0, none⟩) n n)) w') :
    wpList Yabn.prog ops Q (o :: rest) a w := by
  obtain ⟨i, h2, h3, h4, h5⟩ := info_parts info_run
  exact wpList_mkV hg hop 27 Yabn.underlying25 h2 h3 h4 (by omega) rfl (by omega) n hl hc hb N hN hK
end

set_option maxHeartbeats 1000000 in
theorem cpRuns_0 (a : Option Addr) (c : Nat) (ne : Bool) (w : World) : Calls Yabn.prog 86 #[.slice a 0 c, .bool ne] w (RetPairs 27 [] w) := by
  cases ne with
  | true =>
    go_enter Yabn.func86, Yabn.ntmps86
    go_wp2
    go_ret
    exact ⟨none, 0, rfl, OwnP.nil _ _ _, Ext.refl w⟩
  | false =>
    go_enter Yabn.func86, Yabn.ntmps86
    go_wp2
    go_ret
    exact ⟨some ⟨w.heap.size, 0, none⟩, 0, rfl, ownsRow_empty w _ 2, (Ext.refl w).alloc _⟩

set_option maxHeartbeats 1000000 in
theorem cpRuns_1 (xs : List (Int × Int)) (a : Option Addr) (c : Nat) (ne : Bool) (w : World) (h : Hid (PairsAt w a xs)) (l : xs.length < 2 ^ 39) (h0 : ((xs.length : Int) == 0) = false) :
    Calls Yabn.prog 86 #[.slice a xs.length c, .bool ne] w (RetPairs 27 xs w) := by
  go_enter Yabn.func86, Yabn.ntmps86
  go_wp2_with (at_make; refine mk_run rfl rfl xs.length rfl rfl (by omega) w.heap.size rfl ?_; intro w1 hown hx1 hsz; replace hown := hide hown; replace hx1 := hide hx1)
  go_loopw [6] (fun i wr => ∃ k : Nat, i = .int .i64 k ∧ k ≤ xs.length ∧ Hid (OwnV wr w.heap.size 27 2 (.slice (some ⟨w.heap.size, 0, none⟩) xs.length xs.length) (fillQ (runRows xs) runZ xs.length k)) ∧ Hid (Ext w wr)) (fun i _ => xs.length - (intOf i).toNat)
  case atStart => exact ⟨0, rfl, by omega, by rw [fillQ_zero]; exact hown, hx1⟩
  clear hown hx1 hsz
  obtain ⟨k, rfl, hk, hown, hext⟩ := hrel
  by_cases hlt : k < xs.length
  · have hlt' : (k : Int) < xs.length := by omega
    obtain ⟨b, off, rfl, g1, g2⟩ := (h.out.ext hext.out) k hlt
    have hstep := fillQ_step (runRows xs) runZ xs.length k (runRows_len xs) hlt
    have hfl := fillQ_len (runRows xs) runZ xs.length k (runRows_len xs) hk
    rw [runRows_at xs k hlt] at hstep
    have hb1 := cell_lt g1
    generalize xs.getD k (0, 0) = y at *
    obtain ⟨y1, y2⟩ := y
    simp only at g1 g2 hb1 hstep
    replace hstep := hide hstep
    replace hfl := hide hfl
    go_wp2
    refine Dr.region_text (by kernel_rfl) ?_
    go_wp2_with (refine wpList_storeV rfl rfl (i := k) (k := 2) (vs := [.int .i64 y1, .int .i64 y2]) (by rfl) (by rfl) (OwnV.drew hown.out) (by have := hfl.out; omega) size_run2 rfl (by simp [Value.oneCell']) ?_; intro w2 hown2 hgr; replace hgr := hide hgr; replace hown2 := hide hown2)
    refine ⟨by rfl, ?_⟩
    go_wp2
    go_roundw
    case rel =>
      refine ⟨k + 1, by go_num, by omega, hown2.out.congr hstep.out, hext.out.drew.grown hgr.out ?_⟩
      intro q hq; cases hq; exact Nat.le_refl _
    case measure => simp [intOf]; omega
  · obtain rfl : k = xs.length := by omega
    clear hlt hk
    rw [fillQ_full _ _ _ (runRows_len xs)] at hown
    have ho : OwnP wr w.heap.size 27 (.slice (some ⟨w.heap.size, 0, none⟩) xs.length xs.length) xs := by
      have := hown.out.2
      rw [runRows_len, runRows_flat] at this
      exact this
    replace ho := hide ho
    go_wp2
    go_ret
    exact ⟨_, _, rfl, ho.out, hext.out⟩

theorem cpRuns (xs : List (Int × Int)) (a : Option Addr) (c : Nat) (ne : Bool) (w : World) (h : Hid (PairsAt w a xs)) (l : xs.length < 2 ^ 39) :
    Calls Yabn.prog 86 #[.slice a xs.length c, .bool ne] w (RetPairs 27 xs w) := by
  cases xs with
  | nil => exact cpRuns_0 a c ne w
  | cons y ys => exact cpRuns_1 (y :: ys) a c ne w h l (by simp only [List.length_cons, beq_eq_false_iff_ne]; omega)

def RetIE (n : Int) (w : World) : Ending → World → Prop := fun e w' => e = .returned (.int .i64 n) ∧ Ext w w'
set_option maxHeartbeats 1000000 in
theorem szColumn (c : Col) (a1 a2 a3 a4 : Option Addr) (c1 c2 c3 c4 : Nat) (w : World) (hl : c.plain.length + c.dict.length + c.codes.length + c.runs.length ≤ 1048576) :
    Calls Yabn.prog 25 #[.agg (cellsC c a1 a2 a3 a4 c1 c2 c3 c4).toArray] w (RetIE (((c.plain.length : Int) + c.dict.length + c.codes.length + c.runs.length)) w) := by
  obtain ⟨kind, pl, di, co, ru⟩ := c
  simp only [cellsC] at hl ⊢
  go_enter Yabn.func25, Yabn.ntmps25
  go_wp2
  go_ret
  exact ⟨rfl, (Ext.refl w).alloc _⟩

set_option maxHeartbeats 4000000 in
theorem cpColumn (c : Col) (a1 a2 a3 a4 : Option Addr) (c1 c2 c3 c4 : Nat) (ne : Bool) (w : World) (h : Hid (ColAt w c a1 a2 a3 a4)) (hl : Hid (LenC c)) :
    Calls Yabn.prog 27 #[.agg (cellsC c a1 a2 a3 a4 c1 c2 c3 c4).toArray, .bool ne] w (RetC 27 c w) := by
  obtain ⟨kind, pl, di, co, ru⟩ := c
  have hbA : Box ((w.alloc (.cells #[.int .i64 kind, .slice a1 pl.length c1, .slice a2 di.length c2, .slice a3 co.length c3, .slice a4 ru.length c4] 29)).alloc (.cells #[.int .i64 0, .slice none 0 0, .slice none 0 0, .slice none 0 0, .slice none 0 0] 29)) w.heap.size _ := (Box.new w _ _).alloc _
  have hbZ : Blk ((w.alloc (.cells #[.int .i64 kind, .slice a1 pl.length c1, .slice a2 di.length c2, .slice a3 co.length c3, .slice a4 ru.length c4] 29)).alloc (.cells #[.int .i64 0, .slice none 0 0, .slice none 0 0, .slice none 0 0, .slice none 0 0] 29)) (w.heap.size + 1) 29 colZ5 := by
    have := Blk.new (w.alloc (.cells #[.int .i64 kind, .slice a1 pl.length c1, .slice a2 di.length c2, .slice a3 co.length c3, .slice a4 ru.length c4] 29)) #[.int .i64 0, .slice none 0 0, .slice none 0 0, .slice none 0 0, .slice none 0 0] 29
    simpa [colZ5] using this
  have hx0 : Ext w ((w.alloc (.cells #[.int .i64 kind, .slice a1 pl.length c1, .slice a2 di.length c2, .slice a3 co.length c3, .slice a4 ru.length c4] 29)).alloc (.cells #[.int .i64 0, .slice none 0 0, .slice none 0 0, .slice none 0 0, .slice none 0 0] 29)) := ((Ext.refl w).alloc _).alloc _
  have hs0 : ((w.alloc (.cells #[.int .i64 kind, .slice a1 pl.length c1, .slice a2 di.length c2, .slice a3 co.length c3, .slice a4 ru.length c4] 29)).alloc (.cells #[.int .i64 0, .slice none 0 0, .slice none 0 0, .slice none 0 0, .slice none 0 0] 29)).heap.size = w.heap.size + 2 := by simp
  have hl1 := hl.out.plain
  have hl2 := hl.out.dict
  have hl3 := hl.out.codes
  have hl4 := hl.out.runs
  simp only at hl1 hl2 hl3 hl4
  have hc1 : Hid (IntsAt w a1 pl) := h.out.plain
  have hc2 : Hid (IntsAt w a2 di) := h.out.dict
  have hc3 : Hid (IntsAt w a3 co) := h.out.codes
  have hc4 : Hid (PairsAt w a4 ru) := h.out.runs
  clear h hl
  simp only [cellsC]
  go_enter Yabn.func27, Yabn.ntmps27
  go_wp2
  generalize ((w.alloc (.cells #[.int .i64 kind, .slice a1 pl.length c1, .slice a2 di.length c2, .slice a3 co.length c3, .slice a4 ru.length c4] 29)).alloc (.cells #[.int .i64 0, .slice none 0 0, .slice none 0 0, .slice none 0 0, .slice none 0 0] 29)) = W at *
  have m0 := hbA 0 _ rfl
  have m1 := hbA 1 _ rfl
  replace hbA := hide hbA
  replace hbZ := hide hbZ
  replace hx0 := hide hx0
  refine Dr.region_held (fun b => b = w.heap.size) [1, 3, 7, 11, 15] (by kernel_rfl) ?_
  refine Dr.held_q5 (by rfl) ?_
  go_wp2
  refine Dr.held_act (by rfl) (by rfl) ?_
  go_wp2_with (go_at_call 82; refine (cpI64 pl a1 c1 ne _ (hc1.out.ext hx0.out.drew) hl1).mono ?_; rintro e w1 ⟨p1, q1, rfl, o1, x1⟩)
  refine ⟨fun b hb => x1.block b (by simp; omega), ?_⟩
  have X1 : Hid (Ext W w1) := (Ext.refl W).drew.trans x1
  have z1 := X1.out.size
  have m2 := (hbA.out.ext X1.out) 2 _ rfl
  replace o1 := hide o1
  clear x1 m0 m1
  refine Dr.held_q3 (by rfl) ?_
  go_wp2
  refine Dr.held_act (by rfl) (by rfl) ?_
  go_wp2_with (go_at_call 82; refine (cpI64 di a2 c2 ne _ (hc2.out.ext (hx0.out.trans X1.out)) hl2).mono ?_; rintro e w2 ⟨p2, q2, rfl, o2, x2⟩)
  refine ⟨fun b hb => x2.block b (by simp only at hb; omega), ?_⟩
  have X2 : Hid (Ext W w2) := X1.out.trans x2
  have z2 := X2.out.size
  have m3 := (hbA.out.ext X2.out) 3 _ rfl
  have hsep := hide (apart_base o1.out o2 (Nat.le_refl _))
  replace o1 := hide (o1.out.ext x2)
  replace o2 := hide (o2.mono z1)
  clear x2 m2
  refine Dr.held_q3 (by rfl) ?_
  go_wp2
  refine Dr.held_act (by rfl) (by rfl) ?_
  go_wp2_with (go_at_call 43; refine (cpInt co a3 c3 ne _ (hc3.out.ext (hx0.out.trans X2.out)) hl3).mono ?_; rintro e w3 ⟨p3, q3, rfl, o3, x3⟩)
  refine ⟨fun b hb => x3.block b (by simp only at hb; omega), ?_⟩
  have X3 : Hid (Ext W w3) := X2.out.trans x3
  have z3 := X3.out.size
  have m4 := (hbA.out.ext X3.out) 4 _ rfl
  replace o1 := hide (o1.out.ext x3)
  replace o2 := hide (o2.out.ext x3)
  replace o3 := hide (o3.mono z2)
  clear x3 m3
  refine Dr.held_q3 (by rfl) ?_
  go_wp2
  refine Dr.held_act (by rfl) (by rfl) ?_
  go_wp2_with (go_at_call 86; refine (cpRuns ru a4 c4 ne _ (hc4.out.ext (hx0.out.trans X3.out)) hl4).mono ?_; rintro e w4 ⟨p4, q4, rfl, o4, x4⟩)
  refine ⟨fun b hb => x4.block b (by simp only at hb; omega), ?_⟩
  have X4 : Hid (Ext W w4) := X3.out.trans x4
  have z4 := X4.out.size
  replace o1 := hide (o1.out.ext x4)
  replace o2 := hide (o2.out.ext x4)
  replace o3 := hide (o3.out.ext x4)
  replace o4 := hide (o4.mono z3)
  clear x4 m4
  refine Dr.held_act (by rfl) (by rfl) ?_
  go_wp2
  refine ⟨fun b hb => rfl, ?_⟩
  refine held_act1 (by rfl) (by rfl) ?_
  refine wpList_storeB (vs := cellsC ⟨kind, pl, di, co, ru⟩ p1 p2 p3 p4 q1 q2 q3 q4) rfl rfl (by rfl) (by rfl) (hbZ.out.ext X4.out) size_col5 rfl (cellsC_one _ _ _ _ _ _ _ _ _) ?_
  intro w5 hb5 hg5
  refine ⟨fun b hb => hg5.block b (by simp only at hb; omega) (by simp only at hb; simp; omega), ?_⟩
  have hk : ∀ i v, [Value.int .i64 kind, Value.slice a1 pl.length c1, Value.slice a2 di.length c2, Value.slice a3 co.length c3, Value.slice a4 ru.length c4][i]? = some v → w5.cell? ⟨w.heap.size, i, none⟩ = some v := fun i v hv => (Box.grown (hbA.out.ext X4.out) hg5 (by simp)) i v hv
  replace hb5 := hide hb5
  refine Dr.held_nil (by rfl) ⟨fun _ => ⟨w.heap.size, 0, rfl, rfl, Dr.isCells_of (hk 0 _ rfl)⟩, fun _ => ⟨w.heap.size, 1, rfl, rfl, Dr.isCells_of (hk 0 _ rfl)⟩, fun _ => ⟨w.heap.size, 2, rfl, rfl, Dr.isCells_of (hk 0 _ rfl)⟩, fun _ => ⟨w.heap.size, 3, rfl, rfl, Dr.isCells_of (hk 0 _ rfl)⟩, fun _ => ⟨w.heap.size, 4, rfl, rfl, Dr.isCells_of (hk 0 _ rfl)⟩, trivial⟩ ?_
  clear hk
  have hx5 : Ext w w5 := (hx0.out.trans X4.out).grown hg5 (by intro k hk; cases hk; omega)
  have r1 := (o1.out.kept hg5 (by simp only [World.drew]; omega)).mono (base' := w.heap.size) (by simp only [World.drew]; omega)
  have r2 := (o2.out.kept hg5 (by omega)).mono (base' := w.heap.size) (by omega)
  have r3 := (o3.out.kept hg5 (by omega)).mono (base' := w.heap.size) (by omega)
  have r4 := (o4.out.kept hg5 (by omega)).mono (base' := w.heap.size) (by omega)
  replace r1 := hide r1
  replace r2 := hide r2
  replace r3 := hide r3
  replace r4 := hide r4
  replace hx5 := hide hx5
  clear o1 o2 o3 o4 hg5
  go_wp2
  refine bodyPost_ret (results_cell1 rfl (by rfl) hb5.out Yabn.underlying29 size_col5) rfl ?_
  exact ⟨p1, p2, p3, p4, q1, q2, q3, q4, rfl, OwnC.make r1.out r2.out r3.out r4.out (apart_len hsep.out) (Nat.le_refl _), hx5.out⟩
end Go.Proofs.Ybyabw
