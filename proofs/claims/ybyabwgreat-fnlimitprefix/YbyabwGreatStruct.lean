/- Structs in memory: blocks known whole; stores of a struct; results that lie in memory. Seat-independent. -/
import Derived.Test.YbyabwGreatOwn
namespace Go.Proofs.YbyabwGreat
open Go.RowKit

/-- Block b is just vs. -/
def Blk (w : World) (b : Nat) (t : TypeId) (vs : List Value) : Prop := w.heap[b]? = some (.cells vs.toArray t (0, 0))

section
variable {w w' : World} {b : Nat} {t : TypeId} {vs : List Value}
theorem Blk.new (w : World) (cs : Array Value) (t : TypeId) : Blk (w.alloc (.cells cs t)) w.heap.size t cs.toList := by
  unfold Blk
  rw [heap_alloc_new]
theorem Blk.lt (h : Blk w b t vs) : b < w.heap.size := (Array.getElem?_eq_some_iff.1 h).1
theorem Blk.box (h : Blk w b t vs) : Box w b vs := by
  intro i v hv
  rw [cell_of_row w b i vs.toArray t (0, 0) h]
  simpa using hv
theorem Blk.frozen (h : Blk w b t vs) (i : Nat) : w.frozen? ⟨b, i, none⟩ = false := frozen_of_row w b i vs.toArray t h
theorem Blk.ext (h : Blk w b t vs) (he : Ext w w') : Blk w' b t vs := by
  unfold Blk
  rw [he.block b h.lt]
  exact h
theorem Blk.drew (h : Blk w b t vs) : Blk w.drew b t vs := h
theorem Blk.alloc (h : Blk w b t vs) (o : Obj) : Blk (w.alloc o) b t vs := h.ext ((Ext.refl w).alloc o)
theorem Blk.grown {row : Option Nat} (h : Blk w b t vs) (hg : w.grownBy w' row) (hr : row ≠ some b) : Blk w' b t vs := by
  unfold Blk
  rw [hg.block b h.lt (fun e => hr e.symm)]
  exact h
theorem Blk.setCell (h : Blk w b t vs) {p : Addr} (hp : p.block ≠ b) (u : Value) : Blk (w.setCell p u) b t vs := by
  unfold Blk
  rw [Below.heap_setCell w p u b (Ne.symm hp)]
  exact h
theorem Blk.stored (h : Blk w b t vs) (i : Nat) (u : Value) : Blk (w.setCell ⟨b, i, none⟩ u) b t (vs.set i u) := by
  unfold Blk
  rw [heap_setCell_same w b i vs.toArray t u h]
  simp
end

section
variable {P : Program} {ops : Array Oper} {rest : List Oper} {o : Oper} {a : Act} {Q : Exit → Act → World → Prop} {w : World}

/-- A struct stored into a block, at offset off. -/
theorem wpList_storeAt (hg : o.guard = none) {x y : Operand} {t : TypeId} (ho : o.op = .store t x y) {b off : Nat} {e : TypeId} {cur vs : List Value} (hx : a.eval x = .pointer (some ⟨b, off, none⟩)) (hy : a.eval y = .agg vs.toArray)
    (hb : Blk w b e cur) (hsz : (P.info? t).map (·.size) = some vs.length) (hl : off + vs.length ≤ cur.length) (h1 : ∀ u ∈ vs, u.oneCell' = true)
    (hK : ∀ w', Blk w' b e (cur.take off ++ vs ++ cur.drop (off + vs.length)) → w.grownBy w' (some b) → wpList P ops Q rest (a.put o.dst undef) w') : wpList P ops Q (o :: rest) a w := by
  refine wpList_plain hg fun K hK' => ?_
  cases hi : P.info? t with
  | none => rw [hi] at hsz; simp at hsz
  | some i =>
    rw [hi] at hsz
    simp at hsz
    have hst := run_storeCells_at (P := P) b off e vs 0 cur.toArray w hb (by simpa using hl) h1
    unfold Oper.wp
    simp [execOp, ho, hx, hy, Instr.storeAt, Instr.sureAddr, storeVar, sizeOf, typeInfo, hi, Value.cells, hsz, Result.andThen, hst]
    simp only [Nat.add_zero, List.append_assoc] at hst ⊢
    refine hK' _ _ (hK _ ?_ ⟨rfl, rfl, rfl, by simp [World.setRow], fun k _ hk => setRow_other w b k _ (fun e => hk (by simp [e]))⟩)
    unfold Blk
    rw [setRow_heap w b _ _ e _ hb]
    simp

/-- A struct stored over a whole block. -/
theorem wpList_storeB (hg : o.guard = none) {x y : Operand} {t : TypeId} (ho : o.op = .store t x y) {b : Nat} {e : TypeId} {cur vs : List Value} (hx : a.eval x = .pointer (some ⟨b, 0, none⟩)) (hy : a.eval y = .agg vs.toArray)
    (hb : Blk w b e cur) (hsz : (P.info? t).map (·.size) = some vs.length) (hl : vs.length = cur.length) (h1 : ∀ u ∈ vs, u.oneCell' = true)
    (hK : ∀ w', Blk w' b e vs → w.grownBy w' (some b) → wpList P ops Q rest (a.put o.dst undef) w') : wpList P ops Q (o :: rest) a w := by
  refine wpList_storeAt hg ho hx hy hb hsz (by omega) h1 fun w' hb' hgr => hK w' ?_ hgr
  simpa [hl] using hb'

theorem run_loadBlk {ty : TypeId} {b : Nat} {e : TypeId} {vs : List Value} {fs : Array Field} (hb : Blk w b e vs) (hu : P.underlying ty = some (.struct fs)) (hsz : (P.info? ty).map (·.size) = some vs.length) :
    (loadVar ty ⟨b, 0, none⟩).run P w = .ok (.agg vs.toArray) w := by
  cases hi : P.info? ty with
  | none => rw [hi] at hsz; simp at hsz
  | some i =>
    rw [hi] at hsz
    simp at hsz
    have hl := run_loadCells_list (P := P) w ⟨b, 0, none⟩ vs (fun j v hv => by
      have hadd : (⟨b, 0, none⟩ : Addr).add j = ⟨b, j, none⟩ := by unfold Addr.add; split <;> simp_all
      rw [hadd]
      exact hb.box j v hv)
    simp [loadVar, isAgg, run_underlying hu, sizeOf, typeInfo, hi, hsz, hl, Result.andThen]

theorem results_cell1 {fn : Func} {p : Tmp} {ty : TypeId} (h : fn.results = #[.cell p ty]) {tmps : Array Value} {b : Nat} {e : TypeId} {vs : List Value} {fs : Array Field} (hp : tmps.getD p undef = .pointer (some ⟨b, 0, none⟩))
    (hb : Blk w b e vs) (hu : P.underlying ty = some (.struct fs)) (hsz : (P.info? ty).map (·.size) = some vs.length) : (results fn tmps).run P w = .ok (.agg vs.toArray) w := by
  have hl := run_loadBlk (P := P) hb hu hsz
  have hp' : tmps[p]?.getD undef = .pointer (some ⟨b, 0, none⟩) := by rw [← hp]; simp
  simp only [results, h]
  simp [asAddr, hp', hl]

theorem results_cell2 {fn : Func} {p u : Tmp} {ty : TypeId} (h : fn.results = #[.cell p ty, .tmp u]) {tmps : Array Value} {b : Nat} {e : TypeId} {vs : List Value} {fs : Array Field} (hp : tmps.getD p undef = .pointer (some ⟨b, 0, none⟩))
    (hb : Blk w b e vs) (hu : P.underlying ty = some (.struct fs)) (hsz : (P.info? ty).map (·.size) = some vs.length) : (results fn tmps).run P w = .ok (.tuple #[.agg vs.toArray, tmps.getD u undef]) w := by
  have hl := run_loadBlk (P := P) hb hu hsz
  rw [results_cell_tmp h, hp]
  simp [asAddr, hl, Result.andThen]

end
end Go.Proofs.YbyabwGreat
