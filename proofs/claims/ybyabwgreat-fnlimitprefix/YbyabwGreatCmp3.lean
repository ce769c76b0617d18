/- Walk: impl.emitRoot -/
import Derived.Test.YbyabwGreatCmp2
import Derived.Test.YbyabwGreatCmpP4
import Derived.Test.YbyabwGreatPrs0
import Derived.Deep.LoopGhost
namespace Go.Proofs.YbyabwGreat
open Go.RowKit
set_option maxRecDepth 100000
set_option linter.unusedVariables false
set_option linter.unusedSimpArgs false

/-- What a call may change that appends to a row of its caller's: blocks of that type from base on. -/
def IsT (t : TypeId) (w : World) (q : Nat) : Prop := ∃ cur r, w.heap[q]? = some (.cells cur t r)
def FrT (t : TypeId) (base : Nat) (w w' : World) : Prop := But (fun q => base ≤ q ∧ IsT t w q) w w'
section
variable {t : TypeId} {base : Nat} {w w1 w2 : World}
theorem FrT.refl (t : TypeId) (base : Nat) (w : World) : FrT t base w w := But.refl _ _
theorem FrT.of_ext (h : Ext w w1) : FrT t base w w1 := But.of_ext h
/-- A step that writes rows of the type from base on, or what is newer than w. -/
theorem FrT.step (h : FrT t base w w1) (k : But (fun q => (base ≤ q ∧ IsT t w1 q) ∨ w.heap.size ≤ q) w1 w2) : FrT t base w w2 :=
  ⟨k.os.trans h.os, k.tape.trans h.tape, k.output.trans h.output, Nat.le_trans h.size k.size, fun q hq hn => by
    have e1 := h.block q hq hn
    refine (k.block q (Nat.lt_of_lt_of_le hq h.size) (fun hh => ?_)).trans e1
    rcases hh with hh | hh
    · refine hn ⟨hh.1, ?_⟩
      obtain ⟨cur, r, e⟩ := hh.2
      exact ⟨cur, r, by rw [← e1]; exact e⟩
    · omega⟩
theorem FrT.trans (h : FrT t base w w1) (k : FrT t base w1 w2) : FrT t base w w2 := h.step (k.mono (fun q hq => .inl hq))
theorem FrT.ext (h : FrT t base w w1) (k : Ext w1 w2) : FrT t base w w2 := h.step (But.of_ext k)
theorem FrT.grown {size n : Nat} {v : Value} {xs : List Value} (hO : w.ownsRow base t size v n xs) (hg : w.grownBy w1 v.ownBlock) : FrT t base w w1 := But.of_grown hg (fun k hk => ⟨(World.ownsRow.lt hO k hk).1, by
  rcases hO.2 with ⟨rfl, _⟩ | ⟨g, cap, cur, rfl, _, hh, _⟩
  · cases hk
  · cases hk; exact ⟨cur, _, hh⟩⟩)
theorem FrT.cell (h : FrT t base w w1) {b o : Nat} {v : Value} {tt : TypeId} (hc : w.cell? ⟨b, o, none⟩ = some v) (ht : ∃ cur r, w.heap[b]? = some (.cells cur tt r)) (hne : tt ≠ t) : w1.cell? ⟨b, o, none⟩ = some v := by
  have hl := cell_lt hc
  have hb := h.block b hl (fun hh => by
    obtain ⟨cur, r, e⟩ := ht
    obtain ⟨_, cur', r', e'⟩ := hh
    rw [e] at e'
    injection e' with e'
    injection e' with _ e2
    exact hne e2)
  rw [World.cell?_of_block hb]
  exact hc
theorem FrT.row (h : FrT t base w w1) {base' size n : Nat} {tt : TypeId} {v : Value} {xs : List Value} (hO : w.ownsRow base' tt size v n xs) (hne : tt ≠ t) : w1.ownsRow base' tt size v n xs := But.row h hO (fun k hk hh => by
  rcases hO.2 with ⟨rfl, _⟩ | ⟨g, cap, cur, rfl, _, e, _⟩
  · cases hk
  · cases hk
    obtain ⟨_, cur', r', e'⟩ := hh
    rw [e] at e'
    injection e' with e'
    injection e' with _ e2
    exact hne e2)
theorem FrT.low (h : FrT t base w w1) {b o : Nat} {v : Value} (hc : w.cell? ⟨b, o, none⟩ = some v) (hb : b < base) : w1.cell? ⟨b, o, none⟩ = some v := by
  have hl := cell_lt hc
  rw [World.cell?_of_block (h.block b hl (fun hh => by omega))]
  exact hc
theorem NodesAt.butT {S : Nat → Prop} {a : Option Addr} {nd : List Nd} (h : NodesAt w a nd) (hb : But S w w1) (ha : ∀ p, a = some p → ¬ S p.block) : NodesAt w1 a nd := fun i hi => by
  obtain ⟨b, off, e, hc⟩ := h i hi
  refine ⟨b, off, e, fun j v hv => ?_⟩
  have := hc j v hv
  rw [World.cell?_of_block (hb.block b (cell_lt this) (ha _ e))]
  exact this
theorem FrT.nodes (h : FrT t base w w1) {a : Option Addr} {nd : List Nd} (hn : NodesAt w a nd) (ha : ∀ p, a = some p → p.block < base) : NodesAt w1 a nd :=
  hn.butT h (fun p hp hh => by have := ha p hp; omega)
end
def fmCells (f : Fm) : List Value := [.int .i64 f.x, .int .i64 f.st, .int .i64 f.a]
def frows (R : List Fm) : List (List Value) := R.reverse.map fmCells
def OwnF (w : World) (base : Nat) (v : Value) (R : List Fm) : Prop := OwnV w base 138 3 v (frows R)
theorem frows_len (R : List Fm) : (frows R).length = R.length := by simp [frows]
theorem frows_cons (f : Fm) (R : List Fm) : frows (f :: R) = frows R ++ [fmCells f] := by simp [frows]
section
variable {w w' : World} {base g n cap : Nat} {v : Value} {f : Fm} {R : List Fm}
theorem OwnF.form (h : OwnF w base v (f :: R)) : ∃ g cap, v = .slice (some ⟨g, 0, none⟩) (R.length + 1) cap := by
  obtain ⟨a, cap, e, hc⟩ := OwnV.form h
  rw [frows_len] at e hc
  rcases hc with ⟨_, _, h0⟩ | ⟨g, rfl⟩
  · simp at h0
  · exact ⟨g, cap, e⟩
theorem OwnF.nilform (h : OwnF w base v []) : ∃ a cap, v = .slice a 0 cap := by
  obtain ⟨a, cap, e, hc⟩ := OwnV.form h
  exact ⟨a, cap, e⟩
theorem OwnF.top (h : OwnF w base (.slice (some ⟨g, 0, none⟩) n cap) (f :: R)) : w.cell? ⟨g, R.length * 3, none⟩ = some (.int .i64 f.x) ∧ w.cell? ⟨g, R.length * 3 + 1, none⟩ = some (.int .i64 f.st) ∧ w.cell? ⟨g, R.length * 3 + 2, none⟩ = some (.int .i64 f.a) := by
  obtain ⟨b, off, e, hc⟩ := OwnV.rows h R.length (by rw [frows_len]; simp)
  cases e
  have e2 : (frows (f :: R)).getD R.length [] = fmCells f := by
    rw [frows_cons, List.getD_eq_getElem?_getD, List.getElem?_append_right (by rw [frows_len]; omega), frows_len]
    simp
  rw [e2] at hc
  have h0 := hc 0 _ rfl
  have h1 := hc 1 _ rfl
  have h2 := hc 2 _ rfl
  rw [Nat.zero_add] at h0 h1 h2
  exact ⟨h0, h1, h2⟩
theorem OwnF.put (h : OwnF w base (.slice (some ⟨g, 0, none⟩) n cap) (f :: R)) (j : Nat) (hj : j < 3) (u : Value) (f' : Fm) (hf : fmCells f' = (fmCells f).set j u) : OwnF (w.setCell ⟨g, R.length * 3 + j, none⟩ u) base (.slice (some ⟨g, 0, none⟩) n cap) (f' :: R) := by
  have h1 := OwnV.stored1 h R.length j (by rw [frows_len]; simp) hj u
  have e2 : (frows (f :: R)).getD R.length [] = fmCells f := by
    rw [frows_cons, List.getD_eq_getElem?_getD, List.getElem?_append_right (by rw [frows_len]; omega), frows_len]
    simp
  rw [e2, ← hf] at h1
  refine OwnV.congr h1 ?_
  rw [frows_cons, frows_cons, List.set_append_right _ _ (by rw [frows_len]; omega), frows_len, Nat.sub_self]
  rfl
theorem OwnF.pop (h : OwnF w base (.slice (some ⟨g, 0, none⟩) n cap) (f :: R)) : OwnF w base (.slice (some ⟨g, 0, none⟩) R.length cap) R := by
  obtain ⟨hw, h0, h1⟩ := h
  have hn : n = R.length + 1 := by
    rcases h1 with ⟨e, _⟩ | ⟨g', cap', cur, e, _⟩
    · cases e
    · cases e; rw [frows_len]; simp
  have hwR : Wide 3 (frows R) := fun x hx => hw x (by rw [frows_cons]; simp [hx])
  have hfl := hwR.flat
  rw [frows_len] at hfl
  refine ⟨hwR, by rw [hfl, frows_len], ?_⟩
  rcases h1 with ⟨e, _⟩ | ⟨g', cap', cur, e, k1, k2, k3, k4, k5, k6⟩
  · cases e
  · injection e with e1 e2 e3
    injection e1 with e1
    injection e1 with e1 _ _
    subst e1 e3
    rw [frows_len] at k3 k6 e2
    simp only [List.length_cons] at k3 k6
    refine .inr ⟨g, cap, cur, by rw [frows_len], k1, k2, by rw [frows_len]; omega, k4, k5, ?_⟩
    rw [frows_len]
    have : (frows (f :: R)).flatten = (frows R).flatten ++ fmCells f := by rw [frows_cons]; simp
    rw [this] at k6
    have h3 : cur.toList.take (R.length * 3) = (cur.toList.take ((R.length + 1) * 3)).take (R.length * 3) := by rw [List.take_take, Nat.min_eq_left (by omega)]
    rw [h3, k6, List.take_append_of_le_length (by omega), List.take_of_length_le (by omega)]
end
theorem info_frame : (Yabn.prog.info? 138).map (fun i => (i.zero, i.size, i.bytes)) = some (some (.agg #[.int .i64 0, .int .i64 0, .int .i64 0]), 3, 24) := by kernel_rfl
section
variable {ops : Array Oper} {rest : List Oper} {o : Oper} {a : Act} {Q : Exit → Act → World → Prop} {w : World}
theorem app_frame (hg : o.guard = none) {s x : Operand} (ho : o.op = .call { callee := .builtin .append, args := #[s, x], argTypes := #[139, 139] })
    (base : Nat) (hE : base ≤ w.heap.size) (v : Value) (R : List Fm) (y : Nat) (yi : Int) (hyi : yi = (y : Int)) (hs : a.eval s = v) (hown : OwnF w base v R)
    (B c : Nat) (hx : a.eval x = .slice (some ⟨B, 0, none⟩) 1 c) (hblk : w.heap[B]? = some (.cells #[.int .i64 yi, .int .i64 0, .int .i64 0] 138 (0, 0))) (hb : R.length < 2 ^ 39)
    (h : ∀ v' w', OwnF w' base v' (⟨y, 0, 0⟩ :: R) → w.grownBy w' v.ownBlock → wpList Yabn.prog ops Q rest (a.put o.dst v') w') : wpList Yabn.prog ops Q (o :: rest) a w := by
  subst hyi
  obtain ⟨i, h2, h3, h4, h5⟩ := info_parts info_frame
  refine wpList_appV hg ho 138 Yabn.underlying139 h2 h3 h4 (by omega) rfl (by omega) base hE v (frows R) (fmCells ⟨y, 0, 0⟩) hs hown B c hx hblk rfl (by simp [fmCells, Value.oneCell']) (by rw [frows_len]; exact hb) ?_
  intro g cap w' ho' hgr hor hlt
  refine h _ w' ?_ hgr
  unfold OwnF
  rw [frows_cons]
  exact ho'
end
/-- What a call of an emitter answers: the code of x behind code. -/
def RetEm (base : Nat) (p : List Nd × Int) (w : World) : Ending → World → Prop := fun en w' => ∃ v', en = .returned (.tuple #[v', .int .i64 p.2]) ∧ OwnN w' base 98 v' p.1 ∧ FrT 98 base w w'
end Go.Proofs.YbyabwGreat
