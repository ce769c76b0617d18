/- Slices of slices of int64. Walks: laws.eqRows, cpRows, scRows -/
import Derived.Test.YbyabwGreatTabM
namespace Go.Proofs.YbyabwGreat
open Go.RowKit
set_option maxRecDepth 100000
set_option linter.unusedVariables false

theorem info_row : (Yabn.prog.info? 23).map (fun i => (i.zero, i.size, i.bytes)) = some (some (.slice none 0 0), 1, 24) := by kernel_rfl
abbrev nilV : Value := .slice none 0 0
/-- n rows as they are read: row i is f i. -/
def IRows (w : World) (a : Option Addr) (n : Nat) (f : Nat → List Int) : Prop := ∀ i, i < n → ∃ b off a' c', a = some ⟨b, off, none⟩ ∧ w.cell? ⟨b, off + i, none⟩ = some (.slice a' (f i).length c') ∧ IntsAt w a' (f i)
theorem IRows.ext {w w' : World} {a : Option Addr} {n : Nat} {f : Nat → List Int} (h : IRows w a n f) (he : Ext w w') : IRows w' a n f := fun i hi => by
  obtain ⟨b, off, a', c', e, hc, hr⟩ := h i hi
  exact ⟨b, off, a', c', e, he.cell hc, hr.ext he⟩
theorem IRows.congr {w : World} {a : Option Addr} {n : Nat} {f f' : Nat → List Int} (h : IRows w a n f) (he : ∀ i, i < n → f i = f' i) : IRows w a n f' := fun i hi => by
  have := h i hi
  rwa [he i hi] at this

/-- From row k on: the rows, each in a block of its own. -/
def RowsF (w : World) (ss : List Value) (f : Nat → List Int) (lo hi : Nat → Nat) (k m : Nat) : Prop :=
  ∀ i, k ≤ i → i < m → ∃ a c, ss.getD i nilV = .slice a (f i).length c ∧ OwnI w (lo i) 2 (.slice a (f i).length c) (f i) ∧ ∀ q, (Value.slice a (f i).length c).ownBlock = some q → q < hi i
theorem RowsF.ext {w w' : World} {ss : List Value} {f : Nat → List Int} {lo hi : Nat → Nat} {k m : Nat} (h : RowsF w ss f lo hi k m) (he : Ext w w') : RowsF w' ss f lo hi k m := fun i h1 h2 => by
  obtain ⟨a, c, e, ho, ht⟩ := h i h1 h2
  exact ⟨a, c, e, ho.ext he, ht⟩
theorem RowsF.but {S : Nat → Prop} {w w' : World} {ss ss' : List Value} {f f' : Nat → List Int} {lo hi : Nat → Nat} {k m : Nat} (h : RowsF w ss f lo hi k m) (hb : But S w w') (hs : ∀ i, k ≤ i → i < m → ∀ q, lo i ≤ q → q < hi i → ¬ S q) (hr : ∀ i, k ≤ i → i < m → ss'.getD i nilV = ss.getD i nilV) (hf : ∀ i, k ≤ i → i < m → f' i = f i) : RowsF w' ss' f' lo hi k m := fun i h1 h2 => by
  obtain ⟨a, c, e, ho, ht⟩ := h i h1 h2
  rw [hf i h1 h2]
  exact ⟨a, c, (hr i h1 h2).trans e, ho.butS hb (fun q hq => hs i h1 h2 q (ho.block q hq) (ht q hq)), ht⟩
theorem RowsF.from {w : World} {ss : List Value} {f : Nat → List Int} {lo hi : Nat → Nat} {k k' m : Nat} (h : RowsF w ss f lo hi k m) (hk : k ≤ k') : RowsF w ss f lo hi k' m := fun i h1 h2 => h i (by omega) h2

/-- n rows that are the call's own: above base, below top. -/
def OwnRows (w : World) (base top : Nat) (a : Option Addr) (cap n : Nat) (f : Nat → List Int) : Prop :=
  ∃ ss lo hi g, w.ownsRow base 23 1 (.slice a n cap) n ss ∧ RowsF w ss f lo hi 0 n ∧ Spread lo hi g n top ∧ ∀ q, (Value.slice a n cap).ownBlock = some q → q = g ∧ q < top
theorem OwnRows.ext {w w' : World} {base top : Nat} {a : Option Addr} {cap n : Nat} {f : Nat → List Int} (h : OwnRows w base top a cap n f) (he : Ext w w') : OwnRows w' base top a cap n f := by
  obtain ⟨ss, lo, hi, g, h1, h2, h3, h4⟩ := h
  exact ⟨ss, lo, hi, g, ownsRow_ext h1 he, h2.ext he, h3, h4⟩
theorem OwnRows.mono {w : World} {base top base' top' : Nat} {a : Option Addr} {cap n : Nat} {f : Nat → List Int} (h : OwnRows w base top a cap n f) (hb : base' ≤ base) (ht : top ≤ top') : OwnRows w base' top' a cap n f := by
  obtain ⟨ss, lo, hi, g, h1, h2, h3, h4⟩ := h
  exact ⟨ss, lo, hi, g, ownsRow_mono h1 hb, h2, h3.mono ht, fun q hq => ⟨(h4 q hq).1, by have := (h4 q hq).2; omega⟩⟩
theorem OwnRows.but {S : Nat → Prop} {w w' : World} {base top : Nat} {a : Option Addr} {cap n : Nat} {f : Nat → List Int} (h : OwnRows w base top a cap n f) (hb : But S w w') (hs : ∀ q, base ≤ q → q < top → ¬ S q) : OwnRows w' base top a cap n f := by
  obtain ⟨ss, lo, hi, g, h1, h2, h3, h4⟩ := h
  refine ⟨ss, lo, hi, g, hb.row h1 (fun q hq => hs q (World.ownsRow.lt h1 q hq).1 (h4 q hq).2), ?_, h3, h4⟩
  refine h2.but hb (fun i k1 k2 q q1 q2 => hs q ?_ ?_) (fun _ _ _ => rfl) (fun _ _ _ => rfl)
  · have hn : 0 < n := by omega
    rcases h1.2 with ⟨_, e⟩ | ⟨g', cap', cur, hv, hg, _⟩
    · omega
    · have := (h4 g' (by rw [hv]; rfl)).1
      have := h3.above i k2
      omega
  · have := h3.below i k2; omega
theorem OwnRows.congr {w : World} {base top : Nat} {a : Option Addr} {cap n : Nat} {f f' : Nat → List Int} (h : OwnRows w base top a cap n f) (he : ∀ i, i < n → f i = f' i) : OwnRows w base top a cap n f' := by
  obtain ⟨ss, lo, hi, g, h1, h2, h3, h4⟩ := h
  refine ⟨ss, lo, hi, g, h1, fun i k1 k2 => ?_, h3, h4⟩
  have := h2 i k1 k2
  rwa [he i k2] at this
theorem ownsRow_cell {w : World} {base : Nat} {e : TypeId} {a : Option Addr} {n cap : Nat} {ss : List Value} (h : w.ownsRow base e 1 (.slice a n cap) n ss) (i : Nat) (hi : i < n) : ∃ g, a = some ⟨g, 0, none⟩ ∧ w.cell? ⟨g, i, none⟩ = some (ss.getD i nilV) := by
  rcases h.2 with ⟨hv, hn⟩ | ⟨g, cap', cur, hv, _⟩
  · omega
  · cases hv
    refine ⟨g, rfl, ?_⟩
    have hl : ss.length = n * 1 := h.1
    rw [World.ownsRow.cellAt h i (by omega), List.getD_eq_getElem?_getD, List.getElem?_eq_getElem (by omega)]
    rfl
theorem OwnRows.at {w : World} {base top : Nat} {a : Option Addr} {cap n : Nat} {f : Nat → List Int} (h : OwnRows w base top a cap n f) : IRows w a n f := by
  obtain ⟨ss, lo, hi, g, h1, h2, h3, h4⟩ := h
  intro i hi'
  obtain ⟨g', rfl, hc⟩ := ownsRow_cell h1 i hi'
  obtain ⟨a', c', e, ho, _⟩ := h2 i (Nat.zero_le _) hi'
  rw [e] at hc
  exact ⟨g', 0, a', c', rfl, by rw [Nat.zero_add]; exact hc, ho.ints⟩

section
variable {ops : Array Oper} {rest : List Oper} {o : Oper} {a : Act} {Q : Exit → Act → World → Prop} {w : World}
theorem mk_rows (hg : o.guard = none) {l c : Operand} (hop : o.op = Op.makeSlice 28 l c)
    (n : Nat) (hl : a.eval l = .int .i64 n) (hc : a.eval c = .int .i64 n) (hb : n < 2 ^ 40) (N : Nat) (hN : w.heap.size = N)
    (hK : ∀ w', w'.ownsRow N 23 1 (.slice (some ⟨N, 0, none⟩) n n) n (List.replicate n nilV) → Ext w w' → w'.heap.size = N + 1 → wpList Yabn.prog ops Q rest (a.put o.dst (.slice (some ⟨N, 0, none⟩) n n)) w') :
    wpList Yabn.prog ops Q (o :: rest) a w := by
  obtain ⟨i, h2, h3, h4, h5⟩ := info_parts info_row
  refine wpList_mkV hg hop 23 Yabn.underlying28 h2 h3 h4 (by omega) (by simp [Value.cells]) (by omega) n hl hc hb N hN fun w' ho hx hs => hK w' ?_ hx hs
  have := ho.2
  rw [List.length_replicate] at this
  have e : (List.replicate n (Value.slice none 0 0).cells.toList).flatten = List.replicate n nilV := by
    simp [Value.cells]
  rwa [e] at this
end

theorem getD_setV (ss : List Value) (k : Nat) (y : Value) (hk : k < ss.length) (i : Nat) : (ss.set k y).getD i nilV = if i = k then y else ss.getD i nilV := by
  simp only [List.getD_eq_getElem?_getD, List.getElem?_set]
  by_cases h : k = i
  · subst h; simp [hk]
  · rw [if_neg h, if_neg (fun e => h e.symm)]

def RetRows (n : Nat) (f : Nat → List Int) (w : World) : Ending → World → Prop := fun en w' => ∃ a cap, en = .returned (.slice a n cap) ∧ OwnRows w' w.heap.size w'.heap.size a cap n f ∧ Ext w w'

end Go.Proofs.YbyabwGreat
