/- Walks: laws.cpTable, scTable -/
import Derived.Test.YbyabwGreatTabL
namespace Go.Proofs.YbyabwGreat
open Go.RowKit
set_option maxRecDepth 100000
set_option linter.unusedVariables false

/-- From place k on the rows are the cells of the columns, each column in blocks of its own. -/
def TabRows (w : World) (rows : List (List Value)) (cs : List Col) (lo hi : Nat → Nat) (k m : Nat) : Prop :=
  ∀ i, k ≤ i → i < m → ∃ a1 a2 a3 a4 c1 c2 c3 c4, rows.getD i [] = cellsC (cs.getD i col0) a1 a2 a3 a4 c1 c2 c3 c4 ∧ OwnC 132 w (lo i) (hi i) (cs.getD i col0) a1 a2 a3 a4 c1 c2 c3 c4
theorem TabRows.ext {w w' : World} {rows : List (List Value)} {cs : List Col} {lo hi : Nat → Nat} {k m : Nat} (h : TabRows w rows cs lo hi k m) (he : Ext w w') : TabRows w' rows cs lo hi k m := fun i h1 h2 => by
  obtain ⟨a1, a2, a3, a4, c1, c2, c3, c4, e, ho⟩ := h i h1 h2
  exact ⟨a1, a2, a3, a4, c1, c2, c3, c4, e, ho.ext he⟩
theorem TabRows.but {S : Nat → Prop} {w w' : World} {rows rows' : List (List Value)} {cs : List Col} {lo hi : Nat → Nat} {k m : Nat} (h : TabRows w rows cs lo hi k m) (hb : But S w w') (hs : ∀ i, k ≤ i → i < m → ∀ q, lo i ≤ q → q < hi i → ¬ S q) (hr : ∀ i, k ≤ i → i < m → rows'.getD i [] = rows.getD i []) : TabRows w' rows' cs lo hi k m := fun i h1 h2 => by
  obtain ⟨a1, a2, a3, a4, c1, c2, c3, c4, e, ho⟩ := h i h1 h2
  exact ⟨a1, a2, a3, a4, c1, c2, c3, c4, (hr i h1 h2).trans e, ho.but hb (hs i h1 h2)⟩

structure Spread (lo hi : Nat → Nat) (g m T : Nat) : Prop where
  ord : ∀ i j, i < j → j < m → hi i ≤ lo j
  above : ∀ i, i < m → g < lo i
  below : ∀ i, i < m → hi i ≤ T
theorem Spread.step {lo hi : Nat → Nat} {g m T x y : Nat} (h : Spread lo hi g m T) (hx : T ≤ x) (hxy : x ≤ y) (hg : g < x) : Spread (fun i => if i = m then x else lo i) (fun i => if i = m then y else hi i) g (m + 1) y := by
  refine ⟨fun i j hij hj => ?_, fun i hi' => ?_, fun i hi' => ?_⟩
  · rw [if_neg (by omega)]
    by_cases e : j = m
    · rw [if_pos e]; have := h.below i (by omega); omega
    · rw [if_neg e]; exact h.ord i j hij (by omega)
  · by_cases e : i = m
    · rw [if_pos e]; exact hg
    · rw [if_neg e]; exact h.above i (by omega)
  · by_cases e : i = m
    · rw [if_pos e]; exact Nat.le_refl _
    · rw [if_neg e]; have := h.below i (by omega); omega
theorem Spread.mono {lo hi : Nat → Nat} {g m T T' : Nat} (h : Spread lo hi g m T) (ht : T ≤ T') : Spread lo hi g m T' := ⟨h.ord, h.above, fun i hi' => Nat.le_trans (h.below i hi') ht⟩

theorem getD_set_rows (rows : List (List Value)) (k : Nat) (y : List Value) (hk : k < rows.length) (i : Nat) : (rows.set k y).getD i [] = if i = k then y else rows.getD i [] := by
  simp only [List.getD_eq_getElem?_getD, List.getElem?_set]
  by_cases h : k = i
  · subst h; simp [hk]
  · rw [if_neg h, if_neg (fun e => h e.symm)]

/-- A table whose parts are all its own. -/
def OwnTab (w : World) (base : Nat) (a : Option Addr) (cap : Nat) (cs : List Col) : Prop :=
  (∃ rows lo hi g T, OwnV w base 69 5 (.slice a cs.length cap) rows ∧ rows.length = cs.length ∧ TabRows w rows cs lo hi 0 cs.length ∧ Spread lo hi g cs.length T ∧ T ≤ w.heap.size ∧ (Value.slice a cs.length cap).ownBlock = some g) ∨ (cs = [])
theorem OwnTab.ext {w w' : World} {base : Nat} {a : Option Addr} {cap : Nat} {cs : List Col} (h : OwnTab w base a cap cs) (he : Ext w w') : OwnTab w' base a cap cs := by
  rcases h with ⟨rows, lo, hi, g, T, h1, h2, h3, h4, h5, h6⟩ | h
  · exact .inl ⟨rows, lo, hi, g, T, h1.ext he, h2, h3.ext he, h4, by have := he.size; omega, h6⟩
  · exact .inr h
theorem OwnTab.at {w : World} {base : Nat} {a : Option Addr} {cap : Nat} {cs : List Col} (h : OwnTab w base a cap cs) (hl : ∀ i, i < cs.length → LenC (cs.getD i col0)) : ColsAt w a cs := by
  rcases h with ⟨rows, lo, hi, g, T, h1, h2, h3, h4, h5, h6⟩ | rfl
  · intro i hi'
    obtain ⟨a1, a2, a3, a4, c1, c2, c3, c4, e, ho⟩ := h3 i (Nat.zero_le _) hi'
    obtain ⟨g, off, ea, hc⟩ := h1.rows i (by omega)
    rw [e] at hc
    have hl' := hl i hi'
    exact ⟨g, off, a1, a2, a3, a4, c1, c2, c3, c4, ea, ⟨hc 0 _ rfl, hc 1 _ rfl, hc 2 _ rfl, hc 3 _ rfl, hc 4 _ rfl⟩, ho.colAt, ⟨by have := hl'.plain; omega, by have := hl'.dict; omega, by have := hl'.codes; omega, by have := hl'.runs; omega⟩⟩
  · intro i hi'; simp at hi'

def RetTabO (n : Int) (cs : List Col) (w : World) : Ending → World → Prop := fun en w' => ∃ a cap, en = .returned (.agg #[.int .i64 n, .slice a cs.length cap]) ∧ OwnTab w' w.heap.size a cap cs ∧ Ext w w'

section
variable {ops : Array Oper} {rest : List Oper} {o : Oper} {a : Act} {Q : Exit → Act → World → Prop} {w : World}
theorem mk_col (hg : o.guard = none) {l c : Operand} (hop : o.op = Op.makeSlice 25 l c)
    (n : Nat) (hl : a.eval l = .int .i64 n) (hc : a.eval c = .int .i64 n) (hb : n < 2 ^ 40) (N : Nat) (hN : w.heap.size = N)
    (hK : ∀ w', OwnV w' N 69 5 (.slice (some ⟨N, 0, none⟩) n n) (List.replicate n colZ5) → Ext w w' → w'.heap.size = N + 1 → wpList Yabn.prog ops Q rest (a.put o.dst (.slice (some ⟨N, 0, none⟩) n n)) w') :
    wpList Yabn.prog ops Q (o :: rest) a w := by
  obtain ⟨i, h2, h3, h4, h5⟩ := info_parts info_col
  exact wpList_mkV hg hop 69 Yabn.underlying25 h2 h3 h4 (by omega) rfl (by omega) n hl hc hb N hN hK
end

end Go.Proofs.YbyabwGreat
