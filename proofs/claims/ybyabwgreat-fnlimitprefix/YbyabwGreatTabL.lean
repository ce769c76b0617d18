/- Walks: laws.cvTable, eqLTable, szTable -/
import Derived.Test.YbyabwGreatCpRun
import Derived.Test.YbyabwGreatTab1
namespace Go.Proofs.YbyabwGreat
open Go.RowKit
set_option maxRecDepth 100000
set_option linter.unusedVariables false

theorem info_col : (Yabn.prog.info? 69).map (fun i => (i.zero, i.size, i.bytes)) = some (some (.agg #[.int .i64 0, .slice none 0 0, .slice none 0 0, .slice none 0 0, .slice none 0 0]), 5, 104) := by kernel_rfl
theorem size_tab : (Yabn.prog.info? 27).map (·.size) = some 2 := by kernel_rfl
def tabCells (n : Int) (a : Option Addr) (len cap : Nat) : List Value := [.int .i64 n, .slice a len cap]
theorem tabCells_one (n : Int) (a : Option Addr) (len cap : Nat) : ∀ u ∈ tabCells n a len cap, u.oneCell' = true := by simp [tabCells, Value.oneCell']

section
variable {ops : Array Oper} {rest : List Oper} {o : Oper} {a : Act} {Q : Exit → Act → World → Prop} {w : World}
end

/-- Something was written into a row of another type: the column stays. -/
theorem OwnC.rowGrown {er e : TypeId} {w w' : World} {base top b k n : Nat} {c : Col} {a1 a2 a3 a4 : Option Addr} {c1 c2 c3 c4 : Nat} {v : Value} {xs : List Value} (h : OwnC er w base top c a1 a2 a3 a4 c1 c2 c3 c4) (hv : w.ownsRow b e k v n xs) (hg : w.grownBy w' v.ownBlock)
    (h1 : 2 ≠ e) (h2 : 3 ≠ e) (h3 : er ≠ e) : OwnC er w' base top c a1 a2 a3 a4 c1 c2 c3 c4 :=
  ⟨h.plain.but hg (apart_types h.plain hv h1), h.dict.but hg (apart_types h.dict hv h1), h.codes.but hg (apart_types h.codes hv h2), h.runs.but hg (apart_types h.runs hv h3), h.sep, h.t1, h.t2, h.t3, h.t4⟩

/-- The first k rows are the cells of the first k columns. -/
def ColRows (er : TypeId) (w : World) (base : Nat) (rows : List (List Value)) (cs : List Col) (k : Nat) : Prop :=
  ∀ i, i < k → ∃ a1 a2 a3 a4 c1 c2 c3 c4 top, rows.getD i [] = cellsC (cs.getD i col0) a1 a2 a3 a4 c1 c2 c3 c4 ∧ OwnC er w base top (cs.getD i col0) a1 a2 a3 a4 c1 c2 c3 c4
theorem ColRows.ext {er : TypeId} {w w' : World} {base : Nat} {rows : List (List Value)} {cs : List Col} {k : Nat} (h : ColRows er w base rows cs k) (he : Ext w w') : ColRows er w' base rows cs k := fun i hi => by
  obtain ⟨a1, a2, a3, a4, c1, c2, c3, c4, top, e, ho⟩ := h i hi
  exact ⟨a1, a2, a3, a4, c1, c2, c3, c4, top, e, ho.ext he⟩
theorem ColRows.at {er e : TypeId} {w : World} {base b : Nat} {rows : List (List Value)} {cs : List Col} {a : Option Addr} {n cap : Nat} (h : ColRows er w base rows cs cs.length) (hv : OwnV w b e 5 (.slice a n cap) rows) (hr : rows.length = cs.length) (hl : ∀ i, i < cs.length → LenC (cs.getD i col0)) : ColsAt w a cs := fun i hi => by
  obtain ⟨a1, a2, a3, a4, c1, c2, c3, c4, top, e, ho⟩ := h i hi
  obtain ⟨g, off, ea, hc⟩ := hv.rows i (by omega)
  rw [e] at hc
  have hl' := hl i hi
  exact ⟨g, off, a1, a2, a3, a4, c1, c2, c3, c4, ea, ⟨hc 0 _ rfl, hc 1 _ rfl, hc 2 _ rfl, hc 3 _ rfl, hc 4 _ rfl⟩, ho.colAt, ⟨by have := hl'.plain; omega, by have := hl'.dict; omega, by have := hl'.codes; omega, by have := hl'.runs; omega⟩⟩

/-- A call that hands back a table that can be read. -/
def RetTab (n : Int) (cs : List Col) (w : World) : Ending → World → Prop := fun en w' => ∃ a cap, en = .returned (.agg #[.int .i64 n, .slice a cs.length cap]) ∧ ColsAt w' a cs ∧ Ext w w'

def szc (c : Col) : Nat := c.plain.length + c.dict.length + c.codes.length + c.runs.length
def szTo (cs : List Col) (k : Nat) : Nat := ((cs.take k).map szc).sum
theorem szTo_succ (cs : List Col) (k : Nat) (h : k < cs.length) : szTo cs (k + 1) = szTo cs k + szc (cs.getD k col0) := by
  unfold szTo
  rw [List.take_succ_eq_append_getElem h, List.map_append, List.sum_append]
  congr 1
  simp [List.getElem?_eq_getElem h]
theorem szTo_le (cs : List Col) : ∀ (m k : Nat), k + m ≤ cs.length → szTo cs k ≤ szTo cs (k + m)
  | 0, k, _ => Nat.le_refl _
  | m + 1, k, h => by
    have := szTo_le cs m k (by omega)
    rw [← Nat.add_assoc, szTo_succ cs (k + m) (by omega)]
    omega
theorem szTo_all (cs : List Col) (k : Nat) (h : k ≤ cs.length) : szTo cs k ≤ szTo cs cs.length := by
  have := szTo_le cs (cs.length - k) k (by omega)
  rwa [Nat.add_sub_cancel' h] at this
theorem szTo_len (cs : List Col) (i : Nat) (h : i < cs.length) : szc (cs.getD i col0) ≤ szTo cs cs.length := by
  have h1 := szTo_succ cs i h
  have h2 := szTo_all cs (i + 1) h
  omega

end Go.Proofs.YbyabwGreat
