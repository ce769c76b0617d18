/- Walk: impl.BuildTable -/
import Derived.Test.YbyabwGreatEncLen
import Derived.Test.YbyabwGreatTabN
import Derived.Test.YbyabwGreatRowL
namespace Go.Proofs.YbyabwGreat
open Go.RowKit
set_option maxRecDepth 100000
set_option linter.unusedVariables false

/-- Column j of n rows. -/
def colT (n : Nat) (f : Nat → List Int) (j : Nat) : List Int := (List.range n).map fun i => (f i).getD j 0
theorem colT_len (n : Nat) (f : Nat → List Int) (j : Nat) : (colT n f j).length = n := by simp [colT]
theorem colT_at (n : Nat) (f : Nat → List Int) (j i : Nat) (h : i < n) : (colT n f j).getD i 0 = (f i).getD j 0 := by simp [colT, List.getD_eq_getElem?_getD, h]
def colsT (n : Nat) (f : Nat → List Int) (ks : List Int) : List Col := (List.range ks.length).map fun j => encOf (ks.getD j 0) (colT n f j)
theorem colsT_len (n : Nat) (f : Nat → List Int) (ks : List Int) : (colsT n f ks).length = ks.length := by simp [colsT]
theorem colsT_at (n : Nat) (f : Nat → List Int) (ks : List Int) (j : Nat) (h : j < ks.length) : (colsT n f ks).getD j col0 = encOf (ks.getD j 0) (colT n f j) := by simp [colsT, List.getD_eq_getElem?_getD, h]
def BOK (n : Nat) (f : Nat → List Int) (ks : List Int) : Prop := n ≤ 65536 ∧ ks.length ≤ 256 ∧ (∀ j, j < ks.length → 0 ≤ ks.getD j 0 ∧ ks.getD j 0 ≤ 2) ∧ ∀ i, i < n → (f i).length = ks.length

/-- A table whose parts are all its own, the empty one too. -/
def OwnTabP (w : World) (base top : Nat) (a : Option Addr) (cap : Nat) (cs : List Col) : Prop :=
  ∃ rows lo hi g, OwnV w base 69 5 (.slice a cs.length cap) rows ∧ rows.length = cs.length ∧ TabRows w rows cs lo hi 0 cs.length ∧ Spread lo hi g cs.length top ∧ ∀ q, (Value.slice a cs.length cap).ownBlock = some q → q = g ∧ q < top
theorem OwnTabP.ext {w w' : World} {base top : Nat} {a : Option Addr} {cap : Nat} {cs : List Col} (h : OwnTabP w base top a cap cs) (he : Ext w w') : OwnTabP w' base top a cap cs := by
  obtain ⟨rows, lo, hi, g, h1, h2, h3, h4, h5⟩ := h
  exact ⟨rows, lo, hi, g, h1.ext he, h2, h3.ext he, h4, h5⟩
theorem OwnTabP.nil (w : World) (base top : Nat) : OwnTabP w base top none 0 [] :=
  ⟨[], fun _ => 0, fun _ => 0, 0, OwnV.nil _ _ _ _, rfl, fun i h1 h2 => by simp at h2, ⟨fun i j h1 h2 => by simp at h2, fun i h1 => by simp at h1, fun i h1 => by simp at h1⟩, fun q hq => by cases hq⟩
theorem OwnTabP.at {w : World} {base top : Nat} {a : Option Addr} {cap : Nat} {cs : List Col} (h : OwnTabP w base top a cap cs) (hl : ∀ i, i < cs.length → LenC (cs.getD i col0)) : ColsAt w a cs := by
  obtain ⟨rows, lo, hi, g, h1, h2, h3, h4, h5⟩ := h
  intro i hi'
  obtain ⟨a1, a2, a3, a4, c1, c2, c3, c4, e, ho⟩ := h3 i (Nat.zero_le _) hi'
  obtain ⟨g, off, ea, hc⟩ := h1.rows i (by omega)
  rw [e] at hc
  have hl' := hl i hi'
  exact ⟨g, off, a1, a2, a3, a4, c1, c2, c3, c4, ea, ⟨hc 0 _ rfl, hc 1 _ rfl, hc 2 _ rfl, hc 3 _ rfl, hc 4 _ rfl⟩, ho.colAt, ⟨by have := hl'.plain; omega, by have := hl'.dict; omega, by have := hl'.codes; omega, by have := hl'.runs; omega⟩⟩
theorem OwnTabP.tabT {w : World} {base top : Nat} {a : Option Addr} {cap : Nat} {cs : List Col} (h : OwnTabP w base top a cap cs) : OwnTabT w base top a cap cs := by
  obtain ⟨rows, lo, hi, g, h1, h2, h3, h4, h5⟩ := h
  by_cases h0 : cs.length = 0
  · exact .inr (List.eq_nil_of_length_eq_zero h0)
  · obtain ⟨p, q, e, hf⟩ := h1.form
    rcases hf with ⟨_, _, hn⟩ | ⟨g', rfl⟩
    · omega
    · injection e with e1
      subst e1
      have := h5 g' rfl
      exact .inl ⟨rows, lo, hi, g, h1, h2, h3, h4, by rw [← this.1]; rfl, by omega⟩

def RetTO (N : Int) (cs : List Col) (b : Bool) (w : World) : Ending → World → Prop := fun en w' => ∃ a cap, en = .returned (.tuple #[.agg #[.int .i64 N, .slice a cs.length cap], .bool b]) ∧ OwnTabP w' w.heap.size w'.heap.size a cap cs ∧ Ext w w'
def RetTB (n : Nat) (f : Nat → List Int) (ks : List Int) (w : World) : Ending → World → Prop := fun en w' => (BOK n f ks ∧ RetTO n (colsT n f ks) true w en w') ∨ (¬ BOK n f ks ∧ RetTO 0 [] false w en w')

end Go.Proofs.YbyabwGreat
