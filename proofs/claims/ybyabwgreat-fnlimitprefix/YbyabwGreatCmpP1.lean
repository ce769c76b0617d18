/- Plain: what the planner reckons, node by node. No Go here. -/
import Derived.Test.YbyabwGreatParseQ
import Derived.Test.YbyabwGreatEval1
namespace Go.Proofs.YbyabwGreat
open Go.RowKit
set_option linter.unusedVariables false

/-- One value a node, in the nodes' order: f of the node and of the values ahead of it. -/
def toL {α : Type} (f : Nd → List α → α) (nd : List Nd) : Nat → List α
  | 0 => []
  | k + 1 => toL f nd k ++ [f (nd.getD k nd0) (toL f nd k)]
section
variable {α : Type} {f : Nd → List α → α} {nd : List Nd}
theorem toL_len : ∀ k, (toL f nd k).length = k
  | 0 => rfl
  | k + 1 => by simp [toL, toL_len k]
theorem toL_at (d : α) : ∀ m k, k < m → (toL f nd m).getD k d = f (nd.getD k nd0) (toL f nd k)
  | 0, k, h => by omega
  | m + 1, k, h => by
    have hl := toL_len (f := f) (nd := nd) m
    simp only [toL, List.getD_eq_getElem?_getD]
    by_cases hk : k < m
    · rw [List.getElem?_append_left (by omega), ← List.getD_eq_getElem?_getD]
      exact toL_at d m k hk
    · obtain rfl : k = m := by omega
      rw [List.getElem?_append_right (by omega)]
      simp [hl]
theorem toL_pre {e : List Nd} : ∀ k, k ≤ nd.length → toL f (nd ++ e) k = toL f nd k
  | 0, _ => rfl
  | k + 1, h => by
    simp only [toL]
    rw [toL_pre k (by omega), List.getD_eq_getElem?_getD, List.getD_eq_getElem?_getD, List.getElem?_append_left (by omega)]
end
/-- Does the tree of a node hold a column? -/
def hcN (n : Nd) (hs : List Bool) : Bool :=
  if n.op = 2 then true else if n.op = 3 ∨ n.op = 15 then hs.getD n.l.toNat false else if 4 ≤ n.op ∧ n.op ≤ 14 then hs.getD n.l.toNat false || hs.getD n.r.toNat false else false
/-- Are all the columns of its tree among gr? -/
def okN (gr : List Int) (n : Nd) (os : List Bool) : Bool :=
  if n.op = 2 then decide (n.val ∈ gr) else if n.op = 3 ∨ n.op = 15 then os.getD n.l.toNat false else if 4 ≤ n.op ∧ n.op ≤ 14 then os.getD n.l.toNat false && os.getD n.r.toNat false else true
/-- How many nodes its tree has. -/
def tsN (n : Nd) (ss : List Nat) : Nat := if n.op = 3 ∨ n.op = 15 then 1 + ss.getD n.l.toNat 0 else if 4 ≤ n.op ∧ n.op ≤ 14 then 1 + ss.getD n.l.toNat 0 + ss.getD n.r.toNat 0 else 1
def hcAt (nd : List Nd) (x : Nat) : Bool := hcN (nd.getD x nd0) (toL hcN nd x)
def okAt (gr : List Int) (nd : List Nd) (x : Nat) : Bool := okN gr (nd.getD x nd0) (toL (okN gr) nd x)
def tsAt (nd : List Nd) (x : Nat) : Nat := tsN (nd.getD x nd0) (toL tsN nd x)
/-- All nodes up to n are well formed. -/
def WfA (nd : List Nd) (nc : Int) : Prop := ∀ i : Nat, i < nd.length → wfP (nd.getD i nd0) i nc
section
variable {nd : List Nd} {nc : Int} {x : Nat} {gr : List Int}
theorem hcAt_un {l : Nat} (h : (nd.getD x nd0).op = 3 ∨ (nd.getD x nd0).op = 15) (hl : (nd.getD x nd0).l = (l : Int)) (hx : l < x) : hcAt nd x = hcAt nd l := by
  unfold hcAt hcN
  rw [if_neg (by omega), if_pos h, hl, Int.toNat_natCast, toL_at false x l hx]
theorem hcAt_bi {l r : Nat} (h : 4 ≤ (nd.getD x nd0).op ∧ (nd.getD x nd0).op ≤ 14) (hl : (nd.getD x nd0).l = (l : Int)) (hr : (nd.getD x nd0).r = (r : Int)) (hx : l < x) (hy : r < x) : hcAt nd x = (hcAt nd l || hcAt nd r) := by
  unfold hcAt hcN
  rw [if_neg (by omega), if_neg (by omega), if_pos h, hl, hr, Int.toNat_natCast, Int.toNat_natCast, toL_at false x l hx, toL_at false x r hy]
theorem hcAt_lit (h : (nd.getD x nd0).op = 1) : hcAt nd x = false := by
  unfold hcAt hcN
  rw [if_neg (by omega), if_neg (by omega), if_neg (by omega)]
theorem hcAt_col (h : (nd.getD x nd0).op = 2) : hcAt nd x = true := by
  unfold hcAt hcN
  rw [if_pos h]
theorem okAt_un {l : Nat} (h : (nd.getD x nd0).op = 3 ∨ (nd.getD x nd0).op = 15) (hl : (nd.getD x nd0).l = (l : Int)) (hx : l < x) : okAt gr nd x = okAt gr nd l := by
  unfold okAt okN
  rw [if_neg (by omega), if_pos h, hl, Int.toNat_natCast, toL_at false x l hx]
theorem okAt_bi {l r : Nat} (h : 4 ≤ (nd.getD x nd0).op ∧ (nd.getD x nd0).op ≤ 14) (hl : (nd.getD x nd0).l = (l : Int)) (hr : (nd.getD x nd0).r = (r : Int)) (hx : l < x) (hy : r < x) : okAt gr nd x = (okAt gr nd l && okAt gr nd r) := by
  unfold okAt okN
  rw [if_neg (by omega), if_neg (by omega), if_pos h, hl, hr, Int.toNat_natCast, Int.toNat_natCast, toL_at false x l hx, toL_at false x r hy]
theorem okAt_lit (h : (nd.getD x nd0).op = 1) : okAt gr nd x = true := by
  unfold okAt okN
  rw [if_neg (by omega), if_neg (by omega), if_neg (by omega)]
theorem okAt_col (h : (nd.getD x nd0).op = 2) : okAt gr nd x = decide ((nd.getD x nd0).val ∈ gr) := by
  unfold okAt okN
  rw [if_pos h]
theorem tsAt_un {l : Nat} (h : (nd.getD x nd0).op = 3 ∨ (nd.getD x nd0).op = 15) (hl : (nd.getD x nd0).l = (l : Int)) (hx : l < x) : tsAt nd x = 1 + tsAt nd l := by
  unfold tsAt tsN
  rw [if_pos h, hl, Int.toNat_natCast, toL_at 0 x l hx]
theorem tsAt_bi {l r : Nat} (h : 4 ≤ (nd.getD x nd0).op ∧ (nd.getD x nd0).op ≤ 14) (hl : (nd.getD x nd0).l = (l : Int)) (hr : (nd.getD x nd0).r = (r : Int)) (hx : l < x) (hy : r < x) : tsAt nd x = 1 + tsAt nd l + tsAt nd r := by
  unfold tsAt tsN
  rw [if_neg (by omega), if_pos h, hl, hr, Int.toNat_natCast, Int.toNat_natCast, toL_at 0 x l hx, toL_at 0 x r hy]
theorem tsAt_leaf (h : (nd.getD x nd0).op = 1 ∨ (nd.getD x nd0).op = 2) : tsAt nd x = 1 := by
  unfold tsAt tsN
  rw [if_neg (by omega), if_neg (by omega)]
theorem tsAt_pos : 1 ≤ tsAt nd x := by
  unfold tsAt tsN
  split
  · omega
  · split <;> omega
/-- The four kinds of a node that is well formed. -/
theorem WfA.kind (h : WfA nd nc) (hx : x < nd.length) :
    ((nd.getD x nd0).op = 1) ∨ ((nd.getD x nd0).op = 2 ∧ 0 ≤ (nd.getD x nd0).val ∧ (nd.getD x nd0).val < nc) ∨
    (∃ l : Nat, ((nd.getD x nd0).op = 3 ∨ (nd.getD x nd0).op = 15) ∧ (nd.getD x nd0).l = (l : Int) ∧ l < x) ∨
    (∃ l r : Nat, (4 ≤ (nd.getD x nd0).op ∧ (nd.getD x nd0).op ≤ 14) ∧ (nd.getD x nd0).l = (l : Int) ∧ (nd.getD x nd0).r = (r : Int) ∧ l < x ∧ r < x) := by
  obtain ⟨h1, h2, h3, h4, h5⟩ := h x hx
  by_cases c1 : (nd.getD x nd0).op = 1
  · exact .inl c1
  · by_cases c2 : (nd.getD x nd0).op = 2
    · exact .inr (.inl ⟨c2, h3 c2⟩)
    · by_cases c3 : (nd.getD x nd0).op = 3 ∨ (nd.getD x nd0).op = 15
      · obtain ⟨a, b⟩ := h4 c3
        exact .inr (.inr (.inl ⟨(nd.getD x nd0).l.toNat, c3, by omega, by omega⟩))
      · have c4 : 4 ≤ (nd.getD x nd0).op ∧ (nd.getD x nd0).op ≤ 14 := by omega
        obtain ⟨a, b, c, d⟩ := h5 c4
        exact .inr (.inr (.inr ⟨(nd.getD x nd0).l.toNat, (nd.getD x nd0).r.toNat, c4, by omega, by omega, by omega, by omega⟩))
end
end Go.Proofs.YbyabwGreat
