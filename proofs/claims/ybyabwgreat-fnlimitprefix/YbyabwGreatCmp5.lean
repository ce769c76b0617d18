/- impl.Compile: what it holds on its way, what it answers -/
import Derived.Test.YbyabwGreatCmp4
import Derived.Test.YbyabwGreatEval2
import Derived.Test.YbyabwGreatQryEq
namespace Go.Proofs.YbyabwGreat
open Go.RowKit
set_option maxRecDepth 100000
set_option linter.unusedVariables false
set_option linter.unusedSimpArgs false

def plz : List Value := [.int .i64 0, .slice none 0 0, .int .i64 0, .slice none 0 0, .slice none 0 0, .int .i64 0, .bool false]
theorem plz_one : ∀ u ∈ plz, u.oneCell' = true := by simp [plz, Value.oneCell']
theorem size_plan : (Yabn.prog.info? 57).map (·.size) = some 7 := by kernel_rfl
def plCells (p : Pl) (ca ia ga : Option Addr) (cc ic gc : Nat) : List Value := [.int .i64 p.nc, .slice ca p.code.length cc, .int .i64 p.wh, .slice ia p.its.length ic, .slice ga p.gr.length gc, .int .i64 p.li, .bool p.ag]
/-- A plan in memory, of the call's own. -/
structure OwnPl (w : World) (base : Nat) (p : Pl) (ca ia ga : Option Addr) (cc ic gc : Nat) : Prop where
  code : OwnN w base 98 (.slice ca p.code.length cc) p.code
  its : OwnP w base 89 (.slice ia p.its.length ic) p.its
  gr : OwnI w base 3 (.slice ga p.gr.length gc) p.gr
def RetPl (q : Qy) (n : Nat) (w : World) : Ending → World → Prop := fun en w' => Ext w w' ∧
  ((¬ CmOK q n ∧ en = .returned (.tuple #[.agg plz.toArray, .bool false])) ∨
   (CmOK q n ∧ ∃ ca ia ga cc ic gc, en = .returned (.tuple #[.agg (plCells (plan q n) ca ia ga cc ic gc).toArray, .bool true]) ∧ OwnPl w' w.heap.size (plan q n) ca ia ga cc ic gc))
/-- The query in its box, the answer's place. -/
structure CI (w wr : World) (cs : List Value) : Prop where
  q : Blk wr w.heap.size 53 cs
  p : Blk wr (w.heap.size + 1) 57 plz
  ex : Ext w wr
section
variable {w wr w2 : World} {cs : List Value}
theorem CI.ext (h : CI w wr cs) (he : Ext wr w2) : CI w w2 cs := ⟨h.q.ext he, h.p.ext he, h.ex.trans he⟩
theorem CI.sz (h : CI w wr cs) : w.heap.size + 2 ≤ wr.heap.size := h.p.lt
theorem CI.but {S : Nat → Prop} (h : CI w wr cs) (hb : But S wr w2) (hs : ∀ k, S k → w.heap.size + 2 ≤ k) : CI w w2 cs :=
  ⟨hb.blk h.q (fun hh => by have := hs _ hh; omega), hb.blk h.p (fun hh => by have := hs _ hh; omega), Below.trans h.ex (hb.below (fun k hk => by have := hs k hk; omega) (by have := h.sz; omega))⟩
theorem CI.set (h : CI w wr cs) (g i : Nat) (u : Value) (hg : w.heap.size + 2 ≤ g) : CI w (wr.setCell ⟨g, i, none⟩ u) cs :=
  h.but (S := fun q => q = g) (But.of_grown (grown_setCell _ _ _) (fun q hq => by cases hq; rfl)) (fun k hk => by omega)
theorem Ext.setP (h : CI w wr cs) (hg : wr.grownBy w2 (some (w.heap.size + 1))) : Ext w w2 := h.ex.grown hg (fun k hk => by cases hk; omega)
end
/-- The marks of the numbers of P. -/
def mkL (n : Nat) (P : List Nat) : List Bool := (List.range n).map (fun (i : Nat) => decide (i ∈ P))
theorem mkL_len (n : Nat) (P : List Nat) : (mkL n P).length = n := by simp [mkL]
theorem mkL_at (n : Nat) (P : List Nat) (i : Nat) (h : i < n) : (mkL n P).getD i false = decide (i ∈ P) := by simp [mkL, h]
theorem mkL_nil (n : Nat) : mkL n [] = List.replicate n false := by
  apply List.ext_getElem
  · simp [mkL]
  · intro i h1 h2; simp [mkL]
theorem mkL_snoc (n : Nat) (P : List Nat) (g : Nat) : (mkL n P).set g true = mkL n (P ++ [g]) := by
  apply List.ext_getElem
  · simp [mkL]
  · intro i h1 h2
    rw [List.getElem_set]
    simp only [mkL, List.getElem_map, List.getElem_range, List.mem_append, List.mem_singleton]
    by_cases e : g = i
    · subst e; simp
    · rw [if_neg e]
      have : ¬ i = g := fun h => e h.symm
      simp [this]
theorem nodup_snoc {P : List Nat} {x : Nat} (h : P.Nodup) (hx : ¬ x ∈ P) : (P ++ [x]).Nodup := by
  rw [List.nodup_append]
  exact ⟨h, List.nodup_cons.2 ⟨by simp, List.nodup_nil⟩, fun a ha b hb e => by rw [List.mem_singleton] at hb; subst hb; subst e; exact hx ha⟩
theorem not_nodup {P R : List Nat} {x : Nat} (hx : x ∈ P) : ¬ (P ++ x :: R).Nodup := fun h => by
  rw [List.nodup_append] at h
  exact h.2.2 x hx x (by simp) rfl
theorem chTo_split (nd : List Nd) : ∀ n k, k < n → ∃ R, chTo nd n = chTo nd k ++ (chN (nd.getD k nd0) ++ R) := by
  intro n
  induction n with
  | zero => intro k h; omega
  | succ n ih =>
    intro k h
    by_cases hk : k < n
    · obtain ⟨R, e⟩ := ih k hk
      exact ⟨R ++ chN (nd.getD n nd0), by simp only [chTo]; rw [e]; simp⟩
    · obtain rfl : k = n := by omega
      exact ⟨[], by simp [chTo]⟩
theorem itsR_split (its : List (Int × Int)) (k : Nat) (h : k < its.length) : ∃ R, itsR its = itsR (its.take k) ++ (itR (its.getD k (0, 0)) ++ R) := by
  have e : its = its.take k ++ (its.getD k (0, 0) :: its.drop (k + 1)) := by
    rw [List.getD_eq_getElem?_getD, List.getElem?_eq_getElem h]
    show its = its.take k ++ (its[k] :: its.drop (k + 1))
    rw [← List.drop_eq_getElem_cons h, List.take_append_drop]
  refine ⟨itsR (its.drop (k + 1)), ?_⟩
  conv => lhs; rw [e]
  simp [itsR]
theorem itsR_succ (its : List (Int × Int)) (k : Nat) (h : k < its.length) : itsR (its.take (k + 1)) = itsR (its.take k) ++ itR (its.getD k (0, 0)) := by
  rw [take_succ_it its k h]
  simp [itsR]
end Go.Proofs.YbyabwGreat
