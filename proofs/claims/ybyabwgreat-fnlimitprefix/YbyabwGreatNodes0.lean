/- Slices of nodes. -/
import Derived.Test.YbyabwGreatCol2
import Derived.Test.YbyabwGreatRowV
namespace Go.Proofs.YbyabwGreat
open Go.RowKit
set_option maxRecDepth 100000
set_option linter.unusedVariables false

structure Nd where
  op : Int
  val : Int
  l : Int
  r : Int

def nd0 : Nd := ⟨0, 0, 0, 0⟩
def Nd.cells (n : Nd) : List Value := [.int .i64 n.op, .int .i64 n.val, .int .i64 n.l, .int .i64 n.r]
def nodeRows (ns : List Nd) : List (List Value) := ns.map Nd.cells
theorem nodeRows_len (ns : List Nd) : (nodeRows ns).length = ns.length := by simp [nodeRows]
theorem nodeRows_at (ns : List Nd) (i : Nat) (h : i < ns.length) : (nodeRows ns).getD i [] = (ns.getD i nd0).cells := by
  simp [nodeRows, List.getElem?_eq_getElem h]
theorem nodeRows_wide (ns : List Nd) : Wide 4 (nodeRows ns) := by
  intro x hx
  simp only [nodeRows, List.mem_map] at hx
  obtain ⟨n, _, rfl⟩ := hx
  rfl

/-- A row of n places, the first k filled. -/
def fillR (xs : List (List Value)) (z : List Value) (n k : Nat) : List (List Value) := xs.take k ++ List.replicate (n - k) z
theorem fillR_zero (xs : List (List Value)) (z : List Value) (n : Nat) : fillR xs z n 0 = List.replicate n z := by simp [fillR]
theorem fillR_full (xs : List (List Value)) (z : List Value) (n : Nat) (h : xs.length = n) : fillR xs z n n = xs := by simp [fillR, ← h]
theorem fillR_len (xs : List (List Value)) (z : List Value) (n k : Nat) (h : xs.length = n) (hk : k ≤ n) : (fillR xs z n k).length = n := by simp [fillR]; omega
theorem fillR_step (xs : List (List Value)) (z : List Value) (n k : Nat) (h : xs.length = n) (hk : k < n) : (fillR xs z n k).set k (xs.getD k []) = fillR xs z n (k + 1) := by
  unfold fillR
  have hl : (xs.take k).length = k := by simp; omega
  rw [List.set_append_right _ _ (by omega), hl, Nat.sub_self]
  obtain ⟨m, hm⟩ : ∃ m, n - k = m + 1 := ⟨n - k - 1, by omega⟩
  have hm2 : n - (k + 1) = m := by omega
  have hk2 : k < xs.length := by omega
  have e : xs.take (k + 1) = xs.take k ++ [xs[k]] := List.take_succ_eq_append_getElem hk2
  have e2 : xs.getD k [] = xs[k] := by rw [List.getD_eq_getElem?_getD, List.getElem?_eq_getElem hk2]; rfl
  rw [hm, hm2, List.replicate_succ, List.set_cons_zero, e, e2, List.append_assoc]
  rfl

def NodesAt (w : World) (a : Option Addr) (ns : List Nd) : Prop := RowsAt w 4 a (nodeRows ns)
theorem NodesAt.ext {w w' : World} {a : Option Addr} {ns : List Nd} (h : NodesAt w a ns) (he : Ext w w') : NodesAt w' a ns := RowsAt.ext h he
theorem NodesAt.get {w : World} {a : Option Addr} {ns : List Nd} (h : NodesAt w a ns) (i : Nat) (hi : i < ns.length) : ∃ b off, a = some ⟨b, off, none⟩ ∧
    w.cell? ⟨b, off + i * 4, none⟩ = some (.int .i64 (ns.getD i nd0).op) ∧ w.cell? ⟨b, off + i * 4 + 1, none⟩ = some (.int .i64 (ns.getD i nd0).val) ∧
    w.cell? ⟨b, off + i * 4 + 2, none⟩ = some (.int .i64 (ns.getD i nd0).l) ∧ w.cell? ⟨b, off + i * 4 + 3, none⟩ = some (.int .i64 (ns.getD i nd0).r) := by
  obtain ⟨b, off, e, hc⟩ := h i (by rw [nodeRows_len]; exact hi)
  rw [nodeRows_at ns i hi] at hc
  exact ⟨b, off, e, hc 0 _ rfl, hc 1 _ rfl, hc 2 _ rfl, hc 3 _ rfl⟩

def OwnN (w : World) (base : Nat) (e : TypeId) (v : Value) (ns : List Nd) : Prop := OwnV w base e 4 v (nodeRows ns)
section
variable {w w' : World} {base base' : Nat} {e : TypeId} {v : Value} {ns ms : List Nd}
theorem OwnN.nodes {a : Option Addr} {n cap : Nat} (h : OwnN w base e (.slice a n cap) ns) : NodesAt w a ns := OwnV.rows h
theorem OwnN.ext (h : OwnN w base e v ns) (he : Ext w w') : OwnN w' base e v ns := OwnV.ext h he
theorem OwnN.mono (h : OwnN w base e v ns) (hb : base' ≤ base) : OwnN w base' e v ns := OwnV.mono h hb
theorem OwnN.drew (h : OwnN w base e v ns) : OwnN w.drew base e v ns := h
theorem OwnN.alloc (h : OwnN w base e v ns) (o : Obj) : OwnN (w.alloc o) base e v ns := OwnV.alloc h o
theorem OwnN.nil (w : World) (base : Nat) (e : TypeId) : OwnN w base e (.slice none 0 0) [] := OwnV.nil w base e 4
theorem OwnN.block (h : OwnN w base e v ns) : ∀ q, v.ownBlock = some q → base ≤ q := OwnV.block h
theorem OwnN.congr (h : OwnN w base e v ns) (he : ns = ms) : OwnN w base e v ms := he ▸ h
theorem OwnN.form (h : OwnN w base e v ns) : ∃ a cap, v = .slice a ns.length cap ∧ (a = none ∧ cap = 0 ∧ ns.length = 0 ∨ ∃ g, a = some ⟨g, 0, none⟩) := by
  have := OwnV.form h
  rwa [nodeRows_len] at this
end
/-- A call that hands back a new slice of nodes. -/
def RetNodes (e : TypeId) (ns : List Nd) (w : World) : Ending → World → Prop := fun en w' => ∃ a cap, en = .returned (.slice a ns.length cap) ∧ OwnN w' w.heap.size e (.slice a ns.length cap) ns ∧ Ext w w'

end Go.Proofs.YbyabwGreat
