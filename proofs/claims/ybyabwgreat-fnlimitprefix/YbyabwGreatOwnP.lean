/- Slices of pairs of integers of the call's own. Seat-independent. -/
import Derived.Test.YbyabwGreatOwn
namespace Go.Proofs.YbyabwGreat
open Go.RowKit

def pairCells (xs : List (Int × Int)) : List Value := xs.flatMap fun p => [.int .i64 p.1, .int .i64 p.2]

theorem length_pairCells (xs : List (Int × Int)) : (pairCells xs).length = xs.length * 2 := by
  induction xs with
  | nil => rfl
  | cons p xs ih => simp only [pairCells, List.flatMap_cons, List.length_append, List.length_cons, List.length_nil] at ih ⊢; omega

theorem pairCells_at (xs : List (Int × Int)) : ∀ (i : Nat), i < xs.length → (pairCells xs)[i * 2]? = some (.int .i64 (xs.getD i (0, 0)).1) ∧ (pairCells xs)[i * 2 + 1]? = some (.int .i64 (xs.getD i (0, 0)).2) := by
  induction xs with
  | nil => intro i h; simp at h
  | cons p xs ih =>
    intro i hi
    have e : pairCells (p :: xs) = .int .i64 p.1 :: .int .i64 p.2 :: pairCells xs := rfl
    rw [e]
    cases i with
    | zero => exact ⟨rfl, rfl⟩
    | succ i =>
      have := ih i (by simpa using hi)
      rw [show (i + 1) * 2 = i * 2 + 2 from by omega, show i * 2 + 2 + 1 = (i * 2 + 1) + 2 from by omega]
      simpa using this

theorem pairCells_append (xs ys : List (Int × Int)) : pairCells (xs ++ ys) = pairCells xs ++ pairCells ys := by simp [pairCells]

def OwnP (w : World) (base : Nat) (e : TypeId) (v : Value) (xs : List (Int × Int)) : Prop := w.ownsRow base e 2 v xs.length (pairCells xs)

section
variable {w w' : World} {base base' : Nat} {e : TypeId} {v : Value} {xs ys : List (Int × Int)}
theorem OwnP.drew (h : OwnP w base e v xs) : OwnP w.drew base e v xs := h
theorem OwnP.alloc (h : OwnP w base e v xs) (o : Obj) : OwnP (w.alloc o) base e v xs := World.ownsRow.alloc h o
theorem OwnP.mono (h : OwnP w base e v xs) (hb : base' ≤ base) : OwnP w base' e v xs := ownsRow_mono h hb
theorem OwnP.ext (h : OwnP w base e v xs) (he : Ext w w') : OwnP w' base e v xs := ownsRow_ext h he
theorem OwnP.nil (w : World) (base : Nat) (e : TypeId) : OwnP w base e (.slice none 0 0) [] := World.ownsRow_nil w base e 2
theorem OwnP.congr (h : OwnP w base e v xs) (he : xs = ys) : OwnP w base e v ys := he ▸ h
theorem OwnP.block (h : OwnP w base e v xs) : ∀ k, v.ownBlock = some k → base ≤ k := fun k hk => (World.ownsRow.lt h k hk).1
theorem OwnP.form (h : OwnP w base e v xs) : ∃ a cap, v = .slice a xs.length cap ∧ (a = none ∧ cap = 0 ∨ ∃ g, a = some ⟨g, 0, none⟩) := by
  rcases h.2 with ⟨rfl, hn⟩ | ⟨g, cap, cur, hv, _⟩
  · exact ⟨none, 0, by rw [hn], .inl ⟨rfl, rfl⟩⟩
  · exact ⟨_, cap, hv, .inr ⟨g, rfl⟩⟩

theorem OwnP.pairs {a : Option Addr} {n cap : Nat} (h : OwnP w base e (.slice a n cap) xs) : PairsAt w a xs := by
  intro i hi
  rcases h.2 with ⟨hv, hn⟩ | ⟨g, cap', cur, hv, hg, hh, hnc, hm, hs, htake⟩
  · omega
  · cases hv
    have hp := pairCells_at xs i hi
    rw [← htake, List.getElem?_take, List.getElem?_take, if_pos (by omega), if_pos (by omega)] at hp
    refine ⟨g, 0, rfl, ?_, ?_⟩
    · rw [Nat.zero_add, cell_of_row w g _ cur e (0, 0) hh]; simpa using hp.1
    · rw [Nat.zero_add, cell_of_row w g _ cur e (0, 0) hh]; simpa using hp.2

theorem OwnP.kept {b : Nat} (h : OwnP w base e v xs) (hg : w.grownBy w' (some b)) (hb : b < base) : OwnP w' base e v xs := ownsRow_kept h hg hb

theorem pairCells_set2 : ∀ (xs : List (Int × Int)) (j : Nat) (u : Int), j < xs.length → (pairCells xs).set (j * 2 + 1) (.int .i64 u) = pairCells (xs.set j ((xs.getD j (0, 0)).1, u))
  | [], j, u, h => by simp at h
  | p :: xs, 0, u, _ => rfl
  | p :: xs, j + 1, u, h => by
    have e : ∀ (q : Int × Int) l, pairCells (q :: l) = .int .i64 q.1 :: .int .i64 q.2 :: pairCells l := fun _ _ => rfl
    have ih := pairCells_set2 xs j u (by simpa using h)
    rw [show (j + 1) * 2 + 1 = (j * 2 + 1) + 2 from by omega, e]
    simp only [List.set_cons_succ, List.getD_cons_succ]
    rw [e, ih]
theorem pairCells_set1 : ∀ (xs : List (Int × Int)) (j : Nat) (u : Int), j < xs.length → (pairCells xs).set (j * 2) (.int .i64 u) = pairCells (xs.set j (u, (xs.getD j (0, 0)).2))
  | [], j, u, h => by simp at h
  | p :: xs, 0, u, _ => rfl
  | p :: xs, j + 1, u, h => by
    have e : ∀ (q : Int × Int) l, pairCells (q :: l) = .int .i64 q.1 :: .int .i64 q.2 :: pairCells l := fun _ _ => rfl
    have ih := pairCells_set1 xs j u (by simpa using h)
    rw [show (j + 1) * 2 = (j * 2) + 2 from by omega, e]
    simp only [List.set_cons_succ, List.getD_cons_succ]
    rw [e, ih]

theorem OwnP.stored2 {g n cap : Nat} (h : OwnP w base e (.slice (some ⟨g, 0, none⟩) n cap) xs) (hn : n = xs.length) (j : Nat) (hj : j < xs.length) (u : Int) :
    OwnP (w.setCell ⟨g, j * 2 + 1, none⟩ (.int .i64 u)) base e (.slice (some ⟨g, 0, none⟩) n cap) (xs.set j ((xs.getD j (0, 0)).1, u)) := by
  subst hn
  have := (World.ownsRow.stored h (j * 2 + 1) (.int .i64 u)).1
  unfold OwnP
  rw [← pairCells_set2 xs j u hj, List.length_set]
  exact this
theorem OwnP.stored1 {g n cap : Nat} (h : OwnP w base e (.slice (some ⟨g, 0, none⟩) n cap) xs) (hn : n = xs.length) (j : Nat) (hj : j < xs.length) (u : Int) :
    OwnP (w.setCell ⟨g, j * 2, none⟩ (.int .i64 u)) base e (.slice (some ⟨g, 0, none⟩) n cap) (xs.set j (u, (xs.getD j (0, 0)).2)) := by
  subst hn
  have := (World.ownsRow.stored h (j * 2) (.int .i64 u)).1
  unfold OwnP
  rw [← pairCells_set1 xs j u hj, List.length_set]
  exact this
theorem OwnP.frozenAt {g n cap : Nat} (h : OwnP w base e (.slice (some ⟨g, 0, none⟩) n cap) xs) (hn : n = xs.length) (j : Nat) : w.frozen? ⟨g, j, none⟩ = false := by
  subst hn
  exact World.ownsRow.frozenAt h j
theorem OwnP.lt {g n cap : Nat} (h : OwnP w base e (.slice (some ⟨g, 0, none⟩) n cap) xs) : base ≤ g ∧ g < w.heap.size := World.ownsRow.lt h g rfl
end

section
variable {P : Program} {ops : Array Oper} {rest : List Oper} {o : Oper} {a : Act} {Q : Exit → Act → World → Prop} {w : World}
/-- append(s, x), one pair. -/
theorem wpList_appP (hg : o.guard = none) {s x : Operand} {t : TypeId} (ho : o.op = .call { callee := .builtin .append, args := #[s, x], argTypes := #[t, t] })
    (e : TypeId) {i : TypeInfo} (ht : P.underlying t = some (.slice e)) (hi : P.info? e = some i) (hz : i.zero = some (.agg #[.int .i64 0, .int .i64 0])) (hsize : i.size = 2) (hby : i.bytes = 16)
    (base : Nat) (hE : base ≤ w.heap.size) (v : Value) (xs : List (Int × Int)) (y1 y2 : Int) (hs : a.eval s = v) (hown : OwnP w base e v xs)
    (B c : Nat) (hx : a.eval x = .slice (some ⟨B, 0, none⟩) 1 c) (hblk : w.heap[B]? = some (.cells #[.int .i64 y1, .int .i64 y2] e (0, 0))) (hb : xs.length < 2 ^ 39)
    (h : ∀ g cap w', OwnP w' base e (.slice (some ⟨g, 0, none⟩) (xs.length + 1) cap) (xs ++ [(y1, y2)]) → w.grownBy w' v.ownBlock → (v.ownBlock = some g ∨ g = w.heap.size) → g < w'.heap.size →
      wpList P ops Q rest (a.put o.dst (.slice (some ⟨g, 0, none⟩) (xs.length + 1) cap)) w') : wpList P ops Q (o :: rest) a w := by
  refine wpList_app hg ho e ht hi hz hsize hby (by simp [Value.cells]) (by omega) (by omega) base hE v xs.length (pairCells xs) hs hown B 1 c [.int .i64 y1, .int .i64 y2] hx hblk (by simp) (by simp [Value.oneCell']) (by omega) (by omega) ?_
  intro g cap w' ho' hgr hor hlt
  refine h g cap w' ?_ hgr hor hlt
  unfold OwnP
  rw [pairCells_append]
  simpa [pairCells] using ho'
end
end Go.Proofs.YbyabwGreat
