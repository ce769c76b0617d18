/- Slices of structs: rows of elements of k cells each. Seat-independent. -/
import Derived.Test.YbyabwGreatStruct
import Derived.Test.YbyabwGreatPairs0
namespace Go.Proofs.YbyabwGreat
open Go.RowKit
set_option linter.unusedVariables false

/-- Every element has k cells. -/
def Wide (k : Nat) (xs : List (List Value)) : Prop := ∀ x ∈ xs, x.length = k

theorem Wide.nil (k : Nat) : Wide k [] := by intro x hx; cases hx
theorem Wide.cons {k : Nat} {x : List Value} {xs : List (List Value)} (h1 : x.length = k) (h2 : Wide k xs) : Wide k (x :: xs) := by
  intro y hy
  rcases List.mem_cons.1 hy with rfl | hy
  · exact h1
  · exact h2 y hy
theorem Wide.append {k : Nat} {xs ys : List (List Value)} (h1 : Wide k xs) (h2 : Wide k ys) : Wide k (xs ++ ys) := by
  intro y hy
  rcases List.mem_append.1 hy with hy | hy
  · exact h1 y hy
  · exact h2 y hy
theorem Wide.set {k : Nat} {xs : List (List Value)} (h1 : Wide k xs) (i : Nat) {x : List Value} (hx : x.length = k) : Wide k (xs.set i x) := by
  intro y hy
  rcases List.mem_or_eq_of_mem_set hy with hy | rfl
  · exact h1 y hy
  · exact hx
theorem Wide.replicate (k n : Nat) {x : List Value} (hx : x.length = k) : Wide k (List.replicate n x) := by
  intro y hy
  rw [(List.mem_replicate.1 hy).2]
  exact hx

theorem Wide.flat {k : Nat} : ∀ {xs : List (List Value)}, Wide k xs → xs.flatten.length = xs.length * k
  | [], _ => by simp
  | x :: xs, h => by
    have h1 := h x (by simp)
    have h2 := Wide.flat (xs := xs) (fun y hy => h y (by simp [hy]))
    simp only [List.flatten_cons, List.length_append, List.length_cons, h1, h2, Nat.add_mul]
    omega

theorem Wide.at {k : Nat} : ∀ {xs : List (List Value)}, Wide k xs → ∀ (i j : Nat), i < xs.length → j < k → xs.flatten[i * k + j]? = (xs.getD i [])[j]?
  | [], _, i, j, h, _ => by simp at h
  | x :: xs, h, i, j, hi, hj => by
    have h1 := h x (by simp)
    cases i with
    | zero =>
      simp only [List.flatten_cons, Nat.zero_mul, Nat.zero_add, List.getD_cons_zero]
      rw [List.getElem?_append_left (by omega)]
    | succ i =>
      have h2 := Wide.at (xs := xs) (fun y hy => h y (by simp [hy])) i j (by simpa using hi) hj
      simp only [List.flatten_cons, List.getD_cons_succ]
      rw [List.getElem?_append_right (by rw [h1, Nat.add_mul]; omega), h1, ← h2]
      congr 1
      rw [Nat.add_mul]
      omega

theorem Wide.put {k : Nat} : ∀ {xs : List (List Value)}, Wide k xs → ∀ (i : Nat) (v : List Value), i < xs.length → v.length = k → xs.flatten.take (i * k) ++ v ++ xs.flatten.drop (i * k + k) = (xs.set i v).flatten
  | [], _, i, v, h, _ => by simp at h
  | x :: xs, h, i, v, hi, hv => by
    have h1 := h x (by simp)
    cases i with
    | zero =>
      simp only [List.flatten_cons, Nat.zero_mul, Nat.zero_add, List.take_zero, List.nil_append, List.set_cons_zero]
      rw [List.drop_append_of_le_length (by omega), List.drop_eq_nil_of_le (by omega), List.nil_append]
    | succ i =>
      have h2 := Wide.put (xs := xs) (fun y hy => h y (by simp [hy])) i v (by simpa using hi) hv
      simp only [List.flatten_cons, List.set_cons_succ]
      rw [← h2, List.take_append, List.drop_append]
      have e1 : x.take ((i + 1) * k) = x := List.take_of_length_le (by rw [h1, Nat.add_mul]; omega)
      have e2 : x.drop ((i + 1) * k + k) = [] := List.drop_eq_nil_of_le (by rw [h1, Nat.add_mul]; omega)
      have e3 : (i + 1) * k - x.length = i * k := by rw [h1, Nat.add_mul]; omega
      have e4 : (i + 1) * k + k - x.length = i * k + k := by rw [h1, Nat.add_mul]; omega
      rw [e1, e2, e3, e4]
      simp

theorem Wide.put1 {k : Nat} : ∀ {xs : List (List Value)}, Wide k xs → ∀ (i j : Nat) (u : Value), i < xs.length → j < k → xs.flatten.set (i * k + j) u = (xs.set i ((xs.getD i []).set j u)).flatten
  | [], _, i, j, u, h, _ => by simp at h
  | x :: xs, h, i, j, u, hi, hj => by
    have h1 := h x (by simp)
    cases i with
    | zero =>
      simp only [List.flatten_cons, Nat.zero_mul, Nat.zero_add, List.getD_cons_zero, List.set_cons_zero]
      rw [List.set_append_left _ _ (by omega)]
    | succ i =>
      have h2 := Wide.put1 (xs := xs) (fun y hy => h y (by simp [hy])) i j u (by simpa using hi) hj
      simp only [List.flatten_cons, List.getD_cons_succ, List.set_cons_succ]
      rw [← h2, List.set_append_right _ _ (by rw [h1, Nat.add_mul]; omega), h1]
      congr 2
      rw [Nat.add_mul]
      omega

theorem getD_mem {xs : List (List Value)} {i : Nat} (hi : i < xs.length) : xs.getD i [] ∈ xs := by
  rw [List.getD_eq_getElem?_getD, List.getElem?_eq_getElem hi]
  exact List.getElem_mem hi

/-- A slice of structs as it is read. -/
def RowsAt (w : World) (k : Nat) (a : Option Addr) (xs : List (List Value)) : Prop := ∀ i, i < xs.length → ∃ b off, a = some ⟨b, off, none⟩ ∧ ∀ j u, (xs.getD i [])[j]? = some u → w.cell? ⟨b, off + i * k + j, none⟩ = some u

/-- A slice of structs of the call's own. -/
def OwnV (w : World) (base : Nat) (e : TypeId) (k : Nat) (v : Value) (xs : List (List Value)) : Prop := Wide k xs ∧ w.ownsRow base e k v xs.length xs.flatten

section
variable {w w' : World} {base base' k : Nat} {e : TypeId} {v : Value} {xs ys : List (List Value)}
theorem RowsAt.ext {a : Option Addr} (h : RowsAt w k a xs) (he : Ext w w') : RowsAt w' k a xs := by
  intro i hi
  obtain ⟨b, off, e, hc⟩ := h i hi
  exact ⟨b, off, e, fun j u hu => he.cell (hc j u hu)⟩
theorem RowsAt.nil (w : World) (k : Nat) (a : Option Addr) : RowsAt w k a [] := by intro i h; simp at h
theorem OwnV.drew (h : OwnV w base e k v xs) : OwnV w.drew base e k v xs := h
theorem OwnV.alloc (h : OwnV w base e k v xs) (o : Obj) : OwnV (w.alloc o) base e k v xs := ⟨h.1, World.ownsRow.alloc h.2 o⟩
theorem OwnV.mono (h : OwnV w base e k v xs) (hb : base' ≤ base) : OwnV w base' e k v xs := ⟨h.1, ownsRow_mono h.2 hb⟩
theorem OwnV.ext (h : OwnV w base e k v xs) (he : Ext w w') : OwnV w' base e k v xs := ⟨h.1, ownsRow_ext h.2 he⟩
theorem OwnV.nil (w : World) (base : Nat) (e : TypeId) (k : Nat) : OwnV w base e k (.slice none 0 0) [] := ⟨Wide.nil k, World.ownsRow_nil w base e k⟩
theorem OwnV.congr (h : OwnV w base e k v xs) (he : xs = ys) : OwnV w base e k v ys := he ▸ h
theorem OwnV.block (h : OwnV w base e k v xs) : ∀ q, v.ownBlock = some q → base ≤ q := fun q hq => (World.ownsRow.lt h.2 q hq).1
theorem OwnV.kept {b : Nat} (h : OwnV w base e k v xs) (hg : w.grownBy w' (some b)) (hb : b < base) : OwnV w' base e k v xs := ⟨h.1, ownsRow_kept h.2 hg hb⟩
theorem OwnV.form (h : OwnV w base e k v xs) : ∃ a cap, v = .slice a xs.length cap ∧ (a = none ∧ cap = 0 ∧ xs.length = 0 ∨ ∃ g, a = some ⟨g, 0, none⟩) := by
  rcases h.2.2 with ⟨rfl, hn⟩ | ⟨g, cap, cur, hv, _⟩
  · exact ⟨none, 0, by rw [hn], .inl ⟨rfl, rfl, hn⟩⟩
  · exact ⟨_, cap, hv, .inr ⟨g, rfl⟩⟩
theorem OwnV.lt {g n cap : Nat} (h : OwnV w base e k (.slice (some ⟨g, 0, none⟩) n cap) xs) : base ≤ g ∧ g < w.heap.size := World.ownsRow.lt h.2 g rfl
theorem OwnV.len {a : Option Addr} {n cap : Nat} (h : OwnV w base e k (.slice a n cap) xs) : n = xs.length := by
  obtain ⟨_, _, e, _⟩ := h.form
  cases e
  rfl
theorem OwnV.blk {g n cap : Nat} (h : OwnV w base e k (.slice (some ⟨g, 0, none⟩) n cap) xs) : ∃ rest, Blk w g e (xs.flatten ++ rest) ∧ (xs.flatten ++ rest).length = cap * k ∧ xs.length ≤ cap ∧ cap ≤ maxLen := by
  rcases h.2.2 with ⟨hv, hn⟩ | ⟨g', cap', cur, hv, hg, hh, hnc, hm, hs, htake⟩
  · cases hv
  · cases hv
    refine ⟨cur.toList.drop (xs.length * k), ?_, ?_, hnc, hm⟩
    · unfold Blk
      rw [← htake, List.take_append_drop]
      exact hh
    · rw [← htake, List.take_append_drop]
      simpa using hs
theorem OwnV.of_blk {g cap : Nat} {rest : List Value} (hb : Blk w g e (xs.flatten ++ rest)) (hw : Wide k xs) (hg : base ≤ g) (hl : (xs.flatten ++ rest).length = cap * k) (hc : xs.length ≤ cap) (hm : cap ≤ maxLen) :
    OwnV w base e k (.slice (some ⟨g, 0, none⟩) xs.length cap) xs := by
  refine ⟨hw, hw.flat, .inr ⟨g, cap, (xs.flatten ++ rest).toArray, rfl, hg, hb, hc, hm, by simpa using hl, ?_⟩⟩
  rw [List.toList_toArray, ← hw.flat, List.take_left]
theorem OwnV.rows {a : Option Addr} {n cap : Nat} (h : OwnV w base e k (.slice a n cap) xs) : RowsAt w k a xs := by
  intro i hi
  obtain ⟨a', cap', e, hf⟩ := h.form
  cases e
  rcases hf with ⟨_, _, hn⟩ | ⟨g, rfl⟩
  · omega
  · obtain ⟨rest, hb, hl, _⟩ := h.blk
    refine ⟨g, 0, rfl, fun j u hu => ?_⟩
    have hx : (xs.getD i []).length = k := h.1 _ (getD_mem hi)
    have hj : j < k := by rw [← hx]; exact (List.getElem?_eq_some_iff.1 hu).1
    have hat := h.1.at i j hi hj
    rw [Nat.zero_add]
    refine hb.box _ _ ?_
    rw [List.getElem?_append_left, hat]
    · exact hu
    · rw [h.1.flat]
      calc i * k + j < i * k + k := by omega
        _ = (i + 1) * k := by rw [Nat.add_mul]; omega
        _ ≤ xs.length * k := Nat.mul_le_mul_right _ hi
theorem OwnV.frozenAt {g n cap : Nat} (h : OwnV w base e k (.slice (some ⟨g, 0, none⟩) n cap) xs) (j : Nat) : w.frozen? ⟨g, j, none⟩ = false := by
  obtain ⟨rest, hb, _⟩ := h.blk
  exact hb.frozen j
/-- One field of one element is written. -/
theorem OwnV.stored1 {g n cap : Nat} (h : OwnV w base e k (.slice (some ⟨g, 0, none⟩) n cap) xs) (i j : Nat) (hi : i < xs.length) (hj : j < k) (u : Value) :
    OwnV (w.setCell ⟨g, i * k + j, none⟩ u) base e k (.slice (some ⟨g, 0, none⟩) n cap) (xs.set i ((xs.getD i []).set j u)) := by
  obtain rfl := h.len
  have hx : (xs.getD i []).length = k := h.1 _ (getD_mem hi)
  refine ⟨h.1.set i (by rw [List.length_set]; exact hx), ?_⟩
  have := (World.ownsRow.stored h.2 (i * k + j) u).1
  rw [h.1.put1 i j u hi hj] at this
  rw [List.length_set]
  exact this
end

section
variable {P : Program} {ops : Array Oper} {rest : List Oper} {o : Oper} {a : Act} {Q : Exit → Act → World → Prop} {w : World}
/-- s[i] = T{..}: a whole element is written. -/
theorem wpList_storeV (hg : o.guard = none) {x y : Operand} {t : TypeId} (ho : o.op = .store t x y) {base g i n cap k : Nat} {e : TypeId} {xs : List (List Value)} {vs : List Value} (hx : a.eval x = .pointer (some ⟨g, i * k, none⟩)) (hy : a.eval y = .agg vs.toArray)
    (hown : OwnV w base e k (.slice (some ⟨g, 0, none⟩) n cap) xs) (hi : i < xs.length) (hsz : (P.info? t).map (·.size) = some k) (hvs : vs.length = k) (h1 : ∀ u ∈ vs, u.oneCell' = true)
    (hK : ∀ w', OwnV w' base e k (.slice (some ⟨g, 0, none⟩) n cap) (xs.set i vs) → w.grownBy w' (some g) → wpList P ops Q rest (a.put o.dst undef) w') : wpList P ops Q (o :: rest) a w := by
  obtain rfl := hown.len
  obtain ⟨tail, hb, hl, hc, hm⟩ := hown.blk
  have hfl := hown.1.flat
  have hik : i * k + k ≤ xs.length * k := by
    calc i * k + k = (i + 1) * k := by rw [Nat.add_mul]; omega
      _ ≤ xs.length * k := Nat.mul_le_mul_right _ hi
  refine wpList_storeAt hg ho hx hy hb (by rw [hvs]; exact hsz) (by rw [List.length_append, hfl]; omega) h1 fun w' hb' hgr => hK w' ?_ hgr
  have e1 : (xs.flatten ++ tail).take (i * k) ++ vs ++ (xs.flatten ++ tail).drop (i * k + vs.length) = (xs.set i vs).flatten ++ tail := by
    rw [← hown.1.put i vs hi hvs, hvs, List.take_append_of_le_length (by omega), List.drop_append_of_le_length (by omega)]
    simp
  rw [e1] at hb'
  have hlen : ((xs.set i vs).flatten ++ tail).length = cap * k := by
    rw [← hl, List.length_append, List.length_append, hfl, (hown.1.set i hvs).flat, List.length_set]
  have := OwnV.of_blk hb' (hown.1.set i hvs) hown.lt.1 hlen (by rw [List.length_set]; exact hc) hm
  rw [List.length_set] at this
  exact this

/-- append(s, T{..}) -/
theorem wpList_appV (hg : o.guard = none) {s x : Operand} {t : TypeId} (ho : o.op = .call { callee := .builtin .append, args := #[s, x], argTypes := #[t, t] })
    (e : TypeId) {i : TypeInfo} {z : Value} {k : Nat} (ht : P.underlying t = some (.slice e)) (hi : P.info? e = some i) (hz : i.zero = some z) (hsize : i.size = k) (hby : i.bytes ≤ 128) (hzs : z.cells.size = k) (hk : 0 < k)
    (base : Nat) (hE : base ≤ w.heap.size) (v : Value) (xs : List (List Value)) (y : List Value) (hs : a.eval s = v) (hown : OwnV w base e k v xs)
    (B c : Nat) (hx : a.eval x = .slice (some ⟨B, 0, none⟩) 1 c) (hblk : w.heap[B]? = some (.cells y.toArray e (0, 0))) (hy : y.length = k) (h1 : ∀ u ∈ y, u.oneCell' = true) (hb : xs.length < 2 ^ 39)
    (h : ∀ g cap w', OwnV w' base e k (.slice (some ⟨g, 0, none⟩) (xs.length + 1) cap) (xs ++ [y]) → w.grownBy w' v.ownBlock → (v.ownBlock = some g ∨ g = w.heap.size) → g < w'.heap.size →
      wpList P ops Q rest (a.put o.dst (.slice (some ⟨g, 0, none⟩) (xs.length + 1) cap)) w') : wpList P ops Q (o :: rest) a w := by
  refine wpList_app hg ho e ht hi hz hsize rfl hzs hk hby base hE v xs.length xs.flatten hs hown.2 B 1 c y hx hblk (by omega) h1 (by omega) (by omega) ?_
  intro g cap w' ho' hgr hor hlt
  refine h g cap w' ⟨hown.1.append (Wide.cons hy (Wide.nil k)), ?_⟩ hgr hor hlt
  simpa using ho'

/-- _ = append(s, T{..}) -/
theorem wpList_probeV (hg : o.guard = none) {s x : Operand} {t : TypeId} (ho : o.op = .call { callee := .builtin .append, args := #[s, x], argTypes := #[t, t] })
    (e : TypeId) {i : TypeInfo} {z : Value} {k : Nat} (ht : P.underlying t = some (.slice e)) (hi : P.info? e = some i) (hz : i.zero = some z) (hsize : i.size = k) (hby : i.bytes ≤ 128) (hzs : z.cells.size = k) (hk : 0 < k)
    (base : Nat) (hE : base ≤ w.heap.size) (v : Value) (xs : List (List Value)) (y : List Value) (hs : a.eval s = v) (hown : OwnV w base e k v xs)
    (B c : Nat) (hx : a.eval x = .slice (some ⟨B, 0, none⟩) 1 c) (hblk : w.heap[B]? = some (.cells y.toArray e (0, 0))) (hy : y.length = k) (h1 : ∀ u ∈ y, u.oneCell' = true) (hb : xs.length < 2 ^ 39)
    (h : ∀ v' w', OwnV w' base e k v xs → Below base w w' → wpList P ops Q rest (a.put o.dst v') w') : wpList P ops Q (o :: rest) a w := by
  refine wpList_probe hg ho e ht hi hz hsize rfl hzs hk base hE v xs.length xs.flatten hs hown.2 B c y hx hblk hy h1 (by simp only [maxLen]; omega) ?_ fun v' w' ho' hbl => h v' w' ⟨hown.1, ho'⟩ hbl
  calc (xs.length + 1) * i.bytes ≤ (xs.length + 1) * 128 := Nat.mul_le_mul_left _ hby
    _ ≤ 140737488355328 := by omega

theorem madeCells_flat (z : Array Value) (n : Nat) (hz : 0 < z.size) : (madeCells z (n * z.size)).toList = (List.replicate n z.toList).flatten := by
  apply List.ext_getElem?
  intro p
  have hw : Wide z.size (List.replicate n z.toList) := Wide.replicate _ _ (by simp)
  by_cases hp : p < n * z.size
  · have e : p = p / z.size * z.size + p % z.size := by rw [Nat.mul_comm]; exact (Nat.div_add_mod p z.size).symm
    have hd : p / z.size < n := Nat.div_lt_of_lt_mul (by rwa [Nat.mul_comm])
    have hm : p % z.size < z.size := Nat.mod_lt _ hz
    have := hw.at (p / z.size) (p % z.size) (by simpa using hd) hm
    rw [← e] at this
    rw [this]
    have e2 : (List.replicate n z.toList).getD (p / z.size) [] = z.toList := by simp [List.getD_eq_getElem?_getD, hd]
    rw [e2]
    simp [madeCells, hp, hm]
  · rw [List.getElem?_eq_none (by simp [madeCells]; omega), List.getElem?_eq_none (by rw [hw.flat]; simpa using Nat.le_of_not_lt hp)]

/-- make([]T, n) -/
theorem wpList_mkV (hg : o.guard = none) {l c : Operand} {t : TypeId} (hop : o.op = Op.makeSlice t l c) (e : TypeId) {i : TypeInfo} {z : Value} {k : Nat}
    (h1 : P.underlying t = some (.slice e)) (h2 : P.info? e = some i) (h3 : i.zero = some z) (h4 : i.size = k) (h5 : i.bytes ≤ 128) (hzs : z.cells.size = k) (hk : 0 < k)
    (n : Nat) (hl : a.eval l = .int .i64 n) (hc : a.eval c = .int .i64 n) (hb : n < 2 ^ 40) (N : Nat) (hN : w.heap.size = N)
    (hK : ∀ w', OwnV w' N e k (.slice (some ⟨N, 0, none⟩) n n) (List.replicate n z.cells.toList) → Ext w w' → w'.heap.size = N + 1 → wpList P ops Q rest (a.put o.dst (.slice (some ⟨N, 0, none⟩) n n)) w') :
    wpList P ops Q (o :: rest) a w := by
  subst hN
  refine wpList_plain hg fun K hK' => ?_
  have hrun := run_make (P := P) w t e i z h1 h2 h3 .i64 .i64 n n (by omega) (by omega) (by
    have : (i.bytes : Int) * n ≤ 128 * n := Int.mul_le_mul_of_nonneg_right (by omega) (by omega)
    omega) (by omega)
  have hown : (w.alloc (.cells (madeCells z.cells (n * i.size)) e)).ownsRow w.heap.size e k (.slice (some ⟨w.heap.size, 0, none⟩) n n) n (madeCells z.cells (n * i.size)).toList :=
    World.ownsRow_lit w _ n (Nat.le_refl _) (by unfold maxLen; omega) (by rw [size_madeCells, h4])
  unfold Oper.wp
  simp [execOp, hop, hl, hc, hrun, Result.andThen]
  refine hK' _ _ (hK _ ⟨Wide.replicate _ _ (by simpa using hzs), ?_⟩ ((Ext.refl w).alloc _) (by simp))
  rw [List.length_replicate, ← madeCells_flat z.cells n (by omega), hzs]
  rw [h4] at hown
  simpa [h4] using hown
end

/-- An empty slice that is not nil. -/
theorem ownsRow_empty (w : World) (e : TypeId) (k : Nat) : (w.alloc (.cells #[] e)).ownsRow w.heap.size e k (.slice (some ⟨w.heap.size, 0, none⟩) 0 0) 0 [] :=
  ⟨by simp, .inr ⟨w.heap.size, 0, #[], rfl, Nat.le_refl _, heap_alloc_new w _, Nat.le_refl _, by unfold maxLen; omega, by simp, by simp⟩⟩
end Go.Proofs.YbyabwGreat
