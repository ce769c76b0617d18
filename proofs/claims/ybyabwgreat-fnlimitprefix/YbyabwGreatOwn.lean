/- Slices of the call's own: make, append, copy, stores. Seat-independent. -/
import Derived.Test.YbyabwGreatMem
import Derived.Deep.AppendLies
import Derived.Laws.CopyOwn
import Derived.Maps.AppendAt
namespace Go.Proofs.YbyabwGreat
open Go.RowKit

/-- v owns a row of integers (elements of type e). -/
def OwnI (w : World) (base : Nat) (e : TypeId) (v : Value) (xs : List Int) : Prop := w.ownsRow base e 1 v xs.length (xs.map (Value.int .i64))

theorem OwnI.drew {w : World} {base : Nat} {e : TypeId} {v : Value} {xs : List Int} (h : OwnI w base e v xs) : OwnI w.drew base e v xs := h
theorem OwnI.alloc {w : World} {base : Nat} {e : TypeId} {v : Value} {xs : List Int} (h : OwnI w base e v xs) (o : Obj) : OwnI (w.alloc o) base e v xs := World.ownsRow.alloc h o

theorem ownsRow_mono {w : World} {base base' : Nat} {e : TypeId} {size : Nat} {v : Value} {n : Nat} {xs : List Value} (h : w.ownsRow base e size v n xs) (hb : base' ≤ base) : w.ownsRow base' e size v n xs := by
  obtain ⟨h1, h2⟩ := h
  refine ⟨h1, h2.imp id ?_⟩
  rintro ⟨g, cap, cur, hv, hg, r⟩
  exact ⟨g, cap, cur, hv, by omega, r⟩

theorem OwnI.mono {w : World} {base base' : Nat} {e : TypeId} {v : Value} {xs : List Int} (h : OwnI w base e v xs) (hb : base' ≤ base) : OwnI w base' e v xs := ownsRow_mono h hb

/-- What is owned stays so where all blocks stay. -/
theorem ownsRow_ext {w w' : World} {base : Nat} {e : TypeId} {size : Nat} {v : Value} {n : Nat} {xs : List Value} (h : w.ownsRow base e size v n xs) (he : Ext w w') : w'.ownsRow base e size v n xs := by
  obtain ⟨h1, h2⟩ := h
  refine ⟨h1, h2.imp id ?_⟩
  rintro ⟨g, cap, cur, hv, hg, hh, r⟩
  have : g < w.heap.size := (Array.getElem?_eq_some_iff.1 hh).1
  exact ⟨g, cap, cur, hv, hg, by rw [he.block g this]; exact hh, r⟩
theorem OwnI.ext {w w' : World} {base : Nat} {e : TypeId} {v : Value} {xs : List Int} (h : OwnI w base e v xs) (he : Ext w w') : OwnI w' base e v xs := ownsRow_ext h he

theorem ownsRow_lt {w : World} {base : Nat} {e : TypeId} {size : Nat} {g : Nat} {n cap : Nat} {xs : List Value} (h : w.ownsRow base e size (.slice (some ⟨g, 0, none⟩) n cap) n xs) : base ≤ g ∧ g < w.heap.size := h.lt g rfl

theorem OwnI.lt {w : World} {base : Nat} {e : TypeId} {g n cap : Nat} {xs : List Int} (h : OwnI w base e (.slice (some ⟨g, 0, none⟩) n cap) xs) : base ≤ g ∧ g < w.heap.size := World.ownsRow.lt h g rfl

theorem OwnI.nil (w : World) (base : Nat) (e : TypeId) : OwnI w base e (.slice none 0 0) [] := World.ownsRow_nil w base e 1

/-- Its value is a slice of that length. -/
theorem OwnI.form {w : World} {base : Nat} {e : TypeId} {v : Value} {xs : List Int} (h : OwnI w base e v xs) : ∃ a cap, v = .slice a xs.length cap ∧ (a = none ∧ cap = 0 ∨ ∃ g, a = some ⟨g, 0, none⟩) := by
  rcases h.2 with ⟨rfl, hn⟩ | ⟨g, cap, cur, hv, _⟩
  · exact ⟨none, 0, by rw [hn], .inl ⟨rfl, rfl⟩⟩
  · exact ⟨_, cap, hv, .inr ⟨g, rfl⟩⟩

/-- It can be read. -/
theorem OwnI.ints {w : World} {base : Nat} {e : TypeId} {a : Option Addr} {n cap : Nat} {xs : List Int} (h : OwnI w base e (.slice a n cap) xs) : IntsAt w a xs := by
  intro i hi
  rcases h.2 with ⟨hv, hn⟩ | ⟨g, cap', cur, hv, hg, hh, hnc, hm, hs, htake⟩
  · omega
  · cases hv
    refine ⟨g, 0, rfl, ?_⟩
    rw [Nat.zero_add, cell_of_row w g i cur e (0, 0) hh]
    have : (cur.toList.take (xs.length * 1))[i]? = some (.int .i64 (xs.getD i 0)) := by rw [htake]; simp [hi]
    rw [List.getElem?_take, if_pos (by omega)] at this
    simpa using this

/-- A store into it. -/
theorem OwnI.stored {w : World} {base : Nat} {e : TypeId} {g n cap : Nat} {xs : List Int} (h : OwnI w base e (.slice (some ⟨g, 0, none⟩) n cap) xs) (hn : n = xs.length) (j : Nat) (u : Int) :
    OwnI (w.setCell ⟨g, j, none⟩ (.int .i64 u)) base e (.slice (some ⟨g, 0, none⟩) n cap) (xs.set j u) := by
  subst hn
  have := (World.ownsRow.stored h j (.int .i64 u)).1
  unfold OwnI
  rw [List.map_set, List.length_set]
  exact this

theorem OwnI.frozenAt {w : World} {base : Nat} {e : TypeId} {g n cap : Nat} {xs : List Int} (h : OwnI w base e (.slice (some ⟨g, 0, none⟩) n cap) xs) (hn : n = xs.length) (j : Nat) : w.frozen? ⟨g, j, none⟩ = false := by
  subst hn
  exact World.ownsRow.frozenAt h j

theorem OwnI.cellAt {w : World} {base : Nat} {e : TypeId} {g n cap : Nat} {xs : List Int} (h : OwnI w base e (.slice (some ⟨g, 0, none⟩) n cap) xs) (j : Nat) (hj : j < xs.length) : w.cell? ⟨g, j, none⟩ = some (.int .i64 (xs.getD j 0)) := by
  have := h.ints.at j hj
  simpa using this

theorem OwnI.congr {w : World} {base : Nat} {e : TypeId} {v : Value} {xs ys : List Int} (h : OwnI w base e v xs) (he : xs = ys) : OwnI w base e v ys := he ▸ h

/-- What is owned from base on stays so while a block below base is written. -/
theorem ownsRow_kept {w w' : World} {base b : Nat} {e : TypeId} {size : Nat} {v : Value} {n : Nat} {xs : List Value} (h : w.ownsRow base e size v n xs) (hg : w.grownBy w' (some b)) (hb : b < base) : w'.ownsRow base e size v n xs :=
  h.kept hg (by
    cases hob : v.ownBlock with
    | none => exact .inl rfl
    | some k => refine .inr (fun e => ?_); have := (h.lt k hob).1; cases e; omega)
theorem OwnI.kept {w w' : World} {base b : Nat} {e : TypeId} {v : Value} {xs : List Int} (h : OwnI w base e v xs) (hg : w.grownBy w' (some b)) (hb : b < base) : OwnI w' base e v xs := ownsRow_kept h hg hb

/-- A call that hands back a new slice of integers. -/
def RetInts (e : TypeId) (xs : List Int) (w : World) : Ending → World → Prop := fun en w' => ∃ a cap, en = .returned (.slice a xs.length cap) ∧ OwnI w' w.heap.size e (.slice a xs.length cap) xs ∧ Ext w w'

/-- Behind a law that grows a row of the call's own. -/
theorem Ext.grown {w0 w w' : World} {row : Option Nat} (h : Ext w0 w) (hg : w.grownBy w' row) (hr : ∀ k, row = some k → w0.heap.size ≤ k) : Ext w0 w' := Below.grown h hg h.size hr
theorem Box.grown {w w' : World} {row : Option Nat} {b : Nat} {vs : List Value} (h : Box w b vs) (hg : w.grownBy w' row) (hr : row ≠ some b) : Box w' b vs := by
  intro i v hv
  exact hg.cell (h i v hv) (fun e => hr e.symm)
theorem Box.setCell {w : World} {b : Nat} {vs : List Value} (h : Box w b vs) {p : Addr} (hp : p.block ≠ b) (u : Value) : Box (w.setCell p u) b vs := by
  intro i v hv
  rw [World.cell?_of_block (w := w) (a := ⟨b, i, none⟩) (Below.heap_setCell w p u b (Ne.symm hp))]
  exact h i v hv

section
variable {P : Program} {ops : Array Oper} {rest : List Oper} {o : Oper} {a : Act} {Q : Exit → Act → World → Prop} {w : World}

theorem made_ints (n : Nat) : (madeCells (Value.int .i64 0).cells n).toList = (List.replicate n (0 : Int)).map (Value.int .i64) := by
  apply List.ext_getElem
  · simp [madeCells]
  · intro i h1 h2
    simp [madeCells, Value.cells, Nat.mod_one]

/-- make([]int.., n) -/
theorem wpList_mkI (hg : o.guard = none) {l c : Operand} {t : TypeId} (hop : o.op = Op.makeSlice t l c) (e : TypeId) {i : TypeInfo}
    (h1 : P.underlying t = some (.slice e)) (h2 : P.info? e = some i) (h3 : i.zero = some (.int .i64 0)) (h4 : i.size = 1) (h5 : i.bytes = 8)
    (n : Nat) (hl : a.eval l = .int .i64 n) (hc : a.eval c = .int .i64 n) (hb : n < 2 ^ 40) (N : Nat) (hN : w.heap.size = N)
    (hK : ∀ w', OwnI w' N e (.slice (some ⟨N, 0, none⟩) n n) (List.replicate n 0) → Ext w w' → w'.heap.size = N + 1 → wpList P ops Q rest (a.put o.dst (.slice (some ⟨N, 0, none⟩) n n)) w') :
    wpList P ops Q (o :: rest) a w := by
  subst hN
  refine wpList_plain hg fun K hK' => ?_
  have hrun := run_make (P := P) w t e i (.int .i64 0) h1 h2 h3 .i64 .i64 n n (by omega) (by omega) (by rw [h5]; omega) (by omega)
  have hown : (w.alloc (.cells (madeCells (Value.int .i64 0).cells (n * i.size)) e)).ownsRow w.heap.size e 1 (.slice (some ⟨w.heap.size, 0, none⟩) n n) n (madeCells (Value.int .i64 0).cells (n * i.size)).toList :=
    World.ownsRow_lit w _ n (Nat.le_refl _) (by unfold maxLen; omega) (by rw [size_madeCells, h4])
  unfold Oper.wp
  simp [execOp, hop, hl, hc, hrun, Result.andThen]
  refine hK' _ _ (hK _ ?_ ((Ext.refl w).alloc _) (by simp))
  unfold OwnI
  rw [← made_ints]
  simpa [h4] using hown

/-- append(s, x) where x lies in a block of its own (an element, or several, just built). -/
theorem wpList_app (hg : o.guard = none) {s x : Operand} {t : TypeId} (ho : o.op = .call { callee := .builtin .append, args := #[s, x], argTypes := #[t, t] })
    (e : TypeId) {i : TypeInfo} {z : Value} {size bytes : Nat} (ht : P.underlying t = some (.slice e)) (hi : P.info? e = some i) (hz : i.zero = some z) (hsize : i.size = size) (hby : i.bytes = bytes)
    (hzs : z.cells.size = size) (hsz : 0 < size) (hbs : bytes ≤ 128) (base : Nat) (hE : base ≤ w.heap.size) (v : Value) (n : Nat) (xs : List Value) (hs : a.eval s = v) (hown : w.ownsRow base e size v n xs)
    (B m c : Nat) (ys : List Value) (hx : a.eval x = .slice (some ⟨B, 0, none⟩) m c) (hblk : w.heap[B]? = some (.cells ys.toArray e (0, 0))) (hys : ys.length = m * size) (h1 : ∀ u ∈ ys, u.oneCell' = true)
    (hm : 0 < m) (hb : n + m < 2 ^ 40)
    (h : ∀ g cap w', w'.ownsRow base e size (.slice (some ⟨g, 0, none⟩) (n + m) cap) (n + m) (xs ++ ys) → w.grownBy w' v.ownBlock → (v.ownBlock = some g ∨ g = w.heap.size) → g < w'.heap.size →
      wpList P ops Q rest (a.put o.dst (.slice (some ⟨g, 0, none⟩) (n + m) cap)) w') : wpList P ops Q (o :: rest) a w := by
  refine wpList_append_lies w hg s x t ho base e i z size bytes ht hi hz hsize hby hzs hsz v n xs hs hown ⟨B, 0, none⟩ m c ys hx hys ?_ h1 hm (by unfold maxLen; omega) ?_ hE w.heap.size rfl ?_
  · intro j u hu
    exact World.news_of_block hblk j u (by simpa using hu)
  · calc (n + m) * bytes ≤ (n + m) * 128 := Nat.mul_le_mul_left _ hbs
      _ ≤ 140737488355328 := by omega
  · intro g cap w' ho' hgr hor hlt
    exact h g cap w' ho' hgr hor hlt

/-- append(s, x), one integer. -/
theorem wpList_appI (hg : o.guard = none) {s x : Operand} {t : TypeId} (ho : o.op = .call { callee := .builtin .append, args := #[s, x], argTypes := #[t, t] })
    (e : TypeId) {i : TypeInfo} (ht : P.underlying t = some (.slice e)) (hi : P.info? e = some i) (hz : i.zero = some (.int .i64 0)) (hsize : i.size = 1) (hby : i.bytes = 8)
    (base : Nat) (hE : base ≤ w.heap.size) (v : Value) (xs : List Int) (y : Int) (hs : a.eval s = v) (hown : OwnI w base e v xs)
    (B c : Nat) (hx : a.eval x = .slice (some ⟨B, 0, none⟩) 1 c) (hblk : w.heap[B]? = some (.cells #[.int .i64 y] e (0, 0))) (hb : xs.length < 2 ^ 39)
    (h : ∀ g cap w', OwnI w' base e (.slice (some ⟨g, 0, none⟩) (xs.length + 1) cap) (xs ++ [y]) → w.grownBy w' v.ownBlock → (v.ownBlock = some g ∨ g = w.heap.size) → g < w'.heap.size →
      wpList P ops Q rest (a.put o.dst (.slice (some ⟨g, 0, none⟩) (xs.length + 1) cap)) w') : wpList P ops Q (o :: rest) a w := by
  refine wpList_app hg ho e ht hi hz hsize hby (by simp [Value.cells]) (by omega) (by omega) base hE v xs.length (xs.map (Value.int .i64)) hs hown B 1 c [.int .i64 y] hx hblk (by simp) (by simp [Value.oneCell']) (by omega) (by omega) ?_
  intro g cap w' ho' hgr hor hlt
  refine h g cap w' ?_ hgr hor hlt
  unfold OwnI
  simpa using ho'

/-- Where a row of the call's own may lie. -/
theorem OwnI.block {w : World} {base : Nat} {e : TypeId} {v : Value} {xs : List Int} (h : OwnI w base e v xs) : ∀ k, v.ownBlock = some k → base ≤ k := fun k hk => (World.ownsRow.lt h k hk).1

/-- make([]int.., 0, n) -/
theorem wpList_mk0 (hg : o.guard = none) {c : Operand} {t : TypeId} (hop : o.op = Op.makeSlice t (.const (.int .i64 0)) c) (e : TypeId) {i : TypeInfo} {z : Value} {size : Nat}
    (h1 : P.underlying t = some (.slice e)) (h2 : P.info? e = some i) (h3 : i.zero = some z) (h4 : i.size = size) (h5 : i.bytes ≤ 128)
    (n : Nat) (hc : a.eval c = .int .i64 n) (hb : n < 2 ^ 40) (N : Nat) (hN : w.heap.size = N)
    (hK : ∀ w', w'.ownsRow N e size (.slice (some ⟨N, 0, none⟩) 0 n) 0 [] → Ext w w' → w'.heap.size = N + 1 → wpList P ops Q rest (a.put o.dst (.slice (some ⟨N, 0, none⟩) 0 n)) w') :
    wpList P ops Q (o :: rest) a w := by
  subst hN
  refine wpList_plain hg fun K hK' => ?_
  have hrun := run_make (P := P) w t e i z h1 h2 h3 .i64 .i64 0 n (by omega) (by omega) (by
    have : (i.bytes : Int) * n ≤ 128 * n := Int.mul_le_mul_of_nonneg_right (by omega) (by omega)
    omega) (by omega)
  unfold Oper.wp
  have he : a.eval (.const (.int .i64 0)) = .int .i64 0 := rfl
  simp [execOp, hop, hc, he, hrun, Result.andThen]
  refine hK' _ _ (hK _ ?_ ((Ext.refl w).alloc _) (by simp))
  refine ⟨by simp, .inr ⟨w.heap.size, n, _, rfl, Nat.le_refl _, heap_alloc_new w _, by omega, by unfold maxLen; omega, by rw [size_madeCells, h4], by simp⟩⟩

/-- copy(d, s): a row of integers of the call's own, of the same length as the source. -/
theorem wpList_cpI (hg : o.guard = none) {d s : Operand} {dT sT : TypeId} (ho : o.op = .call { callee := .builtin .copy, args := #[d, s], argTypes := #[dT, sT] }) (e : TypeId) (hu : P.underlying dT = some (.slice e)) (hsz : (P.info? e).map (·.size) = some 1)
    (base : Nat) (g n cap : Nat) (xs ys : List Int) (hd : a.eval d = .slice (some ⟨g, 0, none⟩) n cap) (hn : n = xs.length) (hown : OwnI w base e (.slice (some ⟨g, 0, none⟩) n cap) xs)
    (sp : Option Addr) (m sCap : Nat) (hs : a.eval s = .slice sp m sCap) (hm : m = ys.length) (hys : IntsAt w sp ys) (hlen : xs.length = ys.length)
    (h : ∀ w', OwnI w' base e (.slice (some ⟨g, 0, none⟩) n cap) ys → w.grownBy w' (some g) → wpList P ops Q rest (a.put o.dst (goInt ys.length)) w') : wpList P ops Q (o :: rest) a w := by
  subst hn
  subst hm
  have hown' := hown
  rcases hown.2 with ⟨hv, _⟩ | ⟨g', cap', cur, hv, hbg, hh, hnc, hcm, hcs, htake⟩
  · cases hv
  cases hv
  have hle : xs.length ≤ cur.size := by omega
  by_cases h0 : ys.length = 0
  · have hy : ys = [] := List.eq_nil_of_length_eq_zero h0
    have hx : xs = [] := List.eq_nil_of_length_eq_zero (by omega)
    subst hy; subst hx
    exact wpList_copy_nothing hg d s dT sT ho e hu hsz _ sp _ _ _ _ hd hs (by simp) (h w hown' (World.grownBy.refl _ _))
  · obtain ⟨b, off, rfl, _⟩ := hys 0 (by omega)
    refine wpList_copy_own hg d s dT sT ho e hu hsz g 0 _ _ ⟨b, off, none⟩ _ _ hd hs cur e hh (ys.map (Value.int .i64)) (by simp [hlen]) ?_ (by simp; omega) (ints_oneCell _ _) ?_
    · intro j v hv
      have hj : j < ys.length := by
        rcases Nat.lt_or_ge j ys.length with h | h
        · exact h
        · simp [List.getElem?_eq_none h] at hv
      have hc := hys.at j hj
      have hadd : (⟨b, off, none⟩ : Addr).add j = ⟨b, off + j, none⟩ := by unfold Addr.add; split <;> simp_all
      rw [hadd, hc]
      simp [hj] at hv ⊢
      exact hv
    · have hgo : (goInt ((ys.map (Value.int .i64)).length : Int)) = goInt ys.length := by simp
      rw [hgo]
      refine h _ ?_ ⟨rfl, rfl, rfl, by simp [World.setRow], fun k _ hk => setRow_other w g k _ (fun e => hk (by simp [e]))⟩
      refine ⟨by simp, .inr ⟨g, cap, _, by rw [hlen], hbg, setRow_heap w g cur _ e _ hh, by omega, hcm, ?_, ?_⟩⟩
      · simp; omega
      · simp

end
end Go.Proofs.YbyabwGreat
