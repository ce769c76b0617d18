/- What a call changes: one row of its own, and new blocks. Seat-independent. -/
import Derived.Test.YbyabwGreatPairs0
import Derived.Test.YbyabwGreatStruct
namespace Go.Proofs.YbyabwGreat
open Go.RowKit
set_option linter.unusedVariables false

theorem grown_setCell (w : World) (a : Addr) (u : Value) : w.grownBy (w.setCell a u) (some a.block) :=
  ⟨rfl, rfl, rfl, by simp, fun k _ hk => heap_setCell_other w a k u (fun e => hk (by rw [e]))⟩
theorem grown_sets (g : Nat) : ∀ (news : List Value) (j : Nat) (w : World), w.grownBy (w.setCells g j news) (some g)
  | [], j, w => World.grownBy.refl w _
  | u :: r, j, w => (grown_setCell w ⟨g, j, none⟩ u).trans (grown_sets g r (j + 1) _)
theorem grown_but {a c : World} (h : a.grownBy c none) (row : Option Nat) : a.grownBy c row := ⟨h.os, h.tape, h.output, h.size, fun i hi _ => h.block i hi (by simp)⟩
theorem Ext.grownBy {a c : World} (h : Ext a c) (row : Option Nat) : a.grownBy c row := ⟨h.os, h.tape, h.output, h.size, fun i hi _ => h.block i hi⟩

/-- Two slices lie in different blocks. -/
def Apart (v v' : Value) : Prop := v.ownBlock = none ∨ v.ownBlock ≠ v'.ownBlock
theorem Apart.symm {v v' : Value} (h : Apart v v') : Apart v' v := by
  unfold Apart at *
  cases h1 : v'.ownBlock with
  | none => exact .inl rfl
  | some k =>
    refine .inr fun e => ?_
    rcases h with h | h
    · rw [h] at e; cases e
    · exact h (e.symm.trans h1.symm)
theorem apart_nil (n c : Nat) (v : Value) : Apart (.slice none n c) v := .inl rfl

theorem OwnI.but {w w' : World} {base : Nat} {e : TypeId} {v v' : Value} {xs : List Int} (h : OwnI w base e v xs) (hg : w.grownBy w' v'.ownBlock) (ha : Apart v v') : OwnI w' base e v xs := World.ownsRow.kept h hg ha
theorem OwnP.but {w w' : World} {base : Nat} {e : TypeId} {v v' : Value} {xs : List (Int × Int)} (h : OwnP w base e v xs) (hg : w.grownBy w' v'.ownBlock) (ha : Apart v v') : OwnP w' base e v xs := World.ownsRow.kept h hg ha

/-- Rows of different element types lie in different blocks. -/
theorem apart_types {w : World} {base base' size size' n n' : Nat} {e e' : TypeId} {v v' : Value} {xs xs' : List Value} (h : w.ownsRow base e size v n xs) (h' : w.ownsRow base' e' size' v' n' xs') (hne : e ≠ e') : Apart v v' := by
  rcases h.2 with ⟨rfl, _⟩ | ⟨g, cap, cur, rfl, _, hh, _⟩
  · exact .inl rfl
  · rcases h'.2 with ⟨rfl, _⟩ | ⟨g', cap', cur', rfl, _, hh', _⟩
    · exact .inr (by simp [Value.ownBlock])
    · refine .inr fun hc => ?_
      simp only [Value.ownBlock, Option.some.injEq] at hc
      subst hc
      rw [hh] at hh'
      injection hh' with hh'
      injection hh' with _ ht
      exact hne ht
/-- What lies below a base and what lies above it. -/
theorem apart_base {w w' : World} {base base' size size' n n' : Nat} {e e' : TypeId} {v v' : Value} {xs xs' : List Value} (h : w.ownsRow base e size v n xs) (h' : w'.ownsRow base' e' size' v' n' xs') (hb : w.heap.size ≤ base') : Apart v v' := by
  cases h1 : v.ownBlock with
  | none => exact .inl h1
  | some k =>
    refine .inr fun hc => ?_
    rw [h1] at hc
    have h2 := (World.ownsRow.lt h k h1).2
    have h3 := (World.ownsRow.lt h' k hc.symm).1
    omega

/-- Only blocks of S may have changed; memory may have grown. -/
structure But (S : Nat → Prop) (w w' : World) : Prop where
  os : w'.os = w.os
  tape : w'.tape = w.tape
  output : w'.output = w.output
  size : w.heap.size ≤ w'.heap.size
  block : ∀ k, k < w.heap.size → ¬ S k → w'.heap[k]? = w.heap[k]?
/-- The blocks from lo up to hi. -/
def Rng (lo hi : Nat) : Nat → Prop := fun k => lo ≤ k ∧ k < hi
section
variable {S S' : Nat → Prop} {a b c : World}
theorem But.refl (S : Nat → Prop) (a : World) : But S a a := ⟨rfl, rfl, rfl, Nat.le_refl _, fun _ _ _ => rfl⟩
theorem But.trans (h : But S a b) (k : But S b c) : But S a c :=
  ⟨k.os.trans h.os, k.tape.trans h.tape, k.output.trans h.output, Nat.le_trans h.size k.size, fun i hi hne => (k.block i (Nat.lt_of_lt_of_le hi h.size) hne).trans (h.block i hi hne)⟩
theorem But.mono (h : But S a b) (hs : ∀ k, S k → S' k) : But S' a b := ⟨h.os, h.tape, h.output, h.size, fun k hk hn => h.block k hk fun hh => hn (hs k hh)⟩
theorem But.of_ext (h : Ext a b) : But S a b := ⟨h.os, h.tape, h.output, h.size, fun k hk _ => h.block k hk⟩
theorem But.of_grown {row : Option Nat} (h : a.grownBy b row) (hr : ∀ k, row = some k → S k) : But S a b :=
  ⟨h.os, h.tape, h.output, h.size, fun k hk hn => h.block k hk fun e => hn (hr k e.symm)⟩
theorem But.below {base : Nat} (h : But S a b) (hs : ∀ k, S k → base ≤ k) (hb : base ≤ a.heap.size) : Below base a b :=
  ⟨h.os, h.tape, h.output, h.size, fun k hk => h.block k (by omega) fun hh => by have := hs k hh; omega⟩
theorem But.ext (h : But S a b) (hs : ∀ k, S k → a.heap.size ≤ k) : Ext a b := h.below hs (Nat.le_refl _)
theorem But.box {g : Nat} {vs : List Value} (h : But S a b) (hx : Box a g vs) (hg : g < a.heap.size) (hn : ¬ S g) : Box b g vs := fun i v hv => by
  rw [World.cell?_of_block (h.block g hg hn)]
  exact hx i v hv
theorem But.blk {g : Nat} {t : TypeId} {vs : List Value} (h : But S a b) (hx : Blk a g t vs) (hn : ¬ S g) : Blk b g t vs := by
  unfold Blk at *
  rw [h.block g (Array.getElem?_eq_some_iff.1 hx).1 hn]
  exact hx
theorem But.row {base : Nat} {e : TypeId} {size : Nat} {v : Value} {n : Nat} {xs : List Value} (h : But S a b) (ho : a.ownsRow base e size v n xs) (hn : ∀ k, v.ownBlock = some k → ¬ S k) : b.ownsRow base e size v n xs := by
  obtain ⟨h1, h2⟩ := ho
  refine ⟨h1, h2.imp id ?_⟩
  rintro ⟨g, cap, cur, hv, hg, hh, r⟩
  refine ⟨g, cap, cur, hv, hg, ?_, r⟩
  rw [h.block g (Array.getElem?_eq_some_iff.1 hh).1 (hn g (by rw [hv]; rfl))]
  exact hh
theorem But.cell {p : Addr} {v : Value} (h : But S a b) (hc : a.cell? p = some v) (hn : ¬ S p.block) : b.cell? p = some v := by
  rw [World.cell?_of_block (h.block p.block (cell_lt hc) hn)]
  exact hc
end
theorem OwnI.butS {S : Nat → Prop} {w w' : World} {base : Nat} {e : TypeId} {v : Value} {xs : List Int} (h : OwnI w base e v xs) (hb : But S w w') (hn : ∀ k, v.ownBlock = some k → ¬ S k) : OwnI w' base e v xs := hb.row h hn
theorem OwnP.butS {S : Nat → Prop} {w w' : World} {base : Nat} {e : TypeId} {v : Value} {xs : List (Int × Int)} (h : OwnP w base e v xs) (hb : But S w w') (hn : ∀ k, v.ownBlock = some k → ¬ S k) : OwnP w' base e v xs := hb.row h hn

/-- A call that hands nothing back and changes one row alone. -/
def RetMod (v : Value) (w : World) : Ending → World → Prop := fun en w' => en = .returned (.tuple #[]) ∧ w.grownBy w' v.ownBlock
def RetOwnI (e : TypeId) (v : Value) (base : Nat) (xs : List Int) (w : World) : Ending → World → Prop := fun en w' => en = .returned (.tuple #[]) ∧ OwnI w' base e v xs ∧ w.grownBy w' v.ownBlock
def RetOwnP (e : TypeId) (v : Value) (base : Nat) (xs : List (Int × Int)) (w : World) : Ending → World → Prop := fun en w' => en = .returned (.tuple #[]) ∧ OwnP w' base e v xs ∧ w.grownBy w' v.ownBlock

section
variable {P : Program} {ops : Array Oper} {rest : List Oper} {o : Oper} {a : Act} {Q : Exit → Act → World → Prop} {w : World}
theorem wpList_probeG (hg : o.guard = none) {s x : Operand} {t : TypeId} (ho : o.op = .call { callee := .builtin .append, args := #[s, x], argTypes := #[t, t] })
    (e : TypeId) {i : TypeInfo} {z : Value} {size bytes : Nat} (ht : P.underlying t = some (.slice e)) (hi : P.info? e = some i) (hz : i.zero = some z) (hsize : i.size = size) (hby : i.bytes = bytes) (hzs : z.cells.size = size) (hpos : 0 < size)
    (base : Nat) (v : Value) (n : Nat) (xs : List Value) (hs : a.eval s = v) (hown : w.ownsRow base e size v n xs)
    (B c : Nat) (news : List Value) (hx : a.eval x = .slice (some ⟨B, 0, none⟩) 1 c) (hblk : w.heap[B]? = some (.cells news.toArray e (0, 0))) (hn : news.length = size) (h1 : ∀ u ∈ news, u.oneCell' = true)
    (hm : n + 1 ≤ maxLen) (hbytes : (n + 1) * bytes ≤ 140737488355328)
    (h : ∀ v' w', w'.ownsRow base e size v n xs → w.grownBy w' v.ownBlock → wpList P ops Q rest (a.put o.dst v') w') : wpList P ops Q (o :: rest) a w := by
  have hc : ∀ j u, news[j]? = some u → w.cell? ((⟨B, 0, none⟩ : Addr).add j) = some u := fun j u hu => by
    have := World.news_of_block hblk j u (by simpa using hu)
    exact this
  rcases hown.2 with ⟨rfl, rfl⟩ | ⟨g, cap, cur, rfl, hgb2, hh, hnc, hmc, hsz, htake⟩
  · obtain rfl : xs = [] := List.eq_nil_of_length_eq_zero (by simpa using hown.1)
    exact wpList_append_grows w hg s x t ho e i z size bytes ht hi hz hsize hby hzs hpos none 0 0 [] hs (fun _ => ⟨rfl, rfl⟩) (by simp) (fun b hb => by cases hb) ⟨B, 0, none⟩ 1 c news hx (by omega) hc h1 (by omega) hm hbytes
      (fun v' w' _ hgr => h v' w' (World.ownsRow_nil w' base e size) (grown_but hgr _))
  · have hcell : ∀ j, w.cell? ⟨g, j, none⟩ = cur[j]? := fun j => by rw [cell_of_row w g j cur e (0, 0) hh]
    refine wpList_append_arg w hg s x t ho e i z size bytes ht hi hz hsize hby hzs hpos g 0 n cap xs hs hown.1 ?_ ⟨B, 0, none⟩ 1 c news hx (by omega) hc h1 ?_ hm hbytes ?_ ?_
    · intro j u hu
      have hjl : j < n * size := by
        have := (List.getElem?_eq_some_iff.1 hu).1
        rwa [hown.1] at this
      rw [Nat.zero_add, hcell]
      rw [← htake, List.getElem?_take, if_pos hjl] at hu
      simpa using hu
    · intro hr j hj
      rw [Nat.zero_add, hcell]
      have hmul : (n + 1) * size ≤ cap * size := Nat.mul_le_mul_right _ hr
      rw [Nat.add_mul, Nat.one_mul] at hmul
      have hlt : n * size + j < cur.size := by omega
      refine ⟨by simp [hlt], ?_⟩
      exact World.ownsRow.frozenAt hown (n * size + j)
    · intro hr
      rw [Nat.zero_add]
      exact h _ _ (ownsRow_sets_past news _ w (Nat.le_refl _) hown) (grown_sets g news _ w)
    · intro hlt v' w' _ hgr
      refine h v' w' ⟨hown.1, .inr ⟨g, cap, cur, rfl, hgb2, ?_, hnc, hmc, hsz, htake⟩⟩ (grown_but hgr _)
      rw [hgr.block g (World.ownsRow.lt hown g rfl).2 (by simp)]
      exact hh
end

/-- A row in whose first k places f was done. -/
def modTo {α : Type} (f : α → α) (xs : List α) (k : Nat) : List α := (xs.take k).map f ++ xs.drop k
theorem modTo_zero {α : Type} (f : α → α) (xs : List α) : modTo f xs 0 = xs := by simp [modTo]
theorem modTo_all {α : Type} (f : α → α) (xs : List α) : modTo f xs xs.length = xs.map f := by simp [modTo]
theorem modTo_len {α : Type} (f : α → α) (xs : List α) (k : Nat) : (modTo f xs k).length = xs.length := by simp [modTo]; omega
theorem modTo_get {α : Type} (f : α → α) (xs : List α) (d : α) (k : Nat) (h : k < xs.length) : (modTo f xs k).getD k d = xs.getD k d := by
  have hl : ((xs.take k).map f).length = k := by simp; omega
  simp only [modTo, List.getD_eq_getElem?_getD]
  rw [List.getElem?_append_right (by omega), hl, Nat.sub_self, List.getElem?_drop, Nat.add_zero]
theorem modTo_set {α : Type} (f : α → α) (xs : List α) (d : α) (k : Nat) (h : k < xs.length) : (modTo f xs k).set k (f (xs.getD k d)) = modTo f xs (k + 1) := by
  have hl : ((xs.take k).map f).length = k := by simp; omega
  unfold modTo
  rw [List.set_append_right _ _ (by omega), hl, Nat.sub_self, List.drop_eq_getElem_cons h, List.set_cons_zero, List.take_succ_eq_append_getElem h, List.map_append, List.append_assoc]
  simp [List.getElem?_eq_getElem h]
end Go.Proofs.YbyabwGreat
