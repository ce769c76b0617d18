/- Laws: append to a row of bytes that may be a constant's ('[]byte("..")': full, and marked) -/
import Derived.Test.YbyaawPrnP3
import Derived.Test.YbyaawGen7
import Derived.Lib.SlBytesConst
namespace Go.Proofs.Ybyaaw
open Go.RowKit
set_option maxRecDepth 100000
set_option linter.unusedVariables false
set_option linter.unusedSimpArgs false

/-- What a call may change that appends to a row of bytes of its caller's: blocks of bytes from base on. -/
def IsU8 (w : World) (q : Nat) : Prop := ∃ cur r, w.heap[q]? = some (.cells cur 5 r)
def FrU (base : Nat) (w w' : World) : Prop := But (fun q => base ≤ q ∧ IsU8 w q) w w'
section
variable {base : Nat} {w w1 w2 : World} {v : Value} {l : List UInt8}
theorem FrU.refl (base : Nat) (w : World) : FrU base w w := But.refl _ _
theorem FrU.of_ext (h : Ext w w1) : FrU base w w1 := But.of_ext h
theorem FrU.trans (h : FrU base w w1) (k : FrU base w1 w2) : FrU base w w2 :=
  ⟨k.os.trans h.os, k.tape.trans h.tape, k.output.trans h.output, Nat.le_trans h.size k.size, fun q hq hn => by
    have e1 := h.block q hq hn
    refine (k.block q (Nat.lt_of_lt_of_le hq h.size) (fun hh => hn ⟨hh.1, ?_⟩)).trans e1
    obtain ⟨cur, r, e⟩ := hh.2
    exact ⟨cur, r, by rw [← e1]; exact e⟩⟩
theorem FrU.grown (hO : OwnB w base v l) (hg : w.grownBy w1 v.ownBlock) : FrU base w w1 := But.of_grown hg (fun k hk => ⟨hO.block k hk, by
  rcases hO.2 with ⟨rfl, _⟩ | ⟨g, cap, cur, rfl, _, hh, _⟩
  · cases hk
  · cases hk; exact ⟨cur, _, hh⟩⟩)
theorem FrU.blk (h : FrU base w w1) {g : Nat} {t : TypeId} {vs : List Value} (hx : Blk w g t vs) (ht : t ≠ 5) : Blk w1 g t vs := But.blk h hx (fun hh => by
  obtain ⟨_, cur, r, e⟩ := hh
  unfold Blk at hx
  rw [hx] at e
  injection e with e
  injection e with _ e2
  exact ht e2)
theorem NodesAt.butS {S : Nat → Prop} {a : Option Addr} {nd : List Nd} (h : NodesAt w a nd) (hb : But S w w1) (ha : ∀ p, a = some p → ¬ S p.block) : NodesAt w1 a nd := fun i hi => by
  obtain ⟨b, off, e, hc⟩ := h i hi
  refine ⟨b, off, e, fun j v hv => ?_⟩
  have := hc j v hv
  rw [World.cell?_of_block (hb.block b (cell_lt this) (ha _ e))]
  exact this
theorem FrU.nodes (h : FrU base w w1) {a : Option Addr} {nd : List Nd} (hn : NodesAt w a nd) (ha : ∀ p, a = some p → p.block < base) : NodesAt w1 a nd :=
  hn.butS h (fun p hp hh => by have := ha p hp; omega)
/-- A row of bytes that is full: what is appended to it goes to a new row. -/
def FullB (w : World) (base : Nat) (v : Value) (l : List UInt8) : Prop := ∃ g fr, v = .slice (some ⟨g, 0, none⟩) l.length l.length ∧ base ≤ g ∧ w.heap[g]? = some (.cells (bs l).toArray 5 fr)
def OwnW (w : World) (base : Nat) (v : Value) (l : List UInt8) : Prop := OwnB w base v l ∨ FullB w base v l
theorem OwnW.ext (h : OwnW w base v l) (he : Ext w w1) : OwnW w1 base v l := by
  rcases h with h | ⟨g, fr, h1, h2, h3⟩
  · exact .inl (h.ext he)
  · exact .inr ⟨g, fr, h1, h2, by rw [he.block g (Array.getElem?_eq_some_iff.1 h3).1]; exact h3⟩
theorem OwnW.alloc (h : OwnW w base v l) (o : Obj) : OwnW (w.alloc o) base v l := h.ext ((Ext.refl w).alloc o)
theorem OwnW.form (h : OwnW w base v l) : ∃ a cap, v = .slice a l.length cap := by
  rcases h with h | ⟨g, fr, h1, h2, h3⟩
  · obtain ⟨a, cap, e, _⟩ := h.form
    exact ⟨a, cap, e⟩
  · exact ⟨_, _, h1⟩
theorem FullB.cell {g : Nat} {fr : Nat × Nat} (h3 : w.heap[g]? = some (.cells (bs l).toArray 5 fr)) (j : Nat) (u : Value) (hu : (bs l)[j]? = some u) : w.cell? ((⟨g, 0, none⟩ : Addr).add j) = some u := by
  rw [Addr.add_lit, Nat.zero_add]
  simp [World.cell?, h3, hu]
end
section
variable {ops : Array Oper} {rest : List Oper} {o : Oper} {a : Act} {Q : Exit → Act → World → Prop} {w : World}
theorem run_grow_str (w : World) (base : Nat) (hE : base ≤ w.heap.size) (ty : TypeId) (g : Nat) (fr : Nat × Nat) (l m : List UInt8) (h3 : w.heap[g]? = some (.cells (bs l).toArray 5 fr)) (hm : m ≠ []) (hb : l.length + m.length < 2 ^ 40) :
    ∃ v' w', (Builtin.append_ #[22, 9] ty #[.slice (some ⟨g, 0, none⟩) l.length l.length, .string (tx m)]).run Yaan.prog w = .ok v' w' ∧ OwnB w' base v' (l ++ m) ∧ Ext w w' := by
  obtain ⟨i, h2, hz, h4, h5⟩ := info_parts info_u8
  have hml : 0 < m.length := List.length_pos_iff.2 hm
  have hr := Go.Lib.run_append_grow_string (P := Yaan.prog) w 22 9 ty 5 i (.int .u8 0) Yaan.underlying22 Yaan.underlying9 h2 hz ⟨g, 0, none⟩ l.length l.length (bs l) (by rw [h4, bs_len]; simp) (fun j u hu => FullB.cell h3 j u hu) (tx m)
    (by rw [tx_size]; omega) (by rw [tx_size]; omega) (by rw [h5, tx_size]; exact growslice_fits (by omega) (by omega))
  refine ⟨_, _, hr, ?_, ⟨rfl, rfl, rfl, by simp, fun k hk => heap_alloc_old w.drew _ hk⟩⟩
  have hge := grownCap_ge w (l.length + (tx m).size) l.length 5
  have hcm : grownCap w (l.length + (tx m).size) l.length 5 ≤ maxLen := grownCap_le_maxLen w _ _ _ (by rw [tx_size]; unfold maxLen; omega)
  have hl1 : l.length + (tx m).size = (l ++ m).length := by rw [tx_size, List.length_append]
  unfold OwnB
  rw [bs_append]
  rw [hl1] at hge hcm ⊢
  refine ⟨by rw [← bs_append, bs_len]; simp, .inr ⟨w.heap.size, _, _, rfl, hE, heap_alloc_new w.drew _, hge, hcm, ?_, ?_⟩⟩
  · have hz1 : (Value.int IntKind.u8 0).cells.size = 1 := rfl
    simp only [Array.size_append, List.size_toArray, size_zeroCells, hz1, bs_len, Go.Lib.strCells_length, tx_size, List.length_append] at hge ⊢
    omega
  · simp only [Array.toList_append, List.append_assoc]
    rw [← List.append_assoc]
    rw [bs_str m]
    exact List.take_left' (by rw [← bs_append, bs_len]; simp)
theorem app_strW (hg : o.guard = none) {s x : Operand} (ho : o.op = .call { callee := .builtin .append, args := #[s, x], argTypes := #[22, 9] })
    (base : Nat) (hE : base ≤ w.heap.size) (v : Value) (l m : List UInt8) (hs : a.eval s = v) (hown : OwnW w base v l) (hx : a.eval x = .string (tx m)) (hm : m ≠ []) (hb : l.length + m.length < 2 ^ 40)
    (h : ∀ v' w', OwnB w' base v' (l ++ m) → FrU base w w' → wpList Yaan.prog ops Q rest (a.put o.dst v') w') : wpList Yaan.prog ops Q (o :: rest) a w := by
  rcases hown with hown | ⟨g, fr, h1, h2, h3⟩
  · exact app_str hg ho base hE v l m hs hown hx hb (fun v' w' O hgr => h v' w' O (FrU.grown hown hgr))
  · subst h1
    refine wpList_plain hg fun K hK => ?_
    obtain ⟨v', w', hr, hO, hX⟩ := run_grow_str w base hE o.type g fr l m h3 hm hb
    unfold Oper.wp execOp
    simp only [ho, resolve, invoke, builtin, Sem.run_bind, Sem.run_pure, Result.andThen_ok, List.map_toArray, List.map_cons, List.map_nil, hs, hx, hr]
    exact hK _ _ (h v' w' hO (FrU.of_ext hX))
theorem app_byteW (hg : o.guard = none) {s x : Operand} (ho : o.op = .call { callee := .builtin .append, args := #[s, x], argTypes := #[22, 22] })
    (base : Nat) (hE : base ≤ w.heap.size) (v : Value) (l : List UInt8) (y : UInt8) (z : Int) (hz : z = (y.toNat : Int)) (hs : a.eval s = v) (hown : OwnW w base v l)
    (B c : Nat) (hx : a.eval x = .slice (some ⟨B, 0, none⟩) 1 c) (hblk : w.heap[B]? = some (.cells #[.int .u8 z] 5 (0, 0))) (hb : l.length < 2 ^ 39)
    (h : ∀ v' w', OwnB w' base v' (l ++ [y]) → FrU base w w' → wpList Yaan.prog ops Q rest (a.put o.dst v') w') : wpList Yaan.prog ops Q (o :: rest) a w := by
  rcases hown with hown | ⟨g, fr, h1, h2, h3⟩
  · exact app_byte hg ho base hE v l y z hz hs hown B c hx hblk hb (fun v' w' O hgr => h v' w' O (FrU.grown hown hgr))
  · subst h1
    subst hz
    obtain ⟨i, i2, i3, i4, i5⟩ := info_parts info_u8
    refine wpList_append_grows w hg s x 22 ho 5 i (.int .u8 0) 1 1 Yaan.underlying22 i2 i3 i4 i5 rfl (by omega) (some ⟨g, 0, none⟩) l.length l.length (bs l) hs (fun e => by cases e) (by rw [bs_len]; simp) (fun b e j u hu => by cases e; exact FullB.cell h3 j u hu)
      ⟨B, 0, none⟩ 1 c [.int .u8 y.toNat] hx (by simp) (fun j u hu => ?_) (by simp [Value.oneCell']) (by omega) (by unfold maxLen; omega) (by omega) (fun v' w' O hgr => h v' w' ?_ (FrU.of_ext ⟨hgr.os, hgr.tape, hgr.output, hgr.size, fun k hk => hgr.block k hk (by simp)⟩))
    · rw [Addr.add_lit, Nat.zero_add]
      cases j with
      | zero => cases hu; simp [World.cell?, hblk]
      | succ j => simp at hu
    · have := ownsRow_mono O hE
      unfold OwnB
      rw [bs_append, List.length_append]
      exact this
end
end Go.Proofs.Ybyaaw
