/- The parser's state in memory, and what a call of the parser may change. -/
import Derived.Test.YbyabwGreatParseP
import Derived.Test.YbyabwGreatFrame
import Derived.Test.YbyabwGreatDraw
namespace Go.Proofs.YbyabwGreat
open Go.RowKit
set_option maxRecDepth 100000
set_option linter.unusedVariables false

/-- A parser behind a pointer: its type's number, the cells after the first four. -/
structure PrsAt (T : TypeId) (tl : List Value) (w : World) (S : Nat) (ta : Option Addr) (tc : Nat) (ts : List (Int × Int)) (s : PS) (v : Value) : Prop where
  blk : Blk w S T (.slice ta ts.length tc :: .int .i64 s.pos :: v :: .int .i64 s.dep :: tl)
  nodes : OwnN w (S + 1) 98 v s.nd
  toks : PairsAt w ta ts
  tb : ∀ p, ta = some p → p.block < S
  le : s.pos ≤ ts.length
  len : ts.length ≤ 65536
  ndl : s.nd.length ≤ s.pos
  dep : s.dep ≤ 4096
theorem OwnN.butS {Q : Nat → Prop} {w w' : World} {base : Nat} {e : TypeId} {v : Value} {ns : List Nd} (h : OwnN w base e v ns) (hb : But Q w w') (hn : ∀ k, v.ownBlock = some k → ¬ Q k) : OwnN w' base e v ns := ⟨h.1, hb.row h.2 hn⟩
theorem PairsAt.butS {Q : Nat → Prop} {w w' : World} {a : Option Addr} {ts : List (Int × Int)} (h : PairsAt w a ts) (hb : But Q w w') (hn : ∀ p, a = some p → ¬ Q p.block) : PairsAt w' a ts := fun i hi => by
  obtain ⟨b, off, e, h1, h2⟩ := h i hi
  exact ⟨b, off, e, hb.cell h1 (by have := hn _ e; exact this), hb.cell h2 (by have := hn _ e; exact this)⟩

/-- What a call of the parser may change: the parser's block, the block of its nodes; its nodes go to the same block or to a new one. -/
structure Fr (S : Nat) (v v' : Value) (w w' : World) : Prop where
  but : But (fun q => q = S ∨ v.ownBlock = some q) w w'
  own : ∀ q, v'.ownBlock = some q → v.ownBlock = some q ∨ w.heap.size ≤ q
theorem Fr.refl (S : Nat) (v : Value) (w : World) : Fr S v v w w := ⟨But.refl _ _, fun q h => .inl h⟩
theorem Fr.of_ext {S : Nat} {v : Value} {w w' : World} (h : Ext w w') : Fr S v v w w' := ⟨But.of_ext h, fun q h => .inl h⟩
theorem Fr.set {S : Nat} {v : Value} (w : World) (i : Nat) (u : Value) : Fr S v v w (w.setCell ⟨S, i, none⟩ u) := ⟨But.of_grown (grown_setCell _ _ _) (fun q hq => by cases hq; exact .inl rfl), fun q h => .inl h⟩
theorem Fr.trans {S : Nat} {v v1 v2 : Value} {w w1 w2 : World} (h : Fr S v v1 w w1) (k : Fr S v1 v2 w1 w2) : Fr S v v2 w w2 where
  but := ⟨k.but.os.trans h.but.os, k.but.tape.trans h.but.tape, k.but.output.trans h.but.output, Nat.le_trans h.but.size k.but.size, fun q hq hn => by
    have hs := h.but.size
    refine (k.but.block q (by omega) ?_).trans (h.but.block q hq hn)
    rintro (rfl | hv)
    · exact hn (.inl rfl)
    · rcases h.own q hv with hv | hv
      · exact hn (.inr hv)
      · omega⟩
  own := fun q hq => by
    have hs := h.but.size
    rcases k.own q hq with hv | hv
    · exact h.own q hv
    · exact .inr (by omega)

section
variable {T : TypeId} {tl : List Value} {w w' : World} {S : Nat} {ta : Option Addr} {tc : Nat} {ts : List (Int × Int)} {s : PS} {v : Value}
theorem PrsAt.ext (h : PrsAt T tl w S ta tc ts s v) (he : Ext w w') : PrsAt T tl w' S ta tc ts s v := ⟨h.blk.ext he, h.nodes.ext he, h.toks.ext he, h.tb, h.le, h.len, h.ndl, h.dep⟩
theorem PrsAt.ne (h : PrsAt T tl w S ta tc ts s v) : ∀ k, v.ownBlock = some k → ¬ k = S := fun k hk => by have := h.nodes.block k hk; omega
theorem PrsAt.setB (h : PrsAt T tl w S ta tc ts s v) (i : Nat) (u : Value) : OwnN (w.setCell ⟨S, i, none⟩ u) (S + 1) 98 v s.nd ∧ PairsAt (w.setCell ⟨S, i, none⟩ u) ta ts := by
  have hb : But (fun q => q = S) w (w.setCell ⟨S, i, none⟩ u) := But.of_grown (grown_setCell _ _ _) (fun q hq => by cases hq; rfl)
  exact ⟨h.nodes.butS hb h.ne, h.toks.butS hb (fun p hp => by have := h.tb p hp; omega)⟩
theorem PrsAt.adv (h : PrsAt T tl w S ta tc ts s v) (hp : s.pos < ts.length) : PrsAt T tl (w.setCell ⟨S, 1, none⟩ (.int .i64 ((s.pos : Int) + 1))) S ta tc ts s.adv v := by
  obtain ⟨h1, h2⟩ := h.setB 1 (.int .i64 ((s.pos : Int) + 1))
  have hb := h.blk.stored 1 (.int .i64 ((s.pos : Int) + 1))
  have hn := h.ndl
  exact ⟨hb, h1, h2, h.tb, by simp only [PS.adv]; omega, h.len, by simp only [PS.adv]; omega, h.dep⟩
theorem PrsAt.deep (h : PrsAt T tl w S ta tc ts s v) (hp : s.dep < 4096) : PrsAt T tl (w.setCell ⟨S, 3, none⟩ (.int .i64 ((s.dep : Int) + 1))) S ta tc ts s.deep v := by
  obtain ⟨h1, h2⟩ := h.setB 3 (.int .i64 ((s.dep : Int) + 1))
  have hb := h.blk.stored 3 (.int .i64 ((s.dep : Int) + 1))
  exact ⟨hb, h1, h2, h.tb, h.le, h.len, h.ndl, by simp only [PS.deep]; omega⟩
theorem PrsAt.up (h : PrsAt T tl w S ta tc ts s v) (hp : 0 < s.dep) : PrsAt T tl (w.setCell ⟨S, 3, none⟩ (.int .i64 ((s.dep : Int) - 1))) S ta tc ts s.up v := by
  obtain ⟨h1, h2⟩ := h.setB 3 (.int .i64 ((s.dep : Int) - 1))
  have hb := h.blk.stored 3 (.int .i64 ((s.dep : Int) - 1))
  have hd := h.dep
  have e : ((s.up.dep : Nat) : Int) = (s.dep : Int) - 1 := by simp only [PS.up]; omega
  refine ⟨?_, h1, h2, h.tb, h.le, h.len, h.ndl, by simp only [PS.up]; omega⟩
  rw [e]
  exact hb
theorem PrsAt.c0 (h : PrsAt T tl w S ta tc ts s v) : w.cell? ⟨S, 0, none⟩ = some (.slice ta ts.length tc) := h.blk.box 0 _ rfl
theorem PrsAt.c1 (h : PrsAt T tl w S ta tc ts s v) : w.cell? ⟨S, 1, none⟩ = some (.int .i64 s.pos) := h.blk.box 1 _ rfl
theorem PrsAt.c2 (h : PrsAt T tl w S ta tc ts s v) : w.cell? ⟨S, 2, none⟩ = some v := h.blk.box 2 _ rfl
theorem PrsAt.c3 (h : PrsAt T tl w S ta tc ts s v) : w.cell? ⟨S, 3, none⟩ = some (.int .i64 s.dep) := h.blk.box 3 _ rfl
theorem PrsAt.fz (h : PrsAt T tl w S ta tc ts s v) (i : Nat) : w.frozen? ⟨S, i, none⟩ = false := h.blk.frozen i
end
theorem push_end {T : TypeId} {tl : List Value} {w X Y w2 : World} {S : Nat} {ta : Option Addr} {tc : Nat} {ts : List (Int × Int)} {s : PS} {v : Value} {n : Nd} {g cap : Nat} (hP : PrsAt T tl X S ta tc ts s v) (hXY : Ext X Y)
    (hown2 : OwnN w2 (S + 1) 98 (.slice (some ⟨g, 0, none⟩) (s.nd.length + 1) cap) (s.nd ++ [n])) (hgr : Y.grownBy w2 v.ownBlock) (hor : v.ownBlock = some g ∨ g = Y.heap.size) (hn : s.nd.length < s.pos) (F0 : Fr S v v w X) :
    PrsAt T tl (w2.setCell ⟨S, 2, none⟩ (.slice (some ⟨g, 0, none⟩) (s.nd.length + 1) cap)) S ta tc ts (s.push n) (.slice (some ⟨g, 0, none⟩) (s.nd.length + 1) cap) ∧
      Fr S v (.slice (some ⟨g, 0, none⟩) (s.nd.length + 1) cap) w (w2.setCell ⟨S, 2, none⟩ (.slice (some ⟨g, 0, none⟩) (s.nd.length + 1) cap)) := by
  have hb2 : Blk w2 S T (.slice ta ts.length tc :: .int .i64 s.pos :: v :: .int .i64 s.dep :: tl) := (hP.blk.ext hXY).grown hgr (fun hh => hP.ne S hh rfl)
  have hb3 := hb2.stored 2 (.slice (some ⟨g, 0, none⟩) (s.nd.length + 1) cap)
  have hS : But (fun q => q = S) w2 (w2.setCell ⟨S, 2, none⟩ (.slice (some ⟨g, 0, none⟩) (s.nd.length + 1) cap)) := But.of_grown (grown_setCell _ _ _) (fun q hq => by cases hq; rfl)
  have hB : But (fun q => q = S ∨ v.ownBlock = some q) X (w2.setCell ⟨S, 2, none⟩ (.slice (some ⟨g, 0, none⟩) (s.nd.length + 1) cap)) :=
    ((But.of_ext hXY).trans (But.of_grown hgr (fun q hq => .inr hq))).trans (hS.mono (fun q hq => .inl hq))
  refine ⟨⟨hb3, hown2.butS hS (fun k hk => by have := hown2.block k hk; omega), hP.toks.butS hB (fun p hp hh => ?_), hP.tb, hP.le, hP.len, by simp only [PS.push, List.length_append, List.length_singleton]; omega, hP.dep⟩, F0.trans ⟨hB, fun q hq => ?_⟩⟩
  · have := hP.tb p hp
    rcases hh with hh | hh
    · omega
    · have := hP.nodes.block _ hh
      omega
  · cases hq
    rcases hor with hor | hor
    · exact .inl hor
    · exact .inr (by have := hXY.size; simp only; omega)

def posAt (w : World) (S : Nat) : Nat := (intOf ((w.cell? ⟨S, 1, none⟩).getD undef)).toNat
theorem PrsAt.posAt {T : TypeId} {tl : List Value} {w : World} {S : Nat} {ta : Option Addr} {tc : Nat} {ts : List (Int × Int)} {s : PS} {v : Value} (h : PrsAt T tl w S ta tc ts s v) : posAt w S = s.pos := by
  unfold Go.Proofs.YbyabwGreat.posAt
  rw [h.c1]
  simp [intOf]

def mu (ts : List (Int × Int)) (lv : Nat) (s : PS) : Nat := (ts.length - s.pos) * 16 + lv

def RetPk (k : Int) (w : World) : Ending → World → Prop := fun en w' => en = .returned (.int .i64 k) ∧ Ext w w'
def RetPush (T : TypeId) (tl : List Value) (ts : List (Int × Int)) (S : Nat) (ta : Option Addr) (tc : Nat) (s : PS) (n : Nd) (v : Value) (w : World) : Ending → World → Prop := fun en w' =>
  ∃ v', en = .returned (.int .i64 s.nd.length) ∧ PrsAt T tl w' S ta tc ts (s.push n) v' ∧ Fr S v v' w w'
theorem info_nodeP : (Yabn.prog.info? 98).map (fun i => (i.zero, i.size, i.bytes)) = some (some (.agg #[.int .i64 0, .int .i64 0, .int .i64 0, .int .i64 0]), 4, 32) := by kernel_rfl
section
variable {ops : Array Oper} {rest : List Oper} {o : Oper} {a : Act} {Q : Exit → Act → World → Prop} {w : World}
theorem app_node (hg : o.guard = none) {s x : Operand} (ho : o.op = .call { callee := .builtin .append, args := #[s, x], argTypes := #[51, 51] })
    (base : Nat) (hE : base ≤ w.heap.size) (v : Value) (ns : List Nd) (y : Nd) (hs : a.eval s = v) (hown : OwnN w base 98 v ns)
    (B c : Nat) (hx : a.eval x = .slice (some ⟨B, 0, none⟩) 1 c) (hblk : w.heap[B]? = some (.cells #[.int .i64 y.op, .int .i64 y.val, .int .i64 y.l, .int .i64 y.r] 98 (0, 0))) (hb : ns.length < 2 ^ 39)
    (h : ∀ g cap w', OwnN w' base 98 (.slice (some ⟨g, 0, none⟩) (ns.length + 1) cap) (ns ++ [y]) → w.grownBy w' v.ownBlock → (v.ownBlock = some g ∨ g = w.heap.size) → g < w'.heap.size →
      wpList Yabn.prog ops Q rest (a.put o.dst (.slice (some ⟨g, 0, none⟩) (ns.length + 1) cap)) w') : wpList Yabn.prog ops Q (o :: rest) a w := by
  obtain ⟨i, h2, h3, h4, h5⟩ := info_parts info_nodeP
  refine wpList_appV hg ho 98 Yabn.underlying51 h2 h3 h4 (by omega) rfl (by omega) base hE v (nodeRows ns) y.cells hs hown B c hx hblk rfl (by simp [Nd.cells, Value.oneCell']) (by rw [nodeRows_len]; exact hb) ?_
  rw [nodeRows_len]
  intro g cap w' ho' hgr hor hlt
  refine h g cap w' ?_ hgr hor hlt
  unfold OwnN nodeRows
  rw [List.map_append]
  exact ho'
end

set_option maxHeartbeats 2000000 in
theorem I.peek (S : Nat) (ta : Option Addr) (tc : Nat) (ts : List (Int × Int)) (s : PS) (v : Value) (k : Int) (hk : Hid (pk ts s.pos = k)) (w : World) (h : Hid (PrsAt 87 [] w S ta tc ts s v)) :
    Calls Yabn.prog 35 #[.pointer (some ⟨S, 0, none⟩)] w (RetPk k w) := by
  have k0 := h.out.c0
  have k1 := h.out.c1
  have hl := h.out.len
  have hp := h.out.le
  obtain ⟨p, nd, d⟩ := s
  simp only at k1 hp hk
  by_cases hlt : p < ts.length
  · have hlt' : (p : Int) < ts.length := by omega
    have hkk := hk.out
    unfold pk at hkk
    rw [if_pos hlt] at hkk
    obtain ⟨b, off, rfl, g1, g2⟩ := h.out.toks p hlt
    rw [hkk] at g1
    replace hkk := hide hkk
    clear g2
    go_enter Yabn.func35, Yabn.ntmps35
    go_wp2
    refine Dr.region_text (by kernel_rfl) ?_
    go_wp2
    refine ⟨by rfl, ?_⟩
    go_wp2
    refine Dr.region_text (by kernel_rfl) ?_
    go_wp2
    refine ⟨by rfl, ?_⟩
    go_wp2
    go_ret
    exact ⟨rfl, ((Ext.refl w).drew).drew⟩
  · obtain rfl : p = ts.length := by omega
    have hkk := hk.out
    unfold pk at hkk
    rw [if_neg hlt] at hkk
    subst hkk
    clear hlt hp hk
    go_enter Yabn.func35, Yabn.ntmps35
    go_wp2
    refine Dr.region_text (by kernel_rfl) ?_
    go_wp2
    refine ⟨by rfl, ?_⟩
    go_wp2
    go_ret
    exact ⟨rfl, (Ext.refl w).drew⟩
set_option maxHeartbeats 2000000 in
theorem R.peek (S : Nat) (ta : Option Addr) (tc : Nat) (ts : List (Int × Int)) (s : PS) (v : Value) (k : Int) (hk : Hid (pk ts s.pos = k)) (w : World) (h : Hid (PrsAt 119 [.bool false] w S ta tc ts s v)) :
    Calls Yabn.prog 56 #[.pointer (some ⟨S, 0, none⟩)] w (RetPk k w) := by
  have k0 := h.out.c0
  have k1 := h.out.c1
  have hl := h.out.len
  have hp := h.out.le
  obtain ⟨p, nd, d⟩ := s
  simp only at k1 hp hk
  by_cases hlt : p < ts.length
  · have hlt' : (p : Int) < ts.length := by omega
    have hkk := hk.out
    unfold pk at hkk
    rw [if_pos hlt] at hkk
    obtain ⟨b, off, rfl, g1, g2⟩ := h.out.toks p hlt
    rw [hkk] at g1
    replace hkk := hide hkk
    clear g2
    go_enter Yabn.func56, Yabn.ntmps56
    go_wp2
    refine Dr.region_text (by kernel_rfl) ?_
    go_wp2
    refine ⟨by rfl, ?_⟩
    go_wp2
    refine Dr.region_text (by kernel_rfl) ?_
    go_wp2
    refine ⟨by rfl, ?_⟩
    go_wp2
    go_ret
    exact ⟨rfl, ((Ext.refl w).drew).drew⟩
  · obtain rfl : p = ts.length := by omega
    have hkk := hk.out
    unfold pk at hkk
    rw [if_neg hlt] at hkk
    subst hkk
    clear hlt hp hk
    go_enter Yabn.func56, Yabn.ntmps56
    go_wp2
    refine Dr.region_text (by kernel_rfl) ?_
    go_wp2
    refine ⟨by rfl, ?_⟩
    go_wp2
    go_ret
    exact ⟨rfl, (Ext.refl w).drew⟩
end Go.Proofs.YbyabwGreat
