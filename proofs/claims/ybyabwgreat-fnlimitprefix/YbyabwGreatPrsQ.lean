/- What Parse holds in memory on its way; what it answers -/
import Derived.Test.YbyabwGreatPrsIt
import Derived.Test.YbyabwGreatLex2a
namespace Go.Proofs.YbyabwGreat
open Go.RowKit
set_option maxRecDepth 100000
set_option linter.unusedVariables false

def qz : List Value := [.slice none 0 0, .slice none 0 0, .int .i64 0, .slice none 0 0, .int .i64 0]
theorem size_query : (Yabn.prog.info? 53).map (·.size) = some 5 := by kernel_rfl
structure PI (T : TypeId) (tl : List Value) (w wr : World) (S : Nat) (ta : Option Addr) (tc : Nat) (ts : List (Int × Int)) (s : PS) (v : Value) : Prop where
  prs : PrsAt T tl wr S ta tc ts s v
  blk : Blk wr w.heap.size 53 qz
  ex : Ext w wr
  low : w.heap.size < S
section
variable {T : TypeId} {tl : List Value} {w wr w1 w2 Y : World} {S : Nat} {ta : Option Addr} {tc : Nat} {ts : List (Int × Int)} {s s1 : PS} {v v1 u : Value}
theorem PI.keep (h : PI T tl w wr S ta tc ts s v) (hf : Fr S v v1 wr w1) : Blk w1 w.heap.size 53 qz ∧ Ext w w1 := by
  have hl := h.low
  have hs := h.ex.size
  refine ⟨hf.but.blk h.blk (fun hh => ?_), Below.trans h.ex (hf.but.below (fun k hk => ?_) hs)⟩
  · rcases hh with hh | hh
    · omega
    · have := h.prs.nodes.block _ hh; omega
  · rcases hk with hk | hk
    · omega
    · have := h.prs.nodes.block _ hk; omega
theorem PI.fr (h : PI T tl w wr S ta tc ts s v) (hf : Fr S v v1 wr w1) (hp : PrsAt T tl w1 S ta tc ts s1 v1) : PI T tl w w1 S ta tc ts s1 v1 := ⟨hp, (h.keep hf).1, (h.keep hf).2, h.low⟩
theorem PI.ext (h : PI T tl w wr S ta tc ts s v) (he : Ext wr w1) : PI T tl w w1 S ta tc ts s v := h.fr (Fr.of_ext he) (h.prs.ext he)
theorem PI.adv (h : PI T tl w wr S ta tc ts s v) (hp : s.pos < ts.length) : PI T tl w (wr.setCell ⟨S, 1, none⟩ (.int .i64 ((s.pos : Int) + 1))) S ta tc ts s.adv v := h.fr (Fr.set _ _ _) (h.prs.adv hp)
/-- A row of the call's own, besides the parser, grows. -/
theorem PI.app (h : PI T tl w wr S ta tc ts s v) (he : Ext wr Y) (hg : Y.grownBy w2 u.ownBlock) (h1 : ∀ k, u.ownBlock = some k → S + 1 ≤ k) (h2 : Apart u v) : PI T tl w w2 S ta tc ts s v := by
  have h0 := h.ext he
  have hl := h.low
  have hs := h0.ex.size
  have hne : ∀ k, v.ownBlock = some k → ¬ u.ownBlock = some k := fun k hk hh => by
    rcases h2 with h2 | h2
    · rw [h2] at hh; cases hh
    · exact h2 (hh.trans hk.symm)
  have hb : But (fun q => u.ownBlock = some q) Y w2 := But.of_grown hg (fun q hq => hq)
  refine ⟨h0.prs.but hb (fun hh => ?_) hne (fun p hp hh => ?_), hb.blk h0.blk (fun hh => ?_), Below.trans h0.ex (hb.below (fun k hk => ?_) hs), hl⟩
  · have := h1 _ hh; omega
  · have := h1 _ hh; have := h0.prs.tb p hp; omega
  · have := h1 _ hh; omega
  · have := h1 _ hk; omega
theorem OwnP.frN {e : TypeId} {base : Nat} {xs : List (Int × Int)} (h : OwnP wr base e u xs) (hP : PrsAt T tl wr S ta tc ts s v) (hf : Fr S v v1 wr w1) (hb : S + 1 ≤ base) (he : e ≠ 98) : OwnP w1 base e u xs := by
  refine h.butS hf.but (fun k hk hh => ?_)
  have := h.block k hk
  rcases hh with hh | hh
  · omega
  · rcases apart_types h hP.nodes.2 he with h1 | h1
    · rw [h1] at hk; cases hk
    · exact h1 (hk.trans hh.symm)
theorem OwnI.frN {e : TypeId} {base : Nat} {xs : List Int} (h : OwnI wr base e u xs) (hP : PrsAt T tl wr S ta tc ts s v) (hf : Fr S v v1 wr w1) (hb : S + 1 ≤ base) (he : e ≠ 98) : OwnI w1 base e u xs := by
  refine h.butS hf.but (fun k hk hh => ?_)
  have := h.block k hk
  rcases hh with hh | hh
  · omega
  · rcases apart_types h hP.nodes.2 he with h1 | h1
    · rw [h1] at hk; cases hk
    · exact h1 (hk.trans hh.symm)
end
/-- What a text's parse comes to: none: refused. -/
def Pq (x : ByteArray) (r : Option Qy) : Prop := (tokens x = none ∧ r = none) ∨ ∃ ts, tokens x = some ts ∧ Q0 ts r
theorem Pq.det {x : ByteArray} {r r' : Option Qy} (h : Pq x r) (h' : Pq x r') : r = r' := by
  rcases h with ⟨h1, rfl⟩ | ⟨ts, h1, h2⟩
  · rcases h' with ⟨_, rfl⟩ | ⟨ts', h3, _⟩
    · rfl
    · rw [h1] at h3; cases h3
  · rcases h' with ⟨h3, _⟩ | ⟨ts', h3, h4⟩
    · rw [h1] at h3; cases h3
    · rw [h1] at h3
      cases h3
      exact h2.det h4
/-- A query in memory, of the call's own. -/
structure OwnQ (w : World) (base : Nat) (q : Qy) (ia na ga : Option Addr) (ic nc gc : Nat) : Prop where
  its : OwnP w base 89 (.slice ia q.its.length ic) q.its
  nd : OwnN w base 98 (.slice na q.nd.length nc) q.nd
  gr : OwnI w base 3 (.slice ga q.gr.length gc) q.gr
  li : q.its.length ≤ 65536
  ln : q.nd.length ≤ 65536
  lg : q.gr.length ≤ 65536
  ne : 1 ≤ q.its.length
def qCells (q : Qy) (ia na ga : Option Addr) (ic nc gc : Nat) : List Value := [.slice ia q.its.length ic, .slice na q.nd.length nc, .int .i64 q.wh, .slice ga q.gr.length gc, .int .i64 q.li]
def RetQ (x : ByteArray) (w : World) : Ending → World → Prop := fun en w' => Ext w w' ∧
  ((Pq x none ∧ en = .returned (.tuple #[.agg qz.toArray, .bool false])) ∨
   ∃ q ia na ga ic nc gc, Pq x (some q) ∧ en = .returned (.tuple #[.agg (qCells q ia na ga ic nc gc).toArray, .bool true]) ∧ OwnQ w' w.heap.size q ia na ga ic nc gc)
theorem qz_one : ∀ u ∈ qz, u.oneCell' = true := by simp [qz, Value.oneCell']
theorem Ext.setNew {w w1 w2 : World} (h : Ext w w1) (hg : w1.grownBy w2 (some w.heap.size)) : Ext w w2 := Below.trans h (But.below (But.of_grown (S := fun q => q = w.heap.size) hg (fun q hq => by cases hq; rfl)) (fun k hk => by omega) h.size)

theorem info_item : (Yabn.prog.info? 89).map (fun i => (i.zero, i.size, i.bytes)) = some (some (.agg #[.int .i64 0, .int .i64 0]), 2, 16) := by kernel_rfl
section
variable {ops : Array Oper} {rest : List Oper} {o : Oper} {a : Act} {Q : Exit → Act → World → Prop} {w : World}
theorem app_item (hg : o.guard = none) {s x : Operand} (ho : o.op = .call { callee := .builtin .append, args := #[s, x], argTypes := #[50, 50] })
    (base : Nat) (hE : base ≤ w.heap.size) (v : Value) (xs : List (Int × Int)) (y1 y2 : Int) (hs : a.eval s = v) (hown : OwnP w base 89 v xs)
    (B c : Nat) (hx : a.eval x = .slice (some ⟨B, 0, none⟩) 1 c) (hblk : w.heap[B]? = some (.cells #[.int .i64 y1, .int .i64 y2] 89 (0, 0))) (hb : xs.length < 2 ^ 39)
    (h : ∀ g cap w', OwnP w' base 89 (.slice (some ⟨g, 0, none⟩) (xs.length + 1) cap) (xs ++ [(y1, y2)]) → w.grownBy w' v.ownBlock → (v.ownBlock = some g ∨ g = w.heap.size) → g < w'.heap.size →
      wpList Yabn.prog ops Q rest (a.put o.dst (.slice (some ⟨g, 0, none⟩) (xs.length + 1) cap)) w') : wpList Yabn.prog ops Q (o :: rest) a w := by
  obtain ⟨i, h2, h3, h4, h5⟩ := info_parts info_item
  exact wpList_appP hg ho 89 Yabn.underlying50 h2 h3 h4 h5 base hE v xs y1 y2 hs hown B c hx hblk hb h
end
end Go.Proofs.YbyabwGreat
