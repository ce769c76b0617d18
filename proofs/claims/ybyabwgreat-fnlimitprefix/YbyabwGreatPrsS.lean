/- What RefParse holds in memory besides the parser -/
import Derived.Test.YbyabwGreatPrsRt
import Derived.Test.YbyabwGreatPrsQ
namespace Go.Proofs.YbyabwGreat
open Go.RowKit
set_option maxRecDepth 100000
set_option linter.unusedVariables false

section
variable {T : TypeId} {tl : List Value} {w wr w1 w2 Y : World} {S E : Nat} {ta : Option Addr} {tc : Nat} {ts : List (Int × Int)} {s s1 : PS} {v v1 u : Value}
/-- A block of the call's own, besides the parser, is written. -/
theorem PI.set (h : PI T tl w wr S ta tc ts s v) (hs : Side S E v) (hg : wr.grownBy w1 (some E)) : PI T tl w w1 S ta tc ts s v := by
  have h1 := hs.s
  have h2 := h.low
  have h3 := h.ex.size
  have hb : But (fun q => q = E) wr w1 := But.of_grown hg (fun q hq => by cases hq; rfl)
  exact ⟨h.prs.new hg hs, hb.blk h.blk (by omega), Below.trans h.ex (hb.below (fun k hk => by omega) h3), h.low⟩
structure BadQ (w wr : World) (S : Nat) : Prop where
  bad : BadAt wr S
  blk : Blk wr w.heap.size 53 qz
  ex : Ext w wr
  low : w.heap.size < S
theorem BadQ.fr (h : BadQ w wr S) (hb : BadAt w1 S) (hf : Fr S (.slice none 0 0) v1 wr w1) : BadQ w w1 S := by
  have h1 := h.low
  have h3 := h.ex.size
  refine ⟨hb, hf.but.blk h.blk (fun hh => ?_), Below.trans h.ex (hf.but.below (fun k hk => ?_) h3), h.low⟩
  · rcases hh with hh | hh
    · omega
    · cases hh
  · rcases hk with hk | hk
    · omega
    · cases hk
theorem PI.badq (h : PI T tl w wr S ta tc ts s v) (hf : Fr S v v1 wr w1) (hb : BadAt w1 S) : BadQ w w1 S := ⟨hb, (h.keep hf).1, (h.keep hf).2, h.low⟩
theorem BadQ.ext (h : BadQ w wr S) (he : Ext wr w1) : BadQ w w1 S := ⟨h.bad.ext he, h.blk.ext he, h.ex.trans he, h.low⟩
theorem BadQ.set (h : BadQ w wr S) (hE : S < E) (hg : wr.grownBy w1 (some E)) : BadQ w w1 S := by
  have h2 := h.low
  have h3 := h.ex.size
  have hb : But (fun q => q = E) wr w1 := But.of_grown hg (fun q hq => by cases hq; rfl)
  exact ⟨h.bad.new hg (by omega), hb.blk h.blk (by omega), Below.trans h.ex (hb.below (fun k hk => by omega) h3), h.low⟩
end
theorem step_int {ops : Array Oper} {o : Oper} {a : Act} {K : Act → World → Prop} {Q : Exit → Act → World → Prop} {X : Prop} {w : World} (hg : o.guard = none) {s x : Operand}
    (ho : o.op = .call { callee := .builtin .append, args := #[s, x], argTypes := #[44, 44] })
    (base : Nat) (hE : base ≤ w.heap.size) (v : Value) (xs : List Int) (y : Int) (hs : a.eval s = v) (hown : OwnI w base 3 v xs)
    (B c : Nat) (hx : a.eval x = .slice (some ⟨B, 0, none⟩) 1 c) (hblk : w.heap[B]? = some (.cells #[.int .i64 y] 3 (0, 0))) (hb : xs.length < 2 ^ 39)
    (h : ∀ g cap w', OwnI w' base 3 (.slice (some ⟨g, 0, none⟩) (xs.length + 1) cap) (xs ++ [y]) → w.grownBy w' v.ownBlock → (v.ownBlock = some g ∨ g = w.heap.size) → g < w'.heap.size → K (a.put o.dst (.slice (some ⟨g, 0, none⟩) (xs.length + 1) cap)) w') :
    if Region.wanted o (yielded ops a.tmps) = true then Oper.wp Yabn.prog o a w K Q else X := by
  obtain ⟨i, h2, h3, h4, h5⟩ := info_parts info_int
  refine step_append_lies w hg s x 44 ho base 3 i _ 1 8 Yabn.underlying44 h2 h3 h4 h5 rfl (by omega) v xs.length (xs.map (Value.int .i64)) hs hown ⟨B, 0, none⟩ 1 c [.int .i64 y] hx rfl
    (fun j u hu => World.news_of_block hblk j u (by simpa using hu)) (by simp [Value.oneCell']) (by omega) (by unfold maxLen; omega) (by omega) hE w.heap.size rfl ?_
  intro g cap w' ho' hgr hor hlt
  refine h g cap w' ?_ hgr hor hlt
  unfold OwnI
  rw [List.map_append, List.length_append]
  exact ho'
end Go.Proofs.YbyabwGreat
