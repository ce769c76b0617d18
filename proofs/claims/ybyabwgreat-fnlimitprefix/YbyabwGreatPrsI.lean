/- Walks: the parser of impl, function by function, given what the calls inside it answer -/
import Derived.Test.YbyabwGreatPrs0
import Derived.Deep.RegionLaw
namespace Go.Proofs.YbyabwGreat
open Go.RowKit
set_option maxRecDepth 100000
set_option linter.unusedVariables false
set_option linter.unusedSimpArgs false

theorem step_node {ops : Array Oper} {o : Oper} {a : Act} {K : Act → World → Prop} {Q : Exit → Act → World → Prop} {E : Prop} {w : World} (hg : o.guard = none) {s x : Operand}
    (ho : o.op = .call { callee := .builtin .append, args := #[s, x], argTypes := #[51, 51] })
    (base : Nat) (hE : base ≤ w.heap.size) (v : Value) (ns : List Nd) (y : Nd) (hs : a.eval s = v) (hown : OwnN w base 98 v ns)
    (B c : Nat) (hx : a.eval x = .slice (some ⟨B, 0, none⟩) 1 c) (hblk : w.heap[B]? = some (.cells #[.int .i64 y.op, .int .i64 y.val, .int .i64 y.l, .int .i64 y.r] 98 (0, 0))) (hb : ns.length < 2 ^ 39)
    (h : ∀ g cap w', OwnN w' base 98 (.slice (some ⟨g, 0, none⟩) (ns.length + 1) cap) (ns ++ [y]) → w.grownBy w' v.ownBlock → (v.ownBlock = some g ∨ g = w.heap.size) → g < w'.heap.size → K (a.put o.dst (.slice (some ⟨g, 0, none⟩) (ns.length + 1) cap)) w') :
    if Region.wanted o (yielded ops a.tmps) = true then Oper.wp Yabn.prog o a w K Q else E := by
  obtain ⟨i, h2, h3, h4, h5⟩ := info_parts info_nodeP
  refine step_append_lies w hg s x 51 ho base 98 i _ 4 32 Yabn.underlying51 h2 h3 h4 h5 rfl (by omega) v ns.length (nodeRows ns).flatten hs (by have := hown.2; rw [nodeRows_len] at this; exact this) ⟨B, 0, none⟩ 1 c y.cells hx rfl
    (fun j u hu => World.news_of_block hblk j u (by simpa [Nd.cells] using hu)) (by simp [Nd.cells, Value.oneCell']) (by omega) (by unfold maxLen; omega) (by omega) hE w.heap.size rfl ?_
  intro g cap w' ho' hgr hor hlt
  refine h g cap w' ⟨nodeRows_wide _, ?_⟩ hgr hor hlt
  have e : (nodeRows (ns ++ [y])).flatten = (nodeRows ns).flatten ++ y.cells := by simp [nodeRows]
  rw [nodeRows_len, e, List.length_append]
  exact ho'

abbrev PrsI := PrsAt 87 []
set_option maxHeartbeats 2000000 in
theorem I.push (S : Nat) (ta : Option Addr) (tc : Nat) (ts : List (Int × Int)) (s : PS) (v : Value) (n1 n2 n3 n4 : Int) (w : World) (h : Hid (PrsI w S ta tc ts s v)) (hn : s.nd.length < s.pos) :
    Calls Yabn.prog 75 #[.pointer (some ⟨S, 0, none⟩), .agg #[.int .i64 n1, .int .i64 n2, .int .i64 n3, .int .i64 n4]] w (RetPush 87 [] ts S ta tc s ⟨n1, n2, n3, n4⟩ v w) := by
  have hx0 : Ext w (w.alloc (.cells #[.int .i64 n1, .int .i64 n2, .int .i64 n3, .int .i64 n4] 98)) := (Ext.refl w).alloc _
  have hb0 : Box (w.alloc (.cells #[.int .i64 n1, .int .i64 n2, .int .i64 n3, .int .i64 n4] 98)) w.heap.size [.int .i64 n1, .int .i64 n2, .int .i64 n3, .int .i64 n4] := Box.new w _ _
  have hP := hide (h.out.ext hx0)
  have m0 := hb0 0 _ rfl
  have m1 := hb0 1 _ rfl
  have m2 := hb0 2 _ rfl
  have m3 := hb0 3 _ rfl
  have hS := h.out.blk.lt
  clear hb0
  have F0 : Hid (Fr S v v w (w.alloc (.cells #[.int .i64 n1, .int .i64 n2, .int .i64 n3, .int .i64 n4] 98))) := Fr.of_ext hx0
  have hz : w.heap.size ≠ S := by omega
  go_enter Yabn.func75, Yabn.ntmps75
  go_wp2
  generalize hX : (w.alloc (.cells #[.int .i64 n1, .int .i64 n2, .int .i64 n3, .int .i64 n4] 98)) = X at *
  have hXs : X.heap.size = w.heap.size + 1 := by rw [← hX]; simp
  clear hX hx0 h
  have k2 := hP.out.c2
  have fz := hP.out.fz 2
  have hln : s.nd.length < 2 ^ 39 := by have := hP.out.le; have := hP.out.len; omega
  replace hln := hide hln
  replace hXs := hide hXs
  replace hn := hide hn
  have hne : Hid (v.ownBlock ≠ some S) := fun hh => hP.out.ne S hh rfl
  have k2a : (X.alloc (.cells #[.int .i64 n1, .int .i64 n2, .int .i64 n3, .int .i64 n4] 98)).drew.cell? ⟨S, 2, none⟩ = some v := ((Ext.refl X).alloc _).drew.cell k2
  go_region_law (refine step_node rfl rfl (S + 1) (by have := hXs.out; simp; omega) v s.nd ⟨n1, n2, n3, n4⟩ (by simp [Act.eval, Act.put]) (OwnN.alloc hP.out.nodes _) X.heap.size 1 (by simp [Act.eval, Act.put]) (heap_alloc_new X _) hln.out ?_; intro g cap w2 hown2 hgr hor hlt2; have B2 := hide (((hP.out.blk.alloc (.cells #[.int .i64 n1, .int .i64 n2, .int .i64 n3, .int .i64 n4] 98)).drew).grown hgr hne.out); have k2 := B2.out.box 2 _ rfl; have fz := B2.out.frozen 2; replace hgr := hide hgr; replace hown2 := hide hown2; replace hor := hide hor)
  all_goals
    have hl9 : s.nd.length ≤ 65536 := by have := hP.out.le; have := hP.out.len; have := hn.out; omega
    go_wp2
    go_ret
    have he := push_end hP.out (((Ext.refl X).alloc (.cells #[.int .i64 n1, .int .i64 n2, .int .i64 n3, .int .i64 n4] 98)).drew) hown2.out hgr.out hor.out hn.out F0.out
    exact ⟨_, rfl, he.1, he.2⟩
def fnI : Nat → Nat
  | 0 => 107
  | 1 => 105
  | 2 => 103
  | 3 => 101
  | 4 => 98
  | 5 => 95
  | 6 => 74
  | _ => 37
def RetI (ts : List (Int × Int)) (lv : Nat) (s : PS) (S : Nat) (ta : Option Addr) (tc : Nat) (v : Value) (w : World) : Ending → World → Prop := fun en w' =>
  (Pr ts lv 0 s none ∧ en = .returned (.tuple #[.int .i64 0, .bool false]) ∧ Fr S v (.slice none 0 0) w w') ∨
  (∃ x s' v', Pr ts lv 0 s (some (x, s')) ∧ en = .returned (.tuple #[.int .i64 x, .bool true]) ∧ PrsI w' S ta tc ts s' v' ∧ Fr S v v' w w')
def OkI (ts : List (Int × Int)) (n : Nat) : Prop := ∀ lv, lv < 8 → ∀ (S : Nat) (ta : Option Addr) (tc : Nat) (s : PS) (v : Value) (w : World), mu ts lv s < n → PrsI w S ta tc ts s v →
  Calls Yabn.prog (fnI lv) #[.pointer (some ⟨S, 0, none⟩)] w (RetI ts lv s S ta tc v w)
end Go.Proofs.YbyabwGreat
