/- Walks: spec.ResultEqual on equal results, laws.resultZero -/
import Derived.Test.YbyabwGrp10
import Derived.Test.YbyabwExec1
namespace Go.Proofs.Ybyabw
open Go.RowKit
set_option maxRecDepth 100000
set_option linter.unusedVariables false
set_option linter.unusedSimpArgs false

set_option maxHeartbeats 2000000 in
theorem ResultEqual_same (c : Int) (xs : List Int) (a b : Option Addr) (ac bc : Nat) (w : World) (ha : Hid (IntsAt w a xs)) (hb : Hid (IntsAt w b xs)) (hl : xs.length < 2 ^ 39) :
    Calls Yabn.prog 23 #[.agg #[.int .i64 c, .slice a xs.length ac], .agg #[.int .i64 c, .slice b xs.length bc]] w (RetTrue w) := by
  have hB1 : Hid (Blk ((w.alloc (.cells #[.int .i64 c, .slice a xs.length ac] 42)).alloc (.cells #[.int .i64 c, .slice b xs.length bc] 42)) w.heap.size 42 [.int .i64 c, .slice a xs.length ac]) := (Blk.new w _ _).alloc _
  have hB2 : Hid (Blk ((w.alloc (.cells #[.int .i64 c, .slice a xs.length ac] 42)).alloc (.cells #[.int .i64 c, .slice b xs.length bc] 42)) (w.heap.size + 1) 42 [.int .i64 c, .slice b xs.length bc]) := by
    have := Blk.new (w.alloc (.cells #[.int .i64 c, .slice a xs.length ac] 42)) #[.int .i64 c, .slice b xs.length bc] 42
    rw [show (w.alloc (.cells #[.int .i64 c, .slice a xs.length ac] 42)).heap.size = w.heap.size + 1 by simp] at this
    exact this
  have hX : Hid (Ext w ((w.alloc (.cells #[.int .i64 c, .slice a xs.length ac] 42)).alloc (.cells #[.int .i64 c, .slice b xs.length bc] 42))) := ((Ext.refl w).alloc _).alloc _
  have ec : (c == c) = true := by simp
  have q0 := hB1.out.box 0 _ rfl
  have q1 := hB1.out.box 1 _ rfl
  have t0 := hB2.out.box 0 _ rfl
  have t1 := hB2.out.box 1 _ rfl
  go_enter Yabn.func23, Yabn.ntmps23
  go_wp2_with fail
  generalize ((w.alloc (.cells #[.int .i64 c, .slice a xs.length ac] 42)).alloc (.cells #[.int .i64 c, .slice b xs.length bc] 42)) = W at *
  refine (I64Eq_same xs a b ac bc W (ha.out.ext hX.out) (hb.out.ext hX.out) hl).mono ?_
  rintro e w1 ⟨rfl, x1⟩
  have X1 : Hid (Ext w w1) := hX.out.trans x1
  clear x1 q0 q1 t0 t1
  dsimp only
  go_wp2
  go_ret
  exact ⟨rfl, X1.out⟩
/-- Two calls on one text and table answer the same. -/
theorem Exr.len {x : ByteArray} {cs : List Col} {n : Int} {c : Nat} {xs : List Int} (h : Exr x cs n (some (c, xs))) : ∃ q, Pq x (some q) ∧ CmOK q cs.length ∧ ValidT cs n ∧ costV (plan q cs.length) cs.length n.toNat = true ∧ c = q.its.length ∧ xs = run (plQ q cs.length) (rowT cs) n.toNat cs.length := by
  rcases h with ⟨_, h⟩ | ⟨h1, ⟨_, h⟩ | ⟨q, h2, ⟨_, h⟩ | ⟨h3, ⟨_, h⟩ | ⟨h4, h⟩⟩⟩⟩
  · cases h
  · cases h
  · cases h
  · cases h
  · cases h
    exact ⟨q, h2, h3, h1, h4, rfl, rfl⟩
end Go.Proofs.Ybyabw
