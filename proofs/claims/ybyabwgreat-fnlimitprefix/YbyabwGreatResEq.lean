/- Walks: spec.ResultEqual on equal results, laws.resultZero -/
import Derived.Test.YbyabwGreatGrp10
import Derived.Test.YbyabwGreatExec1
namespace Go.Proofs.YbyabwGreat
open Go.RowKit
set_option maxRecDepth 100000
set_option linter.unusedVariables false
set_option linter.unusedSimpArgs false

set_option maxHeartbeats 2000000 in
theorem ResultEqual_same (c : Int) (xs : List Int) (a b : Option Addr) (ac bc : Nat) (w : World) (ha : Hid (IntsAt w a xs)) (hb : Hid (IntsAt w b xs)) (hl : xs.length < 2 ^ 39) :
    Calls Yabn.prog 10 #[.agg #[.int .i64 c, .slice a xs.length ac], .agg #[.int .i64 c, .slice b xs.length bc]] w (RetTrue w) := by
  have hB1 : Hid (Blk ((w.alloc (.cells #[.int .i64 c, .slice a xs.length ac] 34)).alloc (.cells #[.int .i64 c, .slice b xs.length bc] 34)) w.heap.size 34 [.int .i64 c, .slice a xs.length ac]) := (Blk.new w _ _).alloc _
  have hB2 : Hid (Blk ((w.alloc (.cells #[.int .i64 c, .slice a xs.length ac] 34)).alloc (.cells #[.int .i64 c, .slice b xs.length bc] 34)) (w.heap.size + 1) 34 [.int .i64 c, .slice b xs.length bc]) := by
    have := Blk.new (w.alloc (.cells #[.int .i64 c, .slice a xs.length ac] 34)) #[.int .i64 c, .slice b xs.length bc] 34
    rw [show (w.alloc (.cells #[.int .i64 c, .slice a xs.length ac] 34)).heap.size = w.heap.size + 1 by simp] at this
    exact this
  have hX : Hid (Ext w ((w.alloc (.cells #[.int .i64 c, .slice a xs.length ac] 34)).alloc (.cells #[.int .i64 c, .slice b xs.length bc] 34))) := ((Ext.refl w).alloc _).alloc _
  have ec : (c == c) = true := by simp
  have q0 := hB1.out.box 0 _ rfl
  have q1 := hB1.out.box 1 _ rfl
  have t0 := hB2.out.box 0 _ rfl
  have t1 := hB2.out.box 1 _ rfl
  go_enter Yabn.func10, Yabn.ntmps10
  go_wp2_with fail
  generalize ((w.alloc (.cells #[.int .i64 c, .slice a xs.length ac] 34)).alloc (.cells #[.int .i64 c, .slice b xs.length bc] 34)) = W at *
  refine (I64Eq_same xs a b ac bc W (ha.out.ext hX.out) (hb.out.ext hX.out) hl).mono ?_
  rintro e w1 ⟨rfl, x1⟩
  have X1 : Hid (Ext w w1) := hX.out.trans x1
  clear x1 q0 q1 t0 t1
  dsimp only
  go_wp2
  go_ret
  exact ⟨rfl, X1.out⟩
set_option maxHeartbeats 2000000 in
theorem resultZero (w : World) : Calls Yabn.prog 9 #[.agg #[.int .i64 0, .slice none 0 0]] w (RetTrue w) := by
  have hX : Hid (Ext w (w.alloc (.cells #[.int .i64 0, .slice none 0 0] 34))) := (Ext.refl w).alloc _
  go_enter Yabn.func9, Yabn.ntmps9
  go_wp2
  go_ret
  exact ⟨rfl, hX.out⟩
/-- Two calls on one text and table answer the same. -/
theorem Exr.len {x : ByteArray} {cs : List Col} {n : Int} {c : Nat} {xs : List Int} (h : Exr x cs n (some (c, xs))) : ∃ q, Pq x (some q) ∧ CmOK q cs.length ∧ ValidT cs n ∧ costV (plan q cs.length) cs.length n.toNat = true ∧ c = q.its.length ∧ xs = run (plQ q cs.length) (rowT cs) n.toNat cs.length := by
  rcases h with ⟨_, h⟩ | ⟨h1, ⟨_, h⟩ | ⟨q, h2, ⟨_, h⟩ | ⟨h3, ⟨_, h⟩ | ⟨h4, h⟩⟩⟩⟩
  · cases h
  · cases h
  · cases h
  · cases h
  · cases h
    exact ⟨q, h2, h3, h1, h4, rfl, rfl⟩
end Go.Proofs.YbyabwGreat
