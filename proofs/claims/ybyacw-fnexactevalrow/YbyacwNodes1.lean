/- Walks: laws.cpNodes, cpI64, scNodes, scI64, cvNodes, eqLNodes, eqI64 -/
import Derived.Test.YbyacwNodes0
import Derived.Test.YbyacwDraw
import Derived.Test.YbyacwInts1
namespace Go.Proofs.Ybyacw
open Go.RowKit
set_option maxRecDepth 100000
set_option linter.unusedVariables false

theorem info_node : (Yacn.prog.info? 118).map (fun i => (i.zero, i.size, i.bytes)) = some (some (.agg #[.int .i64 0, .int .i64 0, .int .i64 0, .int .i64 0]), 4, 32) := by kernel_rfl
theorem info_lnode : (Yacn.prog.info? 122).map (fun i => (i.zero, i.size, i.bytes)) = some (some (.agg #[.int .i64 0, .int .i64 0, .int .i64 0, .int .i64 0]), 4, 32) := by kernel_rfl
theorem size_node : (Yacn.prog.info? 118).map (·.size) = some 4 := by kernel_rfl

def ndZ : List Value := [.int .i64 0, .int .i64 0, .int .i64 0, .int .i64 0]
section
variable {ops : Array Oper} {rest : List Oper} {o : Oper} {a : Act} {Q : Exit → Act → World → Prop} {w : World}
theorem mk_node (hg : o.guard = none) {l c : Operand} (hop : o.op = Op.makeSlice 22 l c)
    (n : Nat) (hl : a.eval l = .int .i64 n) (hc : a.eval c = .int .i64 n) (hb : n < 2 ^ 40) (N : Nat) (hN : w.heap.size = N)
    (hK : ∀ w', OwnV w' N 118 4 (.slice (some ⟨N, 0, none⟩) n n) (List.replicate n ndZ) → Ext w w' → w'.heap.size = N + 1 → wpList Yacn.prog ops Q rest (a.put o.dst (.slice (some ⟨N, 0, none⟩) n n)) w') :
    wpList Yacn.prog ops Q (o :: rest) a w := by
  obtain ⟨i, h2, h3, h4, h5⟩ := info_parts info_node
  exact wpList_mkV hg hop 118 Yacn.underlying22 h2 h3 h4 (by omega) rfl (by omega) n hl hc hb N hN hK
end

set_option maxHeartbeats 1000000 in
theorem cpNodes_0 (a : Option Addr) (c : Nat) (ne : Bool) (w : World) : Calls Yacn.prog 12 #[.slice a 0 c, .bool ne] w (RetNodes 118 [] w) := by
  cases ne with
  | true =>
    go_enter Yacn.func12, Yacn.ntmps12
    go_wp2
    go_ret
    exact ⟨none, 0, rfl, OwnN.nil _ _ _, Ext.refl w⟩
  | false =>
    go_enter Yacn.func12, Yacn.ntmps12
    go_wp2
    go_ret
    exact ⟨some ⟨w.heap.size, 0, none⟩, 0, rfl, ⟨Wide.nil 4, ownsRow_empty w _ 4⟩, (Ext.refl w).alloc _⟩

set_option maxHeartbeats 1000000 in
theorem cpNodes_1 (ns : List Nd) (a : Option Addr) (c : Nat) (ne : Bool) (w : World) (h : Hid (NodesAt w a ns)) (l : ns.length < 2 ^ 39) (h0 : ((ns.length : Int) == 0) = false) :
    Calls Yacn.prog 12 #[.slice a ns.length c, .bool ne] w (RetNodes 118 ns w) := by
  go_enter Yacn.func12, Yacn.ntmps12
  go_wp2_with (at_make; refine mk_node rfl rfl ns.length rfl rfl (by omega) w.heap.size rfl ?_; intro w1 hown hx1 hsz; replace hown := hide hown; replace hx1 := hide hx1)
  go_loopw [6] (fun i wr => ∃ k : Nat, i = .int .i64 k ∧ k ≤ ns.length ∧ Hid (OwnV wr w.heap.size 118 4 (.slice (some ⟨w.heap.size, 0, none⟩) ns.length ns.length) (fillR (nodeRows ns) ndZ ns.length k)) ∧ Hid (Ext w wr)) (fun i _ => ns.length - (intOf i).toNat)
  case atStart => exact ⟨0, rfl, by omega, by rw [fillR_zero]; exact hown, hx1⟩
  clear hown hx1 hsz
  obtain ⟨k, rfl, hk, hown, hext⟩ := hrel
  by_cases hlt : k < ns.length
  · have hlt' : (k : Int) < ns.length := by omega
    obtain ⟨b, off, rfl, g1, g2, g3, g4⟩ := (h.out.ext hext.out).get k hlt
    have hstep := fillR_step (nodeRows ns) ndZ ns.length k (nodeRows_len ns) hlt
    have hfl := fillR_len (nodeRows ns) ndZ ns.length k (nodeRows_len ns) hk
    rw [nodeRows_at ns k hlt] at hstep
    have hb1 := cell_lt g1
    generalize ns.getD k nd0 = nd at *
    obtain ⟨y1, y2, y3, y4⟩ := nd
    simp only [Nd.cells] at g1 g2 g3 g4 hb1 hstep
    replace hstep := hide hstep
    replace hfl := hide hfl
    go_wp2
    refine Dr.region_text (by kernel_rfl) ?_
    go_wp2_with (refine wpList_storeV rfl rfl (i := k) (k := 4) (vs := [.int .i64 y1, .int .i64 y2, .int .i64 y3, .int .i64 y4]) (by rfl) (by rfl) (OwnV.drew hown.out) (by have := hfl.out; omega) size_node rfl (by simp [Value.oneCell']) ?_; intro w2 hown2 hgr; replace hgr := hide hgr; replace hown2 := hide hown2)
    refine ⟨by rfl, ?_⟩
    go_wp2
    go_roundw
    case rel =>
      refine ⟨k + 1, by go_num, by omega, hown2.out.congr hstep.out, hext.out.drew.grown hgr.out ?_⟩
      intro q hq; cases hq; exact Nat.le_refl _
    case measure => simp [intOf]; omega
  · obtain rfl : k = ns.length := by omega
    clear hlt hk
    rw [fillR_full _ _ _ (nodeRows_len ns)] at hown
    go_wp2
    go_ret
    exact ⟨_, _, rfl, hown.out, hext.out⟩

theorem cpNodes (ns : List Nd) (a : Option Addr) (c : Nat) (ne : Bool) (w : World) (h : Hid (NodesAt w a ns)) (l : ns.length < 2 ^ 39) :
    Calls Yacn.prog 12 #[.slice a ns.length c, .bool ne] w (RetNodes 118 ns w) := by
  cases ns with
  | nil => exact cpNodes_0 a c ne w
  | cons y ys => exact cpNodes_1 (y :: ys) a c ne w h l (by simp only [List.length_cons, beq_eq_false_iff_ne]; omega)

end Go.Proofs.Ybyacw
