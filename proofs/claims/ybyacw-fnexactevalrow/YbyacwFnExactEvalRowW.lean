/- Walk: laws.FnExactEvalRow -/
import Derived.Test.YbyacwEval3
import Derived.Test.YbyacwNodes2
namespace Go.Proofs.Ybyacw
open Go.RowKit
set_option maxRecDepth 100000
set_option linter.unusedVariables false

def TrueE (w : World) : Ending → World → Prop := fun e w' => e = .returned (.bool true) ∧ Ext w w'
def RetVB (v : Int) (b : Bool) (w : World) : Ending → World → Prop := fun e w' => e = .returned (.tuple #[.int .i64 v, .bool b]) ∧ Ext w w'

theorem ev_vb (ns : List Nd) (row : List Int) (r : Int) : ∃ v b, ∀ w en w', RetEv ns row r w en w' → RetVB v b w en w' := by
  by_cases h : evOK ns row r
  · refine ⟨evAt ns row r, true, fun w en w' hh => ?_⟩
    rcases hh with ⟨hx, ⟨_, rfl⟩ | ⟨hn, _⟩⟩
    · exact ⟨rfl, hx⟩
    · exact absurd h hn
  · refine ⟨0, false, fun w en w' hh => ?_⟩
    rcases hh with ⟨hx, ⟨hn, _⟩ | ⟨_, rfl⟩⟩
    · exact absurd hn h
    · exact ⟨rfl, hx⟩

theorem ownN_block {w : World} {base n c : Nat} {e : TypeId} {a : Option Addr} {ns : List Nd} (h : OwnN w base e (.slice a n c) ns) : ∀ k, (Value.slice a n c).ownBlock = some k → base ≤ k := fun k hk => OwnV.block h k hk

set_option maxHeartbeats 1000000 in
theorem fnExactEvalRow_big (ns : List Nd) (row : List Int) (a ar : Option Addr) (c cr : Nat) (r : Int) (w : World) (h : 1048576 < (ns.length : Int) ∨ 1048576 < (row.length : Int)) :
    Calls Yacn.prog 3 #[.slice a ns.length c, .int .i64 r, .slice ar row.length cr] w (TrueE w) := by
  by_cases h1 : 1048576 < (ns.length : Int)
  · go_enter Yacn.func3, Yacn.ntmps3
    go_wp2
    go_ret
    exact ⟨rfl, Ext.refl w⟩
  · have h2 : 1048576 < (row.length : Int) := by omega
    go_enter Yacn.func3, Yacn.ntmps3
    go_wp2
    go_ret
    exact ⟨rfl, Ext.refl w⟩

set_option maxHeartbeats 4000000 in
theorem fnExactEvalRow_main (ns : List Nd) (row : List Int) (a ar : Option Addr) (c cr : Nat) (r : Int) (w : World) (hn : Hid (NodesAt w a ns)) (hr : Hid (IntsAt w ar row)) (h1 : ¬ 1048576 < (ns.length : Int)) (h2 : ¬ 1048576 < (row.length : Int)) :
    Calls Yacn.prog 3 #[.slice a ns.length c, .int .i64 r, .slice ar row.length cr] w (TrueE w) := by
  obtain ⟨V, B, hvb⟩ := ev_vb ns row r
  have l1 : ns.length < 2 ^ 39 := by omega
  have l2 : row.length < 2 ^ 39 := by omega
  have hE : Hid (∀ a ar c cr w, NodesAt w a ns → IntsAt w ar row → Calls Yacn.prog 14 #[.slice a ns.length c, .int .i64 r, .slice ar row.length cr] w (RetVB V B w)) := fun a ar c cr w k1 k2 => (EvalRow ns row a ar c cr r w k1 k2 l1 l2).mono (hvb w)
  have hF : Hid (∀ a ar c cr w, NodesAt w a ns → IntsAt w ar row → Calls Yacn.prog 11 #[.slice a ns.length c, .int .i64 r, .slice ar row.length cr] w (RetVB V B w)) := fun a ar c cr w k1 k2 => (RefEval ns row a ar c cr r w k1 k2 l1 l2).mono (hvb w)
  clear hvb
  have hbb : (B != B) = false := by simp
  have hvv : (V != V) = false := by simp
  go_enter Yacn.func3, Yacn.ntmps3
  go_wp2_with fail
  refine (cpNodes ns a c false w hn l1).mono ?_
  rintro e w1 ⟨p1, q1, rfl, o1, x1⟩
  have n1 := hide o1.nodes
  replace x1 := hide x1
  clear o1
  go_wp2_with fail
  refine (cpI64 row ar cr false w1 (hr.out.ext x1.out) l2).mono ?_
  rintro e w2 ⟨p2, q2, rfl, o2, x2⟩
  have n2 := hide o2.ints
  replace x2 := hide x2
  clear o2
  go_wp2_with fail
  refine (hF.out p1 p2 q1 q2 w2 (n1.out.ext x2.out) n2.out).mono ?_
  rintro e w3 ⟨rfl, x3⟩
  have X3 : Hid (Ext w w3) := (x1.out.trans x2.out).trans x3
  clear x1 x2 x3 n1 n2
  go_wp2_with fail
  go_loopw [9] (fun i wr => ∃ k : Nat, i = .int .i64 k ∧ k ≤ 2 ∧ Hid (Ext w wr)) (fun i _ => 2 - (intOf i).toNat)
  case atStart => exact ⟨0, rfl, by omega, X3⟩
  clear X3
  obtain ⟨k, rfl, hk, X⟩ := hrel
  by_cases hk2 : k < 2
  · have hk2' : (k : Int) < 2 := by omega
    generalize hne : ((k : Int) == 1) = ne
    replace hne := hide hne
    obtain ⟨W, rfl⟩ : ∃ W, W = wr := ⟨_, rfl⟩
    go_wp2_with fail
    rw [hne.out]
    refine (cpNodes ns a c ne W (hn.out.ext X.out) l1).mono ?_
    rintro e w1 ⟨p1, q1, rfl, o1, x1⟩
    replace o1 := hide o1
    replace x1 := hide x1
    go_wp2_with fail
    refine (cpI64 row ar cr ne w1 (hr.out.ext (X.out.trans x1.out)) l2).mono ?_
    rintro e w2 ⟨p2, q2, rfl, o2, x2⟩
    replace o2 := hide o2
    replace x2 := hide x2
    go_wp2_with fail
    refine (hE.out p1 p2 q1 q2 w2 (o1.out.nodes.ext x2.out) o2.out.ints).mono ?_
    rintro e w3 ⟨rfl, x3⟩
    have o3 := hide (OwnN.ext o1.out (x2.out.trans x3))
    have i3 := hide (OwnI.ext o2.out x3)
    have X3 : Hid (Ext w w3) := ((X.out.trans x1.out).trans x2.out).trans x3
    have hap : Hid (Apart (.slice p2 row.length q2) (.slice p1 ns.length q1)) := (apart_base o1.out.2 o2.out (Nat.le_refl _)).symm
    have hb1 : W.heap.size ≤ w1.heap.size := x1.out.size
    clear o1 o2 x1 x2 x3
    go_wp2_with fail
    refine (cvNodes ns p1 q1 w3 o3.out.nodes l1).mono ?_
    rintro e w4 ⟨p4, q4, rfl, o4, x4⟩
    have n4 := hide o4.nodes
    replace x4 := hide x4
    clear o4
    go_wp2_with fail
    refine (cvNodes ns a c w4 (hn.out.ext (X3.out.trans x4.out)) l1).mono ?_
    rintro e w5 ⟨p5, q5, rfl, o5, x5⟩
    have n5 := hide o5.nodes
    replace x5 := hide x5
    clear o5
    go_wp2_with fail
    refine (eqLNodes ns p4 p5 q4 q5 w5 (n4.out.ext x5.out) n5.out l1).mono ?_
    rintro e w6 ⟨rfl, x6⟩
    have X36 : Hid (Ext w3 w6) := (x4.out.trans x5.out).trans x6
    clear n4 n5 x4 x5 x6
    go_wp2_with fail
    refine (eqI64 row p2 ar q2 cr w6 (i3.out.ints.ext X36.out) (hr.out.ext (X3.out.trans X36.out)) l2).mono ?_
    rintro e w7 ⟨rfl, x7⟩
    have X37 : Hid (Ext w3 w7) := X36.out.trans x7
    clear X36 x7
    go_wp2_with fail
    refine (scNodes ns p1 q1 W.heap.size w7 (o3.out.ext X37.out) l1).mono ?_
    rintro e w8 ⟨rfl, g8⟩
    replace g8 := hide g8
    go_wp2_with fail
    refine (scI64 row p2 q2 w1.heap.size w8 ((i3.out.ext X37.out).but g8.out hap.out) l2).mono ?_
    rintro e w9 ⟨rfl, g9⟩
    have X9 : Hid (Ext w w9) := ((X3.out.trans X37.out).grown g8.out (fun k hk => Nat.le_trans X.out.size (ownN_block o3.out k hk))).grown g9 (fun k hk => Nat.le_trans (Nat.le_trans X.out.size hb1) (i3.out.block k hk))
    clear g8 g9 X37 X3 hap o3 i3 hb1
    go_wp2_with fail
    refine (cpNodes ns a c ne w9 (hn.out.ext X9.out) l1).mono ?_
    rintro e w10 ⟨p10, q10, rfl, o10, x10⟩
    replace o10 := hide o10
    replace x10 := hide x10
    go_wp2_with fail
    refine (cpI64 row ar cr ne w10 (hr.out.ext (X9.out.trans x10.out)) l2).mono ?_
    rintro e w11 ⟨p11, q11, rfl, o11, x11⟩
    replace o11 := hide o11
    replace x11 := hide x11
    go_wp2_with fail
    refine (hE.out p10 p11 q10 q11 w11 (o10.out.nodes.ext x11.out) o11.out.ints).mono ?_
    rintro e w12 ⟨rfl, x12⟩
    have X12 : Hid (Ext w w12) := ((X9.out.trans x10.out).trans x11.out).trans x12
    clear o10 o11 x10 x11 x12 X9
    go_wp2
    go_roundw
    case rel => exact ⟨k + 1, by go_num, by omega, X12.out⟩
    case measure => simp [intOf]; omega
  · obtain rfl : k = 2 := by omega
    clear hk hk2
    go_wp2
    go_ret
    exact ⟨rfl, X.out⟩

theorem fnExactEvalRow_walk (ns : List Nd) (row : List Int) (a ar : Option Addr) (c cr : Nat) (r : Int) (w : World) (hn : NodesAt w a ns) (hr : IntsAt w ar row) :
    Calls Yacn.prog 3 #[.slice a ns.length c, .int .i64 r, .slice ar row.length cr] w (TrueE w) := by
  by_cases h : 1048576 < (ns.length : Int) ∨ 1048576 < (row.length : Int)
  · exact fnExactEvalRow_big ns row a ar c cr r w h
  · exact fnExactEvalRow_main ns row a ar c cr r w hn hr (by omega) (by omega)
end Go.Proofs.Ybyacw
