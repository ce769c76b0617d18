/- Walks: the parser of spec: push, expect, enter -/
import Derived.Test.YbyabwGreatPrs0
namespace Go.Proofs.YbyabwGreat
open Go.RowKit
set_option maxRecDepth 100000
set_option linter.unusedVariables false

abbrev PrsR := PrsAt 119 [.bool false]
/-- The parser of spec has given up. -/
def BadAt (w : World) (S : Nat) : Prop := ∃ (c0 c1 c2 : Value) (d : Int), Blk w S 119 [c0, c1, c2, .int .i64 d, .bool true]
def RetBad (S : Nat) (v : Value) (w : World) : Ending → World → Prop := fun en w' => en = .returned (.tuple #[]) ∧ BadAt w' S ∧ Fr S v (.slice none 0 0) w w'
def RetPrs (ts : List (Int × Int)) (S : Nat) (ta : Option Addr) (tc : Nat) (s' : PS) (r : Value) (v : Value) (w : World) : Ending → World → Prop := fun en w' => en = .returned r ∧ PrsR w' S ta tc ts s' v ∧ Fr S v v w w'
def RetBadV (r : Value) (S : Nat) (v : Value) (w : World) : Ending → World → Prop := fun en w' => en = .returned r ∧ BadAt w' S ∧ Fr S v (.slice none 0 0) w w'
theorem Fr.drop {S : Nat} {v v' : Value} {w w' : World} (h : Fr S v v' w w') : Fr S v (.slice none 0 0) w w' := ⟨h.but, fun q hq => by cases hq⟩
theorem PrsAt.c4 {T : TypeId} {b : Bool} {w : World} {S : Nat} {ta : Option Addr} {tc : Nat} {ts : List (Int × Int)} {s : PS} {v : Value} (h : PrsAt T [.bool b] w S ta tc ts s v) : w.cell? ⟨S, 4, none⟩ = some (.bool b) := h.blk.box 4 _ rfl
theorem PrsAt.bad {w : World} {S : Nat} {ta : Option Addr} {tc : Nat} {ts : List (Int × Int)} {s : PS} {v : Value} (h : PrsR w S ta tc ts s v) : BadAt (w.setCell ⟨S, 4, none⟩ (.bool true)) S := ⟨_, _, _, _, h.blk.stored 4 (.bool true)⟩
theorem BadAt.c4 {w : World} {S : Nat} (h : BadAt w S) : w.cell? ⟨S, 4, none⟩ = some (.bool true) := by
  obtain ⟨c0, c1, c2, d, h⟩ := h
  exact h.box 4 _ rfl
theorem BadAt.c3 {w : World} {S : Nat} (h : BadAt w S) : ∃ d, w.cell? ⟨S, 3, none⟩ = some (.int .i64 d) ∧ ∀ x, BadAt (w.setCell ⟨S, 3, none⟩ (.int .i64 x)) S := by
  obtain ⟨c0, c1, c2, d, h⟩ := h
  exact ⟨d, h.box 3 _ rfl, fun x => ⟨_, _, _, _, h.stored 3 (.int .i64 x)⟩⟩
theorem BadAt.fz {w : World} {S : Nat} (h : BadAt w S) (i : Nat) : w.frozen? ⟨S, i, none⟩ = false := by
  obtain ⟨c0, c1, c2, d, h⟩ := h
  exact h.frozen i
theorem BadAt.again {w : World} {S : Nat} (h : BadAt w S) : BadAt (w.setCell ⟨S, 4, none⟩ (.bool true)) S := by
  obtain ⟨c0, c1, c2, d, h⟩ := h
  exact ⟨_, _, _, _, h.stored 4 (.bool true)⟩

set_option maxHeartbeats 2000000 in
theorem R.push (S : Nat) (ta : Option Addr) (tc : Nat) (ts : List (Int × Int)) (s : PS) (v : Value) (n1 n2 n3 n4 : Int) (w : World) (h : Hid (PrsR w S ta tc ts s v)) (hn : s.nd.length < s.pos) :
    Calls Yabn.prog 87 #[.pointer (some ⟨S, 0, none⟩), .int .i64 n1, .int .i64 n2, .int .i64 n3, .int .i64 n4] w (RetPush 119 [.bool false] ts S ta tc s ⟨n1, n2, n3, n4⟩ v w) := by
  have hS := h.out.blk.lt
  have k2 := h.out.c2
  have fz := h.out.fz 2
  have hl9 : s.nd.length ≤ 65536 := by have := h.out.le; have := h.out.len; omega
  have hln : Hid (s.nd.length < 2 ^ 39) := by show s.nd.length < 2 ^ 39; omega
  have hne : Hid (v.ownBlock ≠ some S) := fun hh => h.out.ne S hh rfl
  replace hn := hide hn
  go_enter Yabn.func87, Yabn.ntmps87
  go_wp2_with (at_builtin; refine app_node rfl rfl (S + 1) (by simp; omega) v s.nd ⟨n1, n2, n3, n4⟩ rfl (OwnN.alloc h.out.nodes _) w.heap.size 1 (by rfl) (heap_alloc_new w _) hln.out ?_; intro g cap w2 hown2 hgr hor hlt2; clear k2 fz; have B2 := hide ((h.out.blk.alloc (.cells #[.int .i64 n1, .int .i64 n2, .int .i64 n3, .int .i64 n4] 98)).grown hgr hne.out); have k2 := B2.out.box 2 _ rfl; have fz := B2.out.frozen 2; replace hgr := hide hgr; replace hown2 := hide hown2; replace hor := hide hor)
  go_ret
  have he := push_end h.out ((Ext.refl w).alloc (.cells #[.int .i64 n1, .int .i64 n2, .int .i64 n3, .int .i64 n4] 98)) hown2.out hgr.out hor.out hn.out (Fr.refl S v w)
  exact ⟨_, rfl, he.1, he.2⟩

set_option maxHeartbeats 1000000 in
theorem R.expect_ok (S : Nat) (ta : Option Addr) (tc : Nat) (ts : List (Int × Int)) (s : PS) (v : Value) (k : Int) (w : World) (h : Hid (PrsR w S ta tc ts s v)) (hk : Hid (pk ts s.pos = k)) (hlt : s.pos < ts.length) :
    Calls Yabn.prog 54 #[.pointer (some ⟨S, 0, none⟩), .int .i64 k] w (RetPrs ts S ta tc s.adv (.tuple #[]) v w) := by
  have k4 := h.out.c4
  have hkk : (k != k) = false := by simp
  go_enter Yabn.func54, Yabn.ntmps54
  go_wp2_with fail
  refine (R.peek S ta tc ts s v k hk w h).mono ?_
  rintro e w3 ⟨rfl, x3⟩
  have h3 := hide (h.out.ext x3)
  have f3 : Hid (Fr S v v w w3) := Fr.of_ext x3
  clear x3 h k4
  have k1 := h3.out.c1
  have fz := h3.out.fz 1
  have hl := h3.out.len
  have h4 := hide (h3.out.adv hlt)
  have f4 : Hid (Fr S v v w (w3.setCell ⟨S, 1, none⟩ (.int .i64 ((s.pos : Int) + 1)))) := f3.out.trans (Fr.set _ _ _)
  go_wp2
  go_end0
  exact ⟨rfl, h4.out, f4.out⟩
set_option maxHeartbeats 1000000 in
theorem R.expect_no (S : Nat) (ta : Option Addr) (tc : Nat) (ts : List (Int × Int)) (s : PS) (v : Value) (k k' : Int) (w : World) (h : Hid (PrsR w S ta tc ts s v)) (hk : Hid (pk ts s.pos = k')) (hne : k' ≠ k) :
    Calls Yabn.prog 54 #[.pointer (some ⟨S, 0, none⟩), .int .i64 k] w (RetBad S v w) := by
  have k4 := h.out.c4
  have hkk : (k' != k) = true := by simpa using hne
  go_enter Yabn.func54, Yabn.ntmps54
  go_wp2_with fail
  refine (R.peek S ta tc ts s v k' hk w h).mono ?_
  rintro e w3 ⟨rfl, x3⟩
  have h3 := hide (h.out.ext x3)
  have f3 : Hid (Fr S v v w w3) := Fr.of_ext x3
  clear x3 h k4
  have k4 := h3.out.c4
  have fz := h3.out.fz 4
  have h4 := hide h3.out.bad
  have f4 : Hid (Fr S v v w (w3.setCell ⟨S, 4, none⟩ (.bool true))) := f3.out.trans (Fr.set _ _ _)
  go_wp2
  go_end0
  exact ⟨rfl, h4.out, f4.out.drop⟩
set_option maxHeartbeats 1000000 in
theorem R.expect_bad (S : Nat) (v : Value) (k : Int) (w : World) (h : Hid (BadAt w S)) :
    Calls Yabn.prog 54 #[.pointer (some ⟨S, 0, none⟩), .int .i64 k] w (RetBad S v w) := by
  have k4 := h.out.c4
  have fz := h.out.fz 4
  have h4 := hide h.out.again
  go_enter Yabn.func54, Yabn.ntmps54
  go_wp2
  go_end0
  exact ⟨rfl, h4.out, (Fr.set (v := v) w 4 (.bool true)).drop⟩
set_option maxHeartbeats 1000000 in
theorem R.enter_ok (S : Nat) (ta : Option Addr) (tc : Nat) (ts : List (Int × Int)) (s : PS) (v : Value) (w : World) (h : Hid (PrsR w S ta tc ts s v)) (hd : s.dep < 4096) :
    Calls Yabn.prog 99 #[.pointer (some ⟨S, 0, none⟩)] w (RetPrs ts S ta tc s.deep (.bool true) v w) := by
  have k3 := h.out.c3
  have fz := h.out.fz 3
  have hd' : ¬ 4096 < (s.dep : Int) + 1 := by omega
  have h4 := hide (h.out.deep hd)
  go_enter Yabn.func99, Yabn.ntmps99
  go_wp2
  go_ret
  exact ⟨rfl, h4.out, Fr.set _ _ _⟩
set_option maxHeartbeats 1000000 in
theorem R.enter_no (S : Nat) (ta : Option Addr) (tc : Nat) (ts : List (Int × Int)) (s : PS) (v : Value) (w : World) (h : Hid (PrsR w S ta tc ts s v)) (hd : ¬ s.dep < 4096) :
    Calls Yabn.prog 99 #[.pointer (some ⟨S, 0, none⟩)] w (RetBadV (.bool false) S v w) := by
  have k3 := h.out.c3
  have fz := h.out.fz 3
  have k4 := h.out.c4
  have fz4 := h.out.fz 4
  have hd' : 4096 < (s.dep : Int) + 1 := by omega
  have hdl := h.out.dep
  have hb : Hid (BadAt ((w.setCell ⟨S, 3, none⟩ (.int .i64 ((s.dep : Int) + 1))).setCell ⟨S, 4, none⟩ (.bool true)) S) := ⟨_, _, _, _, (h.out.blk.stored 3 (.int .i64 ((s.dep : Int) + 1))).stored 4 (.bool true)⟩
  go_enter Yabn.func99, Yabn.ntmps99
  go_wp2
  go_ret
  exact ⟨rfl, hb.out, ((Fr.set (v := v) w 3 _).trans (Fr.set _ 4 _)).drop⟩
end Go.Proofs.YbyabwGreat
