/- Walks: spec.opText, qgen.str, qgen.leaf -/
import Derived.Test.YbyabwGreatGen2
import Derived.Test.YbyabwGreatGen5
namespace Go.Proofs.YbyabwGreat
open Go.RowKit
set_option maxRecDepth 100000
set_option linter.unusedVariables false

def opT (k : Int) : List UInt8 :=
  if k = 4 then [43] else if k = 5 then [45] else if k = 6 then [42] else if k = 7 then [61] else if k = 8 then [60, 62] else if k = 9 then [60] else if k = 10 then [60, 61]
  else if k = 11 then [62] else if k = 12 then [62, 61] else if k = 13 then [65, 78, 68] else if k = 14 then [79, 82] else [63]
set_option maxHeartbeats 1000000 in
theorem opText_4 (w : World) : Calls Yabn.prog 94 #[.int .i64 4] w (RetStr (opT 4) w) := by
  go_enter Yabn.func94, Yabn.ntmps94
  go_wp2
  go_ret
  exact ⟨rfl, Ext.refl w⟩
set_option maxHeartbeats 1000000 in
theorem opText_5 (w : World) : Calls Yabn.prog 94 #[.int .i64 5] w (RetStr (opT 5) w) := by
  go_enter Yabn.func94, Yabn.ntmps94
  go_wp2
  go_ret
  exact ⟨rfl, Ext.refl w⟩
set_option maxHeartbeats 1000000 in
theorem opText_6 (w : World) : Calls Yabn.prog 94 #[.int .i64 6] w (RetStr (opT 6) w) := by
  go_enter Yabn.func94, Yabn.ntmps94
  go_wp2
  go_ret
  exact ⟨rfl, Ext.refl w⟩
set_option maxHeartbeats 1000000 in
theorem opText_7 (w : World) : Calls Yabn.prog 94 #[.int .i64 7] w (RetStr (opT 7) w) := by
  go_enter Yabn.func94, Yabn.ntmps94
  go_wp2
  go_ret
  exact ⟨rfl, Ext.refl w⟩
set_option maxHeartbeats 1000000 in
theorem opText_8 (w : World) : Calls Yabn.prog 94 #[.int .i64 8] w (RetStr (opT 8) w) := by
  go_enter Yabn.func94, Yabn.ntmps94
  go_wp2
  go_ret
  exact ⟨rfl, Ext.refl w⟩
set_option maxHeartbeats 1000000 in
theorem opText_9 (w : World) : Calls Yabn.prog 94 #[.int .i64 9] w (RetStr (opT 9) w) := by
  go_enter Yabn.func94, Yabn.ntmps94
  go_wp2
  go_ret
  exact ⟨rfl, Ext.refl w⟩
set_option maxHeartbeats 1000000 in
theorem opText_10 (w : World) : Calls Yabn.prog 94 #[.int .i64 10] w (RetStr (opT 10) w) := by
  go_enter Yabn.func94, Yabn.ntmps94
  go_wp2
  go_ret
  exact ⟨rfl, Ext.refl w⟩
set_option maxHeartbeats 1000000 in
theorem opText_11 (w : World) : Calls Yabn.prog 94 #[.int .i64 11] w (RetStr (opT 11) w) := by
  go_enter Yabn.func94, Yabn.ntmps94
  go_wp2
  go_ret
  exact ⟨rfl, Ext.refl w⟩
set_option maxHeartbeats 1000000 in
theorem opText_12 (w : World) : Calls Yabn.prog 94 #[.int .i64 12] w (RetStr (opT 12) w) := by
  go_enter Yabn.func94, Yabn.ntmps94
  go_wp2
  go_ret
  exact ⟨rfl, Ext.refl w⟩
set_option maxHeartbeats 1000000 in
theorem opText_13 (w : World) : Calls Yabn.prog 94 #[.int .i64 13] w (RetStr (opT 13) w) := by
  go_enter Yabn.func94, Yabn.ntmps94
  go_wp2
  go_ret
  exact ⟨rfl, Ext.refl w⟩
set_option maxHeartbeats 1000000 in
theorem opText_14 (w : World) : Calls Yabn.prog 94 #[.int .i64 14] w (RetStr (opT 14) w) := by
  go_enter Yabn.func94, Yabn.ntmps94
  go_wp2
  go_ret
  exact ⟨rfl, Ext.refl w⟩
theorem opText (k : Int) (h1 : 4 ≤ k) (h2 : k ≤ 14) (w : World) : Calls Yabn.prog 94 #[.int .i64 k] w (RetStr (opT k) w) := by
  have hk : k = 4 ∨ k = 5 ∨ k = 6 ∨ k = 7 ∨ k = 8 ∨ k = 9 ∨ k = 10 ∨ k = 11 ∨ k = 12 ∨ k = 13 ∨ k = 14 := by omega
  rcases hk with rfl | rfl | rfl | rfl | rfl | rfl | rfl | rfl | rfl | rfl | rfl
  · exact opText_4 w
  · exact opText_5 w
  · exact opText_6 w
  · exact opText_7 w
  · exact opText_8 w
  · exact opText_9 w
  · exact opText_10 w
  · exact opText_11 w
  · exact opText_12 w
  · exact opText_13 w
  · exact opText_14 w
theorem opT_len (k : Int) (h1 : 4 ≤ k) (h2 : k ≤ 14) : (opT k).length ≤ 3 := by
  have hk : k = 4 ∨ k = 5 ∨ k = 6 ∨ k = 7 ∨ k = 8 ∨ k = 9 ∨ k = 10 ∨ k = 11 ∨ k = 12 ∨ k = 13 ∨ k = 14 := by omega
  rcases hk with rfl | rfl | rfl | rfl | rfl | rfl | rfl | rfl | rfl | rfl | rfl
  all_goals decide

/-- A generator of query texts: its block, its source, the text so far. -/
structure GenAt (w : World) (G S : Nat) (a : Option Addr) (c : Nat) (zs : List Int) (pos : Nat) (v : Value) (l : List UInt8) : Prop where
  g : Blk w G 76 [.pointer (some ⟨S, 0, none⟩), v]
  src : SrcAt w S a c zs pos
  out : OwnB w (G + 1) v l
  sg : S < G
  ap : 0 < zs.length → ∀ p, a = some p → p.block < S
/-- What a call of the generator may change: blocks from its source's on. -/
abbrev FrG (S : Nat) (w w' : World) : Prop := But (fun q => S ≤ q) w w'
theorem FrG.of_S {S : Nat} {w w' : World} (h : But (fun q => q = S) w w') : FrG S w w' := h.mono (fun q hq => by omega)
section
variable {w w' : World} {G S : Nat} {a : Option Addr} {c : Nat} {zs : List Int} {pos pos' : Nat} {v : Value} {l : List UInt8}
theorem GenAt.ext (h : GenAt w G S a c zs pos v l) (he : Ext w w') : GenAt w' G S a c zs pos v l := ⟨h.g.ext he, h.src.ext he, h.out.ext he, h.sg, h.ap⟩
theorem GenAt.next (h : GenAt w G S a c zs pos v l) (hb : But (fun q => q = S) w w') (hs : SrcAt w' S a c zs pos') : GenAt w' G S a c zs pos' v l := by
  have h1 := h.sg
  exact ⟨hb.blk h.g (by omega), hs, h.out.butS hb (fun k hk => by have := h.out.block k hk; omega), h.sg, h.ap⟩
theorem GenAt.c0 (h : GenAt w G S a c zs pos v l) : w.cell? ⟨G, 0, none⟩ = some (.pointer (some ⟨S, 0, none⟩)) := h.g.box 0 _ rfl
theorem GenAt.c1 (h : GenAt w G S a c zs pos v l) : w.cell? ⟨G, 1, none⟩ = some v := h.g.box 1 _ rfl
end
def RetG (G S : Nat) (a : Option Addr) (c : Nat) (zs : List Int) (R : Nat → List UInt8 → Prop) (w : World) : Ending → World → Prop := fun en w' =>
  en = .returned (.tuple #[]) ∧ ∃ pos' v' l', R pos' l' ∧ GenAt w' G S a c zs pos' v' l' ∧ FrG S w w'

set_option maxHeartbeats 2000000 in
theorem gen_str (G S : Nat) (a : Option Addr) (c : Nat) (zs : List Int) (pos : Nat) (v : Value) (l m : List UInt8) (w : World) (h : Hid (GenAt w G S a c zs pos v l)) (hlm : l.length + m.length < 2 ^ 40) :
    Calls Yabn.prog 28 #[.pointer (some ⟨G, 0, none⟩), .string (tx m)] w (RetG G S a c zs (fun p t => p = pos ∧ t = l ++ m) w) := by
  have k1 := h.out.c1
  have hG := h.out.g.lt
  replace hlm := hide hlm
  have hne : Hid (v.ownBlock ≠ some G) := fun hh => by have := h.out.out.block _ hh; omega
  go_enter Yabn.func28, Yabn.ntmps28
  go_wp2_with (at_builtin; refine app_str rfl rfl (G + 1) hG v l m rfl h.out.out rfl hlm.out ?_; intro v2 w2 O2 hgr; obtain ⟨p2, c2, rfl, _⟩ := O2.form; rw [List.length_append] at O2; clear k1; have B2 := hide (h.out.g.grown hgr hne.out); have k1 := B2.out.box 1 _ rfl; have fz := B2.out.frozen 1; replace O2 := hide O2; replace hgr := hide hgr)
  go_end0
  have hsg := h.out.sg
  have hb1 : But (fun q => S ≤ q) w w2 := But.of_grown hgr.out (fun q hq => by have := h.out.out.block q hq; omega)
  have hb2 : But (fun q => q = G) w2 (w2.setCell ⟨G, 1, none⟩ (.slice p2 (l.length + m.length) c2)) := But.of_grown (grown_setCell _ ⟨G, 1, none⟩ _) (fun q hq => by cases hq; rfl)
  have hs2 : SrcAt w2 S a c zs pos := by
    refine h.out.src.but (But.of_grown (S := fun q => v.ownBlock = some q) hgr.out (fun q hq => hq)) (fun hh => ?_) (fun h0 p hp hh => ?_)
    · have := h.out.out.block _ hh; omega
    · have := h.out.out.block _ hh; have := h.out.ap h0 p hp; omega
  refine ⟨rfl, pos, .slice p2 (l.length + m.length) c2, l ++ m, ⟨rfl, rfl⟩, ⟨B2.out.stored 1 (.slice p2 (l.length + m.length) c2), hs2.but hb2 (by omega) (fun h0 p hp => by have := h.out.ap h0 p hp; omega), O2.out.butS hb2 (fun k hk => by have := O2.out.block k hk; omega), hsg, h.out.ap⟩, hb1.trans (hb2.mono (fun q hq => by omega))⟩
end Go.Proofs.YbyabwGreat
