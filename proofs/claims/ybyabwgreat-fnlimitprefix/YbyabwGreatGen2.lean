/- Walks: spec.src.left, next, valueFrom, TokensFrom -/
import Derived.Test.YbyabwGreatLex2a
import Derived.Test.YbyabwGreatGen0
import Derived.Test.YbyabwGreatFrame

import Derived.Laws.BitsLemmas
namespace Go.Proofs.YbyabwGreat
open Go.RowKit
set_option maxRecDepth 100000
set_option linter.unusedVariables false

/-- A source of bytes behind a pointer. -/
structure SrcAt (w : World) (S : Nat) (a : Option Addr) (c : Nat) (zs : List Int) (pos : Nat) : Prop where
  blk : Blk w S 74 [.slice a zs.length c, .int .i64 pos]
  le : pos ≤ zs.length
  len : zs.length ≤ 1048576
  bytes : BytesAt w a zs
  apart : 0 < zs.length → ∀ p, a = some p → p.block ≠ S
theorem SrcAt.ext {w w' : World} {S : Nat} {a : Option Addr} {c : Nat} {zs : List Int} {pos : Nat} (h : SrcAt w S a c zs pos) (he : Ext w w') : SrcAt w' S a c zs pos := ⟨h.blk.ext he, h.le, h.len, h.bytes.ext he, h.apart⟩
theorem SrcAt.but {Q : Nat → Prop} {w w' : World} {S : Nat} {a : Option Addr} {c : Nat} {zs : List Int} {pos : Nat} (h : SrcAt w S a c zs pos) (hb : But Q w w') (hS : ¬ Q S) (ha : 0 < zs.length → ∀ p, a = some p → ¬ Q p.block) : SrcAt w' S a c zs pos :=
  ⟨hb.blk h.blk hS, h.le, h.len, fun i hi => by
    obtain ⟨b, off, e, hc, h1⟩ := h.bytes i hi
    exact ⟨b, off, e, hb.cell hc (by have := ha (by omega) _ e; exact this), h1⟩, h.apart⟩
theorem or_u64 (x y : Int) : 0 ≤ bits .or .u64 x y ∧ bits .or .u64 x y < 18446744073709551616 := by
  unfold bits
  simp only [IntKind.wrap, IntKind.bits, IntKind.signed]
  simp
  omega
theorem and_i64 (x : Int) : 0 ≤ bits .and .i64 x 9223372036854775807 ∧ bits .and .i64 x 9223372036854775807 ≤ 9223372036854775807 := by
  unfold bits
  simp only
  have h : (BitVec.ofInt IntKind.i64.bits x &&& BitVec.ofInt IntKind.i64.bits 9223372036854775807).toNat ≤ 9223372036854775807 := by
    rw [BitVec.toNat_and]
    exact Nat.le_trans Nat.and_le_right (by decide)
  rw [IntKind.wrap_i64]
  omega
theorem or_i64 (x y : Int) (x0 : 0 ≤ x) (x1 : x ≤ 255) (y0 : 0 ≤ y) (y1 : y ≤ 255) : bits .or .i64 (x * 256) y = x * 256 + y :=
  bits_join .i64 63 (by decide) (fun n h0 h1 => by rw [IntKind.wrap_i64]; omega) 8 (x * 256) y (by omega) (by omega) (by omega) y0 (by omega) (by omega)
theorem SrcAt.lt {w : World} {S : Nat} {a : Option Addr} {c : Nat} {zs : List Int} {pos : Nat} (h : SrcAt w S a c zs pos) : S < w.heap.size := h.blk.lt

def RetNext (S : Nat) (a : Option Addr) (c : Nat) (zs : List Int) (pos : Nat) (w : World) : Ending → World → Prop := fun en w' => ∃ (v : Int) (pos' : Nat), en = .returned (.int .i64 v) ∧ 0 ≤ v ∧ v ≤ 255 ∧ SrcAt w' S a c zs pos' ∧ pos ≤ pos' ∧ (pos < zs.length → pos < pos') ∧ But (fun q => q = S) w w'
def RetLeft (S : Nat) (a : Option Addr) (c : Nat) (zs : List Int) (pos : Nat) (w : World) : Ending → World → Prop := fun en w' => ∃ b : Bool, en = .returned (.bool b) ∧ (b = true ↔ pos < zs.length) ∧ Ext w w'

set_option maxHeartbeats 1000000 in
theorem src_left (S : Nat) (a : Option Addr) (c : Nat) (zs : List Int) (pos : Nat) (w : World) (h : Hid (SrcAt w S a c zs pos)) : Calls Yabn.prog 30 #[.pointer (some ⟨S, 0, none⟩)] w (RetLeft S a c zs pos w) := by
  have k0 := h.out.blk.box 0 _ rfl
  have k1 := h.out.blk.box 1 _ rfl
  have hl := h.out.len
  have hp := h.out.le
  go_enter Yabn.func30, Yabn.ntmps30
  go_wp2
  refine Dr.region_text (by kernel_rfl) ?_
  go_wp2
  refine ⟨by rfl, ?_⟩
  go_wp2
  go_ret
  exact ⟨_, rfl, by simp, (Ext.refl w).drew⟩

set_option maxHeartbeats 2000000 in
theorem src_next (S : Nat) (a : Option Addr) (c : Nat) (zs : List Int) (pos : Nat) (w : World) (h : Hid (SrcAt w S a c zs pos)) : Calls Yabn.prog 31 #[.pointer (some ⟨S, 0, none⟩)] w (RetNext S a c zs pos w) := by
  have k0 := h.out.blk.box 0 _ rfl
  have k1 := h.out.blk.box 1 _ rfl
  have hl := h.out.len
  have hp := h.out.le
  by_cases hlt : pos < zs.length
  · have hlt' : (pos : Int) < zs.length := by omega
    have d1 : decide ((zs.length : Int) ≤ pos) = false := by simp; omega
    have d2 : decide (zs.length ≤ pos) = false := by simp; omega
    obtain ⟨b, off, rfl, g1, y0, y1⟩ := h.out.bytes pos hlt
    have fk := h.out.blk.frozen 1
    have hne := h.out.apart (by omega) _ rfl
    generalize hy : zs.getD pos 0 = y at *
    replace hy := hide hy
    simp only at hne
    go_enter Yabn.func31, Yabn.ntmps31
    go_wp2
    refine Dr.region_text (by kernel_rfl) ?_
    go_wp2
    refine ⟨by rfl, ?_⟩
    go_wp2
    refine Dr.region_text (by kernel_rfl) ?_
    go_wp2
    refine ⟨by rfl, ?_⟩
    go_wp2
    go_ret
    have hb : But (fun q => q = S) w (w.drew.drew.setCell ⟨S, 1, none⟩ (.int .i64 ((pos : Int) + 1))) := (But.of_ext ((Ext.refl w).drew).drew).trans (But.of_grown (grown_setCell _ ⟨S, 1, none⟩ _) (fun q hq => by cases hq; rfl))
    refine ⟨y, pos + 1, rfl, y0, by omega, ⟨?_, by omega, hl, fun i hi => ?_, h.out.apart⟩, by omega, fun _ => by omega, hb⟩
    · have := h.out.blk.stored 1 (.int .i64 ((pos : Int) + 1))
      simp only [List.set_cons_succ, List.set_cons_zero] at this
      exact this
    · obtain ⟨b', off', e, hc, h1⟩ := h.out.bytes i hi
      exact ⟨b', off', e, hb.cell hc (by have := h.out.apart (by omega) _ e; exact this), h1⟩
  · obtain rfl : pos = zs.length := by omega
    clear hlt hp
    go_enter Yabn.func31, Yabn.ntmps31
    go_wp2
    refine Dr.region_text (by kernel_rfl) ?_
    go_wp2
    refine ⟨by rfl, ?_⟩
    go_wp2
    go_ret
    exact ⟨0, zs.length, rfl, by omega, by omega, h.out.ext (Ext.refl w).drew, by omega, fun hh => by omega, But.of_ext (Ext.refl w).drew⟩

def RetVal (S : Nat) (a : Option Addr) (c : Nat) (zs : List Int) (pos : Nat) (w : World) : Ending → World → Prop := fun en w' => ∃ (v : Int) (pos' : Nat), en = .returned (.int .i64 v) ∧ -9223372036854775808 ≤ v ∧ v ≤ 9223372036854775807 ∧ SrcAt w' S a c zs pos' ∧ pos ≤ pos' ∧ But (fun q => q = S) w w'

set_option maxHeartbeats 8000000 in
theorem valueFrom (S : Nat) (a : Option Addr) (c : Nat) (zs : List Int) (pos : Nat) (w : World) (h : Hid (SrcAt w S a c zs pos)) : Calls Yabn.prog 97 #[.pointer (some ⟨S, 0, none⟩)] w (RetVal S a c zs pos w) := by
  go_enter Yabn.func97, Yabn.ntmps97
  go_wp2_with fail
  refine (src_next S a c zs pos w h).mono ?_
  rintro e w1 ⟨v, pos1, rfl, v0, v1, h1, p1, _, b1⟩
  replace h1 := hide h1
  replace b1 := hide b1
  obtain ⟨m, hm⟩ : ∃ m, m = v % 8 := ⟨_, rfl⟩
  have hm0 : 0 ≤ m ∧ m < 8 := by omega
  by_cases hm3 : m ≤ 3
  · have hm4 : v % 8 = 0 ∨ v % 8 = 1 ∨ v % 8 = 2 ∨ v % 8 = 3 := by omega
    clear hm hm0 hm3
    rcases hm4 with e | e | e | e
    all_goals
      go_wp2_with fail
      refine (src_next S a c zs pos1 w1 h1).mono ?_
      rintro e w2 ⟨v', pos2, rfl, v0', v1', h2, p2, _, b2⟩
      replace h2 := hide h2
      replace b2 := hide b2
      go_wp2
      go_ret
      exact ⟨_, pos2, rfl, by omega, by omega, h2.out, by omega, b1.out.trans b2.out⟩
  · by_cases hm4 : m = 4
    · have e : v % 8 = 4 := by omega
      clear hm hm0 hm3 hm4
      go_wp2_with fail
      refine (src_next S a c zs pos1 w1 h1).mono ?_
      rintro e w2 ⟨v', pos2, rfl, v0', v1', h2, p2, _, b2⟩
      replace h2 := hide h2
      replace b2 := hide b2
      go_wp2
      go_ret
      exact ⟨_, pos2, rfl, by omega, by omega, h2.out, by omega, b1.out.trans b2.out⟩
    · by_cases hm5 : m = 5
      · have e : v % 8 = 5 := by omega
        clear hm hm0 hm3 hm4 hm5
        go_wp2
        replace e := hide e
        go_loopw [4, 5] (fun u i wr => ∃ (k pos2 : Nat) (x : Int), u = .int .u64 x ∧ i = .int .i64 k ∧ k ≤ 8 ∧ 0 ≤ x ∧ x < 18446744073709551616 ∧ pos ≤ pos2 ∧ Hid (SrcAt wr S a c zs pos2) ∧ Hid (But (fun q => q = S) w wr)) (fun _ i _ => 8 - (intOf i).toNat)
        case atStart => exact ⟨0, pos1, 0, rfl, rfl, by omega, by omega, by omega, p1, h1, b1⟩
        obtain ⟨k, pos2, x, rfl, rfl, hk, x0, x1, p2, h2, b2⟩ := hrel
        by_cases hk8 : k < 8
        · have hk8' : (k : Int) < 8 := by omega
          go_wp2_with fail
          refine (src_next S a c zs pos2 wr h2).mono ?_
          rintro e w3 ⟨v', pos3, rfl, v0', v1', h3, p3, _, b3⟩
          replace h3 := hide h3
          replace b3 := hide b3
          have hor := or_u64 (IntKind.u64.wrap (x * 256)) v'
          go_wp2
          generalize bits .or .u64 (IntKind.u64.wrap (x * 256)) v' = y at *
          go_roundw
          case rel => exact ⟨k + 1, pos3, y, rfl, by go_num, by omega, hor.1, hor.2, by omega, h3.out, b2.out.trans b3.out⟩
          case measure => simp [intOf]; omega
        · obtain rfl : k = 8 := by omega
          clear hk hk8
          go_wp2
          go_ret
          exact ⟨_, pos2, rfl, by simp only [wrap64]; omega, by simp only [wrap64]; omega, h2.out, p2, b2.out⟩
      · by_cases hm6 : m = 6
        · have e : v % 8 = 6 := by omega
          clear hm hm0 hm3 hm4 hm5 hm6
          go_wp2
          go_ret
          exact ⟨_, pos1, rfl, by omega, by omega, h1.out, by omega, b1.out⟩
        · have e : v % 8 = 7 := by omega
          clear hm hm0 hm3 hm4 hm5 hm6
          go_wp2
          go_ret
          exact ⟨_, pos1, rfl, by omega, by omega, h1.out, by omega, b1.out⟩

end Go.Proofs.YbyabwGreat
