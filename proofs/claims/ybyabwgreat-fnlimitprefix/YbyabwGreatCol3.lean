/- Walks: impl.DecodeColumn, spec.RefDecodeColumn, spec.Int64sEqual -/
import Derived.Test.YbyabwGreatCol2
namespace Go.Proofs.YbyabwGreat
open Go.RowKit
set_option maxRecDepth 100000
set_option linter.unusedVariables false


/-- (slice, true) with the slice new; or (nil, false). -/
def RetYes (e : TypeId) (xs : List Int) (w : World) : Ending → World → Prop := fun en w' => ∃ a cap, en = .returned (.tuple #[.slice a xs.length cap, .bool true]) ∧ OwnI w' w.heap.size e (.slice a xs.length cap) xs ∧ Ext w w'
def RetNo (w : World) : Ending → World → Prop := fun en w' => en = .returned (.tuple #[.slice none 0 0, .bool false]) ∧ Ext w w'

theorem ColAt.ext {w w' : World} {c : Col} {a1 a2 a3 a4 : Option Addr} (h : ColAt w c a1 a2 a3 a4) (he : Ext w w') : ColAt w' c a1 a2 a3 a4 :=
  ⟨h.plain.ext he, h.dict.ext he, h.codes.ext he, h.runs.ext he⟩

def Agree (x1 x2 : List Int) (k : Nat) : Prop := ∀ j, j < k → x1.getD j 0 = x2.getD j 0
theorem Agree.all {x1 x2 : List Int} (h : Agree x1 x2 x1.length) (hl : x1.length = x2.length) : x1 = x2 := by
  apply List.ext_getElem hl
  intro i h1 h2
  have := h i h1
  simpa [List.getElem?_eq_getElem h1, List.getElem?_eq_getElem h2] using this
theorem Agree.succ {x1 x2 : List Int} {k : Nat} (h : Agree x1 x2 k) (he : x1.getD k 0 = x2.getD k 0) : Agree x1 x2 (k + 1) := by
  intro j hj
  by_cases hjk : j < k
  · exact h j hjk
  · have : j = k := by omega
    subst this
    exact he

set_option maxHeartbeats 1000000 in
theorem Int64sEqual (x1 x2 : List Int) (a1 a2 : Option Addr) (c1 c2 : Nat) (w : World) (h1 : IntsAt w a1 x1) (h2 : IntsAt w a2 x2) (l1 : x1.length < 2 ^ 40) (l2 : x2.length < 2 ^ 40) :
    Calls Yabn.prog 11 #[.slice a1 x1.length c1, .slice a2 x2.length c2] w (RetBool (x1 = x2) w) := by
  generalize HV : (x1 = x2) = V
  replace HV : (V ↔ x1 = x2) := by rw [HV]
  replace HV := hide HV
  replace h1 := hide h1
  replace h2 := hide h2
  by_cases hl : x1.length = x2.length
  case neg =>
    have hb : ((x1.length : Int) != x2.length) = true := by simp; omega
    go_enter Yabn.func11, Yabn.ntmps11
    go_wp2
    go_ret
    exact RetBool.no (by rw [HV.out]; intro e; exact hl (by rw [e])) (Ext.refl w)
  have hb : ((x1.length : Int) != x2.length) = false := by simp [hl]
  replace hl := hide hl
  go_enter Yabn.func11, Yabn.ntmps11
  go_wp2
  go_loopw [5] (fun i wr => ∃ k : Nat, i = .int .i64 k ∧ k ≤ x1.length ∧ Hid (Agree x1 x2 k) ∧ Hid (Ext w wr)) (fun i _ => x1.length - (intOf i).toNat)
  case atStart => exact ⟨0, rfl, by omega, fun j hj => by omega, Ext.refl w⟩
  obtain ⟨k, rfl, hk, hinv, hext⟩ := hrel
  by_cases hlt : k < x1.length
  · have hlt' : (k : Int) < x1.length := by omega
    have hlt2 : (k : Int) < x2.length := by have := hl.out; omega
    obtain ⟨b1, o1, rfl, g1⟩ := (h1.out.ext hext.out) k hlt
    obtain ⟨b2, o2, rfl, g2⟩ := (h2.out.ext hext.out) k (by omega)
    have hs := @Agree.succ _ _ _ hinv.out
    have hn : ¬ x1.getD k 0 = x2.getD k 0 → ¬ x1 = x2 := by intro hne e; rw [e] at hne; exact hne rfl
    generalize x1.getD k 0 = y1 at *
    generalize x2.getD k 0 = y2 at *
    replace hs := hide hs
    replace hn := hide hn
    by_cases he : y1 = y2
    · have hbe : (y1 != y2) = false := by simp [he]
      replace he := hide he
      go_wp2
      refine Dr.region_text (by kernel_rfl) ?_
      go_wp2
      refine ⟨by rfl, ?_⟩
      go_wp2
      go_roundw
      case rel => exact ⟨k + 1, by go_num, by omega, hs.out he.out, hext.out.drew⟩
      case measure => simp [intOf]; omega
    · have hbe : (y1 != y2) = true := by simp [he]
      replace he := hide he
      go_wp2
      refine Dr.region_text (by kernel_rfl) ?_
      go_wp2
      refine ⟨by rfl, ?_⟩
      go_wp2
      go_ret
      exact RetBool.no (by rw [HV.out]; exact hn.out he.out) hext.out.drew
  · have : k = x1.length := by omega
    subst this
    go_wp2
    go_ret
    exact RetBool.yes (by rw [HV.out]; exact hinv.out.all hl.out) hext

end Go.Proofs.YbyabwGreat
