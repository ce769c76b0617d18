/- Walks: the two selOK, impl.Project, spec.RefProject -/
import Derived.Test.YbyaawEx7
namespace Go.Proofs.Ybyaaw
open Go.RowKit
set_option maxRecDepth 100000
set_option linter.unusedVariables false
set_option linter.unusedSimpArgs false

/-- A selection in order. -/
def ItS (sel : List Int) (n : Int) (j : Nat) : Prop := 0 ≤ sel.getD j 0 ∧ sel.getD j 0 < n ∧ (0 < j → sel.getD (j - 1) 0 < sel.getD j 0)
def SelOK (sel : List Int) (n : Int) : Prop := ∀ j, j < sel.length → ItS sel n j
set_option maxHeartbeats 4000000 in
theorem selOK_impl (sel : List Int) (a : Option Addr) (c : Nat) (n : Int) (w : World) (h : Hid (IntsAt w a sel)) (hl : sel.length ≤ 131072) :
    Calls Yaan.prog 130 #[.slice a sel.length c, .int .i64 n] w (RetBool (SelOK sel n) w) := by
  go_enter Yaan.func130, Yaan.ntmps130
  go_wp2_with fail
  go_loopw [9] (fun i wr => ∃ k : Nat, i = .int .i64 k ∧ k ≤ sel.length ∧ Hid (∀ j, j < k → ItS sel n j) ∧ Hid (Ext w wr)) (fun i _ => sel.length - (intOf i).toNat)
  case atStart => exact ⟨0, rfl, Nat.zero_le _, fun j hj => by omega, Ext.refl w⟩
  obtain ⟨k, rfl, hk, hpre, hX⟩ := hrel
  by_cases hlt : k < sel.length
  · have hlt' : (k : Int) < sel.length := by omega
    have hno : Hid (¬ ItS sel n k → ¬ SelOK sel n) := fun h1 h2 => h1 (h2 k hlt)
    have hnx : Hid (ItS sel n k → ∀ j, j < k + 1 → ItS sel n j) := fun h1 j hj => by
      by_cases hjk : j < k
      · exact hpre.out j hjk
      · obtain rfl : j = k := by omega
        exact h1
    obtain ⟨b, off, rfl, c1⟩ := (h.out.ext hX.out) k hlt
    have hit : Hid (ItS sel n k ↔ 0 ≤ sel.getD k 0 ∧ sel.getD k 0 < n ∧ (0 < k → sel.getD (k - 1) 0 < sel.getD k 0)) := Iff.rfl
    have hcb := cell_lt c1
    simp only at hcb
    obtain ⟨s, hs⟩ : ∃ s, Hid (sel.getD k 0 = s) := ⟨_, rfl⟩
    rw [hs.out] at c1 hit
    by_cases h0 : s < 0
    · have h0b : decide (s < 0) = true := by simp [h0]
      have hz := hide (hno.out (fun hh => by have := hit.out.1 hh; omega))
      go_wp2_with fail
      go_ret
      exact RetBool.no hz.out hX.out
    have h0b : decide (s < 0) = false := by simp; omega
    by_cases h1 : n ≤ s
    · have h1b : decide (n ≤ s) = true := by simp [h1]
      have hz := hide (hno.out (fun hh => by have := hit.out.1 hh; omega))
      go_wp2_with fail
      go_ret
      exact RetBool.no hz.out hX.out
    have h1b : decide (n ≤ s) = false := by simp; omega
    cases k with
    | zero =>
      have hnext := hide (hnx.out (hit.out.2 ⟨by omega, by omega, fun hh => by omega⟩))
      have hkb : decide ((0 : Int) < ((0 : Nat) : Int)) = false := by simp
      simp only [Nat.add_zero] at c1
      go_wp2_with fail
      skip
      go_roundw
      case rel => exact ⟨1, by go_num, by omega, hnext.out, hX.out⟩
      case measure => simp [intOf]; omega
    | succ m =>
      obtain ⟨b2, off2, e2, c2⟩ := (h.out.ext hX.out) m (by omega)
      cases e2
      obtain ⟨t, ht⟩ : ∃ t, Hid (sel.getD m 0 = t) := ⟨_, rfl⟩
      rw [ht.out] at c2
      rw [Nat.add_sub_cancel, ht.out] at hit
      have hkb : decide ((0 : Int) < ((m + 1 : Nat) : Int)) = true := decide_eq_true (by omega)
      have hm1 : ((m + 1 : Nat) : Int) - 1 = (m : Int) := by omega
      by_cases h2 : s ≤ t
      · have h2b : decide (s ≤ t) = true := by simp [h2]
        have hz := hide (hno.out (fun hh => by have := (hit.out.1 hh).2.2 (by omega); omega))
        go_wp2_with fail
        skip
        go_ret
        exact RetBool.no hz.out hX.out
      have h2b : decide (s ≤ t) = false := by simp; omega
      have hnext := hide (hnx.out (hit.out.2 ⟨by omega, by omega, fun _ => by omega⟩))
      go_wp2_with fail
      skip
      go_roundw
      case rel => exact ⟨m + 1 + 1, by go_num, by omega, hnext.out, hX.out⟩
      case measure => simp [intOf]; omega
  · have hlt' : ¬ (k : Int) < sel.length := by omega
    have hall : Hid (SelOK sel n) := fun j hj => hpre.out j (by omega)
    go_wp2
    go_ret
    exact RetBool.yes hall.out hX.out
set_option maxHeartbeats 4000000 in
theorem selOK_spec (sel : List Int) (a : Option Addr) (c : Nat) (n : Int) (w : World) (h : Hid (IntsAt w a sel)) (hl : sel.length ≤ 131072) :
    Calls Yaan.prog 132 #[.slice a sel.length c, .int .i64 n] w (RetBool (SelOK sel n) w) := by
  go_enter Yaan.func132, Yaan.ntmps132
  go_wp2_with fail
  go_loopw [5] (fun i wr => ∃ k : Nat, i = .int .i64 k ∧ k ≤ sel.length ∧ Hid (∀ j, j < k → ItS sel n j) ∧ Hid (Ext w wr)) (fun i _ => sel.length - (intOf i).toNat)
  case atStart => exact ⟨0, rfl, Nat.zero_le _, fun j hj => by omega, Ext.refl w⟩
  obtain ⟨k, rfl, hk, hpre, hX⟩ := hrel
  by_cases hlt : k < sel.length
  · have hlt' : (k : Int) < sel.length := by omega
    have hno : Hid (¬ ItS sel n k → ¬ SelOK sel n) := fun h1 h2 => h1 (h2 k hlt)
    have hnx : Hid (ItS sel n k → ∀ j, j < k + 1 → ItS sel n j) := fun h1 j hj => by
      by_cases hjk : j < k
      · exact hpre.out j hjk
      · obtain rfl : j = k := by omega
        exact h1
    obtain ⟨b, off, rfl, c1⟩ := (h.out.ext hX.out) k hlt
    have hit : Hid (ItS sel n k ↔ 0 ≤ sel.getD k 0 ∧ sel.getD k 0 < n ∧ (0 < k → sel.getD (k - 1) 0 < sel.getD k 0)) := Iff.rfl
    obtain ⟨s, hs⟩ : ∃ s, Hid (sel.getD k 0 = s) := ⟨_, rfl⟩
    rw [hs.out] at c1 hit
    by_cases h0 : s < 0
    · have h0b : decide (s < 0) = true := by simp [h0]
      have hz := hide (hno.out (fun hh => by have := hit.out.1 hh; omega))
      go_wp2_with fail
      go_ret
      exact RetBool.no hz.out hX.out
    have h0b : decide (s < 0) = false := by simp; omega
    by_cases h1 : n ≤ s
    · have h1b : decide (n ≤ s) = true := by simp [h1]
      have hz := hide (hno.out (fun hh => by have := hit.out.1 hh; omega))
      go_wp2_with fail
      go_ret
      exact RetBool.no hz.out hX.out
    have h1b : decide (n ≤ s) = false := by simp; omega
    cases k with
    | zero =>
      have hnext := hide (hnx.out (hit.out.2 ⟨by omega, by omega, fun hh => by omega⟩))
      simp only [Nat.add_zero] at c1
      go_wp2_with fail
      refine Dr.region_text (by kernel_rfl) ?_
      go_wp2_with fail
      refine ⟨by rfl, ?_⟩
      go_wp2_with fail
      go_roundw
      case rel => exact ⟨1, by go_num, by omega, hnext.out, hX.out.drew⟩
      case measure => simp [intOf]; omega
    | succ m =>
      obtain ⟨b2, off2, e2, c2⟩ := (h.out.ext hX.out) m (by omega)
      cases e2
      obtain ⟨t, ht⟩ : ∃ t, Hid (sel.getD m 0 = t) := ⟨_, rfl⟩
      rw [ht.out] at c2
      rw [Nat.add_sub_cancel, ht.out] at hit
      have hkb : decide ((0 : Int) < ((m + 1 : Nat) : Int)) = true := decide_eq_true (by omega)
      have hkb2 : decide ((0 : Int) < (m : Int) + 1) = true := decide_eq_true (by omega)
      have hm1 : ((m + 1 : Nat) : Int) - 1 = (m : Int) := by omega
      by_cases h2 : s ≤ t
      · have h2b : decide (s ≤ t) = true := by simp [h2]
        have hz := hide (hno.out (fun hh => by have := (hit.out.1 hh).2.2 (by omega); omega))
        go_wp2_with fail
        refine Dr.region_text (by kernel_rfl) ?_
        go_wp2_with fail
        refine ⟨by rfl, ?_⟩
        go_wp2_with fail
        go_ret
        exact RetBool.no hz.out hX.out.drew
      have h2b : decide (s ≤ t) = false := by simp; omega
      have hnext := hide (hnx.out (hit.out.2 ⟨by omega, by omega, fun _ => by omega⟩))
      go_wp2_with fail
      refine Dr.region_text (by kernel_rfl) ?_
      go_wp2_with fail
      refine ⟨by rfl, ?_⟩
      go_wp2_with fail
      go_roundw
      case rel => exact ⟨m + 1 + 1, by go_num, by omega, hnext.out, hX.out.drew⟩
      case measure => simp [intOf]; omega
  · have hlt' : ¬ (k : Int) < sel.length := by omega
    have hall : Hid (SelOK sel n) := fun j hj => hpre.out j (by omega)
    go_wp2
    go_ret
    exact RetBool.yes hall.out hX.out
end Go.Proofs.Ybyaaw
