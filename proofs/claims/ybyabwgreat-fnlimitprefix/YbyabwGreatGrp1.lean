/- Walks: impl.cmpKey, impl.sortIdx -/
import Derived.Test.YbyabwGreatGrpP
import Derived.Test.YbyabwGreatFrame
import Derived.Test.YbyabwGreatCol2
import Derived.Test.YbyabwGreatDraw
namespace Go.Proofs.YbyabwGreat
open Go.RowKit
set_option maxRecDepth 100000
set_option linter.unusedVariables false
set_option linter.unusedSimpArgs false

/-- The keys of m rows, side by side. -/
structure FlatK (K : Nat → List Int) (wd m : Nat) (rk : List Int) : Prop where
  kl : ∀ j, (K j).length = wd
  len : rk.length = m * wd
  at_ : ∀ j c, j < m → c < wd → rk.getD (j * wd + c) 0 = (K j).getD c 0
def RetCmp (v : Int) (w : World) : Ending → World → Prop := fun en w' => en = .returned (.int .i64 v) ∧ w = w'
theorem drop_cons_I (l : List Int) (c : Nat) (h : c < l.length) : l.drop c = l.getD c 0 :: l.drop (c + 1) := by
  rw [List.drop_eq_getElem_cons h, List.getD_eq_getElem?_getD, List.getElem?_eq_getElem h]; rfl
theorem at_lt {j c wd m : Nat} (hj : j < m) (hc : c < wd) : j * wd + c < m * wd := by
  have : (j + 1) * wd ≤ m * wd := Nat.mul_le_mul_right _ hj
  rw [Nat.add_mul] at this
  omega
set_option maxHeartbeats 4000000 in
theorem cmpKey (K : Nat → List Int) (wd m : Nat) (rk : List Int) (ra : Option Addr) (rc a b : Nat) (ai bi : Int) (hai : ai = (a : Int)) (hbi : bi = (b : Int)) (w : World) (hf : Hid (FlatK K wd m rk)) (hr : Hid (IntsAt w ra rk)) (ha : a < m) (hb : b < m) (hl : rk.length ≤ 16777216) (hwd : wd ≤ 65600) :
    Calls Yabn.prog 81 #[.slice ra rk.length rc, .int .i64 wd, .int .i64 ai, .int .i64 bi] w (RetCmp (cmpL (K a) (K b)) w) := by
  subst hai
  subst hbi
  have hka := hf.out.kl a
  have hkb := hf.out.kl b
  have hlen := hf.out.len
  obtain ⟨A, hA⟩ : ∃ A : Nat, A = a * wd := ⟨_, rfl⟩
  obtain ⟨B, hB⟩ : ∃ B : Nat, B = b * wd := ⟨_, rfl⟩
  have hAI : (a : Int) * (wd : Int) = (A : Int) := by rw [hA]; simp
  have hBI : (b : Int) * (wd : Int) = (B : Int) := by rw [hB]; simp
  have hAl : Hid (∀ c, c < wd → A + c < rk.length) := fun c hc => by rw [hA, hlen]; exact at_lt ha hc
  have hBl : Hid (∀ c, c < wd → B + c < rk.length) := fun c hc => by rw [hB, hlen]; exact at_lt hb hc
  have hAv : Hid (∀ c, c < wd → rk.getD (A + c) 0 = (K a).getD c 0) := fun c hc => by rw [hA]; exact hf.out.at_ a c ha hc
  have hBv : Hid (∀ c, c < wd → rk.getD (B + c) 0 = (K b).getD c 0) := fun c hc => by rw [hB]; exact hf.out.at_ b c hb hc
  obtain ⟨V, hV⟩ : ∃ V, Hid (cmpL (K a) (K b) = V) := ⟨_, rfl⟩
  rw [hV.out]
  obtain ⟨x, hx⟩ : ∃ x, Hid (K a = x) := ⟨_, rfl⟩
  obtain ⟨y, hy⟩ : ∃ y, Hid (K b = y) := ⟨_, rfl⟩
  rw [hx.out] at hka hAv hV
  rw [hy.out] at hkb hBv hV
  replace hlen := hide hlen
  replace hka := hide hka
  replace hkb := hide hkb
  clear hA hB
  go_enter Yabn.func81, Yabn.ntmps81
  go_wp2_with fail
  go_loopw [9] (fun i wr => ∃ c : Nat, i = .int .i64 c ∧ c ≤ wd ∧ Hid (cmpL (x.drop c) (y.drop c) = V) ∧ w = wr) (fun i _ => wd - (intOf i).toNat)
  case atStart => exact ⟨0, rfl, Nat.zero_le _, hV, rfl⟩
  obtain ⟨c, rfl, hc, hinv, rfl⟩ := hrel
  by_cases hlt : c < wd
  · have hlt' : (c : Int) < wd := by omega
    have e := hinv.out
    rw [drop_cons_I x c (by rw [hka.out]; exact hlt), drop_cons_I y c (by rw [hkb.out]; exact hlt), cmpL_cons] at e
    have hA1 := hAl.out c hlt
    have hB1 := hBl.out c hlt
    have hA1' : (A : Int) + c < rk.length := by omega
    have hB1' : (B : Int) + c < rk.length := by omega
    obtain ⟨b1, off1, rfl, c1⟩ := hr.out (A + c) hA1
    obtain ⟨b2, off2, e2, c2⟩ := hr.out (B + c) hB1
    cases e2
    rw [hAv.out c hlt] at c1
    rw [hBv.out c hlt] at c2
    generalize x.getD c 0 = u at *
    generalize y.getD c 0 = v at *
    by_cases h1 : u < v
    · rw [if_pos h1] at e
      replace e := hide e
      go_wp2
      go_ret
      exact ⟨by rw [← e.out]; rfl, rfl⟩
    · rw [if_neg h1] at e
      by_cases h2 : v < u
      · rw [if_pos h2] at e
        replace e := hide e
        go_wp2
        go_ret
        exact ⟨by rw [← e.out]; rfl, rfl⟩
      · rw [if_neg h2] at e
        replace e := hide e
        go_wp2
        go_roundw
        case rel => exact ⟨c + 1, by go_num, by omega, e.out, by trivial⟩
        case measure => simp [intOf]; omega
  · have hlt' : ¬ (c : Int) < wd := by omega
    have e := hinv.out
    rw [List.drop_of_length_le (by rw [hka.out]; omega)] at e
    have e0 : Hid (V = 0) := by show _ = _; rw [← e]; simp [cmpL]
    clear e
    go_wp2
    go_ret
    exact ⟨by rw [e0.out]; rfl, rfl⟩
end Go.Proofs.YbyabwGreat
