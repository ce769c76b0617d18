/- Walk: spec.aggValue -/
import Derived.Test.YbyabwGreatRunP
import Derived.Test.YbyabwGreatRefDecTab
namespace Go.Proofs.YbyabwGreat
open Go.RowKit
set_option maxRecDepth 100000
set_option linter.unusedVariables false
set_option linter.unusedSimpArgs false

theorem accL_take (ag : Int) (xs : List Int) (i : Nat) (h : i < xs.length) : accL ag (xs.take (i + 1)) = (stepV ag (accL ag (xs.take i)) (xs.getD i 0), true) := by rw [← take_succ_getD2 xs i h, accL_snoc]
theorem accL_none (xs : List Int) : ∀ i, 0 < i → i ≤ xs.length → (accL 0 (xs.take i)).1 = xs.getD 0 0 ∧ (accL 0 (xs.take i)).2 = true := by
  intro i
  induction i with
  | zero => intro h; omega
  | succ i ih =>
    intro _ h
    rw [accL_take 0 xs i (by omega)]
    refine ⟨?_, rfl⟩
    rcases Nat.eq_zero_or_pos i with h0 | h0
    · subst h0; simp [stepV, accL]
    · obtain ⟨a, b⟩ := ih h0 (by omega)
      simp only [stepV, b, a, if_true]
theorem accL_star (xs : List Int) : ∀ i, i ≤ xs.length → i < 2 ^ 39 → (accL 5 (xs.take i)).1 = (i : Int) := by
  intro i
  induction i with
  | zero => intro _ _; simp [accL]
  | succ i ih =>
    intro h h2
    rw [accL_take 5 xs i (by omega)]
    simp only [stepV, ih (by omega) (by omega)]
    simp (config := {decide := true}) only [if_false, if_true]
    unfold wrap64
    omega
theorem take_all_I (xs : List Int) : xs.take xs.length = xs := List.take_length
theorem aggL_pos {ag : Int} {xs : List Int} (z : Int) (h : ag ≠ 0) : aggL ag xs z = (accL ag xs).1 := by unfold aggL; rw [if_neg (fun hh => h hh.1)]

set_option maxHeartbeats 8000000 in
theorem aggValue (ag : Int) (h0 : 0 ≤ ag) (h5 : ag ≤ 5) (k : Nat) (mem : List Int) (ma ia : Option Addr) (mc ic m : Nat) (f : Nat → List Int) (cv : Int) (w : World) (hm : Hid (IntsAt w ma mem)) (hiv : Hid (IRows w ia m f)) (hk : Hid (∀ j, j < m → k < (f j).length)) (hgo : Hid (∀ i, i < mem.length → ∃ j : Nat, j < m ∧ mem.getD i 0 = (j : Int))) (hml : mem.length < 2 ^ 39) :
    Calls Yabn.prog 65 #[.int .i64 ag, .int .i64 k, .slice ma mem.length mc, .slice ia m ic, .int .i64 cv] w (RetIx (aggL ag (mem.map (fun i => (f i.toNat).getD k 0)) cv) w) := by
  obtain ⟨xs, hxs⟩ : ∃ xs, Hid (mem.map (fun i => (f i.toNat).getD k 0) = xs) := ⟨_, rfl⟩
  have hxl : Hid (xs.length = mem.length) := by show _ = _; rw [← hxs.out]; simp
  have hxa : Hid (∀ (i j : Nat), mem.getD i 0 = (j : Int) → i < mem.length → (f j).getD k 0 = xs.getD i 0) := fun i j e hi => by
    rw [← hxs.out]
    rw [List.getD_eq_getElem?_getD (l := mem.map _), List.getElem?_map, List.getElem?_eq_getElem hi]
    rw [List.getD_eq_getElem?_getD, List.getElem?_eq_getElem hi] at e
    simp only [Option.getD_some] at e
    simp [e]
  rw [hxs.out]
  clear hxs
  rcases (by omega : ag = 0 ∨ ag = 1 ∨ ag = 2 ∨ ag = 3 ∨ ag = 4 ∨ ag = 5) with rfl | rfl | rfl | rfl | rfl | rfl
  · clear h0 h5
    rcases Nat.eq_zero_or_pos mem.length with h0 | h0
    · have h0b : ¬ (0 : Int) < mem.length := by omega
      have hx0 : Hid (aggL 0 xs cv = cv) := by
        show _ = _
        have : xs = [] := List.eq_nil_of_length_eq_zero (by rw [hxl.out]; exact h0)
        rw [this]; rfl
      rw [hx0.out]
      replace h0 := hide h0
      go_enter Yabn.func65, Yabn.ntmps65
      go_wp2
      go_ret
      exact ⟨rfl, rfl⟩
    · have h0i : (0 : Int) < mem.length := by omega
      go_enter Yabn.func65, Yabn.ntmps65
      have hIi : ((0 : Nat) : Int) < mem.length := by omega
      obtain ⟨b1, o1, e1, c1⟩ := hm.out 0 h0
      obtain ⟨j, hj, ej⟩ := hgo.out 0 h0
      rw [ej] at c1
      have hxv := hxa.out 0 j ej h0
      obtain ⟨b2, o2, a3, cc3, e2, c2, r3⟩ := hiv.out j hj
      obtain ⟨b3, o3, e3, c3⟩ := r3 k (hk.out j hj)
      cases e1; cases e2; cases e3
      have hji : (j : Int) < m := by omega
      have hki : (k : Int) < (f j).length := by have := hk.out j hj; omega
      rw [hxv] at c3
      obtain ⟨L, hL⟩ : ∃ L, (f j).length = L := ⟨_, rfl⟩
      rw [hL] at c2 hki
      obtain ⟨X, hX⟩ : ∃ X, Hid (xs.getD 0 0 = X) := ⟨_, rfl⟩
      rw [hX.out] at c3
      clear hL r3 hxv ej
      simp only [Nat.add_zero] at c1
      simp only [Int.ofNat_zero, Int.natCast_zero] at *
      have hst0 : Hid (aggL 0 xs cv = X) := by
        show _ = _
        unfold aggL
        rw [if_neg (fun hh => by have := hxl.out; rw [hh.2] at this; simp at this; omega)]
        have := (accL_none xs xs.length (by rw [hxl.out]; exact h0) (Nat.le_refl _)).1
        rw [take_all_I] at this
        rw [this]
        exact hX.out
      rw [hst0.out]
      go_wp2
      go_ret
      exact ⟨rfl, rfl⟩
  · rw [aggL_pos cv (by decide)]
    clear h0 h5
    go_enter Yabn.func65, Yabn.ntmps65
    go_wp2_with fail
    go_loopw [11, 12] (fun s i wr => ∃ t : Nat, i = .int .i64 t ∧ t ≤ mem.length ∧ s = .int .i64 (accL 1 (xs.take t)).1 ∧ wr = w) (fun _ i _ => mem.length - (intOf i).toNat)
    case atStart => exact ⟨0, rfl, Nat.zero_le _, rfl, rfl⟩
    obtain ⟨t, rfl, ht, rfl, rfl⟩ := hrel
    by_cases hlt : t < mem.length
    · skip
      have hIi : ((t : Nat) : Int) < mem.length := by omega
      obtain ⟨b1, o1, e1, c1⟩ := hm.out t hlt
      obtain ⟨j, hj, ej⟩ := hgo.out t hlt
      rw [ej] at c1
      have hxv := hxa.out t j ej hlt
      obtain ⟨b2, o2, a3, cc3, e2, c2, r3⟩ := hiv.out j hj
      obtain ⟨b3, o3, e3, c3⟩ := r3 k (hk.out j hj)
      cases e1; cases e2; cases e3
      have hji : (j : Int) < m := by omega
      have hki : (k : Int) < (f j).length := by have := hk.out j hj; omega
      rw [hxv] at c3
      obtain ⟨L, hL⟩ : ∃ L, (f j).length = L := ⟨_, rfl⟩
      rw [hL] at c2 hki
      obtain ⟨X, hX⟩ : ∃ X, Hid (xs.getD t 0 = X) := ⟨_, rfl⟩
      rw [hX.out] at c3
      clear hL r3 hxv ej
      have hstep := hide (accL_take 1 xs t (by rw [hxl.out]; exact hlt))
      rw [hX.out] at hstep
      obtain ⟨A, hA⟩ : ∃ A, Hid ((accL 1 (xs.take t)).1 = A) := ⟨_, rfl⟩
      rw [hA.out]
      have hst3 : Hid ((accL 1 (xs.take (t + 1))).1 = wrap64 (A + X)) := by
        show _ = _
        rw [hstep.out, ← hA.out]
        simp (config := {decide := true}) only [stepV, if_false, if_true]
      go_wp2_with fail
      go_roundw
      case rel => exact ⟨t + 1, by go_num, by omega, by first | (rw [hst3.out]; done) | (rw [hst3.out]; rfl), by first | trivial | rfl⟩
      case measure => simp [intOf]; omega
    · obtain rfl : t = mem.length := by omega
      have hlt' : ¬ (mem.length : Int) < mem.length := by omega
      have hfin : Hid ((accL 1 (xs.take mem.length)).1 = (accL 1 xs).1) := by show _ = _; rw [← hxl.out, take_all_I]
      rw [hfin.out]
      obtain ⟨A, hA⟩ : ∃ A, Hid ((accL 1 xs).1 = A) := ⟨_, rfl⟩
      rw [hA.out]
      clear hlt ht
      go_wp2
      go_ret
      exact ⟨by rw [hA.out]; rfl, rfl⟩
  · rw [aggL_pos cv (by decide)]
    clear h0 h5
    rcases Nat.eq_zero_or_pos mem.length with h0 | h0
    · have h0b : ((mem.length : Int) == 0) = true := by simp [h0]
      have hx0 : Hid (xs = []) := List.eq_nil_of_length_eq_zero (by rw [hxl.out]; exact h0)
      rw [hx0.out]
      replace h0 := hide h0
      go_enter Yabn.func65, Yabn.ntmps65
      go_wp2
      go_ret
      exact ⟨rfl, rfl⟩
    · have h0b : ((mem.length : Int) == 0) = false := beq_eq_false_iff_ne.2 (by omega)
      have h0i : (0 : Int) < mem.length := by omega
      go_enter Yabn.func65, Yabn.ntmps65
      have hIi : ((0 : Nat) : Int) < mem.length := by omega
      obtain ⟨b1, o1, e1, c1⟩ := hm.out 0 h0
      obtain ⟨j, hj, ej⟩ := hgo.out 0 h0
      rw [ej] at c1
      have hxv := hxa.out 0 j ej h0
      obtain ⟨b2, o2, a3, cc3, e2, c2, r3⟩ := hiv.out j hj
      obtain ⟨b3, o3, e3, c3⟩ := r3 k (hk.out j hj)
      cases e1; cases e2; cases e3
      have hji : (j : Int) < m := by omega
      have hki : (k : Int) < (f j).length := by have := hk.out j hj; omega
      rw [hxv] at c3
      obtain ⟨L, hL⟩ : ∃ L, (f j).length = L := ⟨_, rfl⟩
      rw [hL] at c2 hki
      obtain ⟨X, hX⟩ : ∃ X, Hid (xs.getD 0 0 = X) := ⟨_, rfl⟩
      rw [hX.out] at c3
      clear hL r3 hxv ej
      simp only [Nat.add_zero] at c1
      simp only [Int.ofNat_zero, Int.natCast_zero] at *
      go_wp2_with fail
      have hst0 : Hid ((accL 2 (xs.take 1)).1 = X) := by
        show _ = _
        have := accL_take 2 xs 0 (by rw [hxl.out]; exact h0)
        rw [this, ← hX.out]
        simp [stepV, accL]
      clear c1 c2 c3 hki hji hj
      rw [← hst0.out]
      clear hst0 hX
      go_loopw [13, 14] (fun s i wr => ∃ t : Nat, i = .int .i64 t ∧ 1 ≤ t ∧ t ≤ mem.length ∧ s = .int .i64 (accL 2 (xs.take t)).1 ∧ wr = w) (fun _ i _ => mem.length - (intOf i).toNat)
      case atStart => exact ⟨1, rfl, Nat.le_refl _, h0, rfl, rfl⟩
      obtain ⟨t, rfl, ht1, ht, rfl, rfl⟩ := hrel
      by_cases hlt : t < mem.length
      · skip
        have hIi : ((t : Nat) : Int) < mem.length := by omega
        obtain ⟨b1, o1, e1, c1⟩ := hm.out t hlt
        obtain ⟨j, hj, ej⟩ := hgo.out t hlt
        rw [ej] at c1
        have hxv := hxa.out t j ej hlt
        obtain ⟨b2, o2, a3, cc3, e2, c2, r3⟩ := hiv.out j hj
        obtain ⟨b3, o3, e3, c3⟩ := r3 k (hk.out j hj)
        cases e1; cases e2; cases e3
        have hji : (j : Int) < m := by omega
        have hki : (k : Int) < (f j).length := by have := hk.out j hj; omega
        rw [hxv] at c3
        obtain ⟨L, hL⟩ : ∃ L, (f j).length = L := ⟨_, rfl⟩
        rw [hL] at c2 hki
        obtain ⟨X, hX⟩ : ∃ X, Hid (xs.getD t 0 = X) := ⟨_, rfl⟩
        rw [hX.out] at c3
        clear hL r3 hxv ej
        have hstep := hide (accL_take 2 xs t (by rw [hxl.out]; exact hlt))
        have hseen : Hid ((accL 2 (xs.take t)).2 = true) := by
          show _ = _
          rw [accL_seen]
          simp
          have := hxl.out
          constructor
          · omega
          · intro e; rw [e] at this; simp at this; omega
        rw [hX.out] at hstep
        have hst2 : Hid ((accL 2 (xs.take (t + 1))).1 = if ¬ (X < (accL 2 (xs.take t)).1) then (accL 2 (xs.take t)).1 else X) := by
          show _ = _
          rw [hstep.out]
          simp (config := {decide := true}) only [stepV, hseen.out, if_false, if_true, true_and]
        obtain ⟨A, hA⟩ : ∃ A, Hid ((accL 2 (xs.take t)).1 = A) := ⟨_, rfl⟩
        rw [hA.out] at hst2
        rw [hA.out]
        clear hstep hseen
        by_cases hc : (X < (accL 2 (xs.take t)).1)
        · have hst3 : Hid ((accL 2 (xs.take (t + 1))).1 = X) := by show _ = _; rw [hst2.out]; rw [if_neg (by rw [hA.out] at hc; exact fun h => h hc)]
          rw [hA.out] at hc
          clear hst2
          go_wp2_with fail
          go_roundw
          case rel => exact ⟨t + 1, by go_num, by omega, by omega, by rw [hst3.out], by first | trivial | rfl⟩
          case measure => simp [intOf]; omega
        · have hst3 : Hid ((accL 2 (xs.take (t + 1))).1 = A) := by show _ = _; rw [hst2.out]; rw [if_pos (by rw [hA.out] at hc; exact hc)]
          rw [hA.out] at hc
          clear hst2
          go_wp2_with fail
          go_roundw
          case rel => exact ⟨t + 1, by go_num, by omega, by omega, by rw [hst3.out], by first | trivial | rfl⟩
          case measure => simp [intOf]; omega
      · obtain rfl : t = mem.length := by omega
        have hlt' : ¬ (mem.length : Int) < mem.length := by omega
        have hfin : Hid ((accL 2 (xs.take mem.length)).1 = (accL 2 xs).1) := by show _ = _; rw [← hxl.out, take_all_I]
        rw [hfin.out]
        obtain ⟨A, hA⟩ : ∃ A, Hid ((accL 2 xs).1 = A) := ⟨_, rfl⟩
        rw [hA.out]
        clear hlt ht
        go_wp2
        go_ret
        exact ⟨by rw [hA.out]; rfl, rfl⟩
  · rw [aggL_pos cv (by decide)]
    clear h0 h5
    rcases Nat.eq_zero_or_pos mem.length with h0 | h0
    · have h0b : ((mem.length : Int) == 0) = true := by simp [h0]
      have hx0 : Hid (xs = []) := List.eq_nil_of_length_eq_zero (by rw [hxl.out]; exact h0)
      rw [hx0.out]
      replace h0 := hide h0
      go_enter Yabn.func65, Yabn.ntmps65
      go_wp2
      go_ret
      exact ⟨rfl, rfl⟩
    · have h0b : ((mem.length : Int) == 0) = false := beq_eq_false_iff_ne.2 (by omega)
      have h0i : (0 : Int) < mem.length := by omega
      go_enter Yabn.func65, Yabn.ntmps65
      have hIi : ((0 : Nat) : Int) < mem.length := by omega
      obtain ⟨b1, o1, e1, c1⟩ := hm.out 0 h0
      obtain ⟨j, hj, ej⟩ := hgo.out 0 h0
      rw [ej] at c1
      have hxv := hxa.out 0 j ej h0
      obtain ⟨b2, o2, a3, cc3, e2, c2, r3⟩ := hiv.out j hj
      obtain ⟨b3, o3, e3, c3⟩ := r3 k (hk.out j hj)
      cases e1; cases e2; cases e3
      have hji : (j : Int) < m := by omega
      have hki : (k : Int) < (f j).length := by have := hk.out j hj; omega
      rw [hxv] at c3
      obtain ⟨L, hL⟩ : ∃ L, (f j).length = L := ⟨_, rfl⟩
      rw [hL] at c2 hki
      obtain ⟨X, hX⟩ : ∃ X, Hid (xs.getD 0 0 = X) := ⟨_, rfl⟩
      rw [hX.out] at c3
      clear hL r3 hxv ej
      simp only [Nat.add_zero] at c1
      simp only [Int.ofNat_zero, Int.natCast_zero] at *
      go_wp2_with fail
      have hst0 : Hid ((accL 3 (xs.take 1)).1 = X) := by
        show _ = _
        have := accL_take 3 xs 0 (by rw [hxl.out]; exact h0)
        rw [this, ← hX.out]
        simp [stepV, accL]
      clear c1 c2 c3 hki hji hj
      rw [← hst0.out]
      clear hst0 hX
      go_loopw [13, 14] (fun s i wr => ∃ t : Nat, i = .int .i64 t ∧ 1 ≤ t ∧ t ≤ mem.length ∧ s = .int .i64 (accL 3 (xs.take t)).1 ∧ wr = w) (fun _ i _ => mem.length - (intOf i).toNat)
      case atStart => exact ⟨1, rfl, Nat.le_refl _, h0, rfl, rfl⟩
      obtain ⟨t, rfl, ht1, ht, rfl, rfl⟩ := hrel
      by_cases hlt : t < mem.length
      · skip
        have hIi : ((t : Nat) : Int) < mem.length := by omega
        obtain ⟨b1, o1, e1, c1⟩ := hm.out t hlt
        obtain ⟨j, hj, ej⟩ := hgo.out t hlt
        rw [ej] at c1
        have hxv := hxa.out t j ej hlt
        obtain ⟨b2, o2, a3, cc3, e2, c2, r3⟩ := hiv.out j hj
        obtain ⟨b3, o3, e3, c3⟩ := r3 k (hk.out j hj)
        cases e1; cases e2; cases e3
        have hji : (j : Int) < m := by omega
        have hki : (k : Int) < (f j).length := by have := hk.out j hj; omega
        rw [hxv] at c3
        obtain ⟨L, hL⟩ : ∃ L, (f j).length = L := ⟨_, rfl⟩
        rw [hL] at c2 hki
        obtain ⟨X, hX⟩ : ∃ X, Hid (xs.getD t 0 = X) := ⟨_, rfl⟩
        rw [hX.out] at c3
        clear hL r3 hxv ej
        have hstep := hide (accL_take 3 xs t (by rw [hxl.out]; exact hlt))
        have hseen : Hid ((accL 3 (xs.take t)).2 = true) := by
          show _ = _
          rw [accL_seen]
          simp
          have := hxl.out
          constructor
          · omega
          · intro e; rw [e] at this; simp at this; omega
        rw [hX.out] at hstep
        have hst2 : Hid ((accL 3 (xs.take (t + 1))).1 = if ¬ ((accL 3 (xs.take t)).1 < X) then (accL 3 (xs.take t)).1 else X) := by
          show _ = _
          rw [hstep.out]
          simp (config := {decide := true}) only [stepV, hseen.out, if_false, if_true, true_and]
        obtain ⟨A, hA⟩ : ∃ A, Hid ((accL 3 (xs.take t)).1 = A) := ⟨_, rfl⟩
        rw [hA.out] at hst2
        rw [hA.out]
        clear hstep hseen
        by_cases hc : ((accL 3 (xs.take t)).1 < X)
        · have hst3 : Hid ((accL 3 (xs.take (t + 1))).1 = X) := by show _ = _; rw [hst2.out]; rw [if_neg (by rw [hA.out] at hc; exact fun h => h hc)]
          rw [hA.out] at hc
          clear hst2
          go_wp2_with fail
          go_roundw
          case rel => exact ⟨t + 1, by go_num, by omega, by omega, by rw [hst3.out], by first | trivial | rfl⟩
          case measure => simp [intOf]; omega
        · have hst3 : Hid ((accL 3 (xs.take (t + 1))).1 = A) := by show _ = _; rw [hst2.out]; rw [if_pos (by rw [hA.out] at hc; exact hc)]
          rw [hA.out] at hc
          clear hst2
          go_wp2_with fail
          go_roundw
          case rel => exact ⟨t + 1, by go_num, by omega, by omega, by rw [hst3.out], by first | trivial | rfl⟩
          case measure => simp [intOf]; omega
      · obtain rfl : t = mem.length := by omega
        have hlt' : ¬ (mem.length : Int) < mem.length := by omega
        have hfin : Hid ((accL 3 (xs.take mem.length)).1 = (accL 3 xs).1) := by show _ = _; rw [← hxl.out, take_all_I]
        rw [hfin.out]
        obtain ⟨A, hA⟩ : ∃ A, Hid ((accL 3 xs).1 = A) := ⟨_, rfl⟩
        rw [hA.out]
        clear hlt ht
        go_wp2
        go_ret
        exact ⟨by rw [hA.out]; rfl, rfl⟩
  · rw [aggL_pos cv (by decide)]
    clear h0 h5
    go_enter Yabn.func65, Yabn.ntmps65
    go_wp2_with fail
    go_loopw [16, 17] (fun s i wr => ∃ t : Nat, i = .int .i64 t ∧ t ≤ mem.length ∧ s = .int .i64 (accL 4 (xs.take t)).1 ∧ wr = w) (fun _ i _ => mem.length - (intOf i).toNat)
    case atStart => exact ⟨0, rfl, Nat.zero_le _, rfl, rfl⟩
    obtain ⟨t, rfl, ht, rfl, rfl⟩ := hrel
    by_cases hlt : t < mem.length
    · skip
      have hIi : ((t : Nat) : Int) < mem.length := by omega
      obtain ⟨b1, o1, e1, c1⟩ := hm.out t hlt
      obtain ⟨j, hj, ej⟩ := hgo.out t hlt
      rw [ej] at c1
      have hxv := hxa.out t j ej hlt
      obtain ⟨b2, o2, a3, cc3, e2, c2, r3⟩ := hiv.out j hj
      obtain ⟨b3, o3, e3, c3⟩ := r3 k (hk.out j hj)
      cases e1; cases e2; cases e3
      have hji : (j : Int) < m := by omega
      have hki : (k : Int) < (f j).length := by have := hk.out j hj; omega
      rw [hxv] at c3
      obtain ⟨L, hL⟩ : ∃ L, (f j).length = L := ⟨_, rfl⟩
      rw [hL] at c2 hki
      obtain ⟨X, hX⟩ : ∃ X, Hid (xs.getD t 0 = X) := ⟨_, rfl⟩
      rw [hX.out] at c3
      clear hL r3 hxv ej
      have hstep := hide (accL_take 4 xs t (by rw [hxl.out]; exact hlt))
      rw [hX.out] at hstep
      obtain ⟨A, hA⟩ : ∃ A, Hid ((accL 4 (xs.take t)).1 = A) := ⟨_, rfl⟩
      rw [hA.out]
      have hst2 : Hid ((accL 4 (xs.take (t + 1))).1 = if X = 0 then A else wrap64 (A + 1)) := by
        show _ = _
        rw [hstep.out, ← hA.out]
        simp (config := {decide := true}) only [stepV, if_false, if_true]
      by_cases hz : X = 0
      · have hzb : (X != 0) = false := by simp [hz]
        have hst3 : Hid ((accL 4 (xs.take (t + 1))).1 = A) := by show _ = _; rw [hst2.out, if_pos hz]
        replace hz := hide hz
        go_wp2_with fail
        go_roundw
        case rel => exact ⟨t + 1, by go_num, by omega, by rw [hst3.out], by first | trivial | rfl⟩
        case measure => simp [intOf]; omega
      · have hzb : (X != 0) = true := by simp [hz]
        have hst3 : Hid ((accL 4 (xs.take (t + 1))).1 = wrap64 (A + 1)) := by show _ = _; rw [hst2.out, if_neg hz]
        replace hz := hide hz
        go_wp2_with fail
        go_roundw
        case rel => exact ⟨t + 1, by go_num, by omega, by first | (rw [hst3.out]; done) | (rw [hst3.out]; rfl), by first | trivial | rfl⟩
        case measure => simp [intOf]; omega
    · obtain rfl : t = mem.length := by omega
      have hlt' : ¬ (mem.length : Int) < mem.length := by omega
      have hfin : Hid ((accL 4 (xs.take mem.length)).1 = (accL 4 xs).1) := by show _ = _; rw [← hxl.out, take_all_I]
      rw [hfin.out]
      obtain ⟨A, hA⟩ : ∃ A, Hid ((accL 4 xs).1 = A) := ⟨_, rfl⟩
      rw [hA.out]
      clear hlt ht
      go_wp2
      go_ret
      exact ⟨by rw [hA.out]; rfl, rfl⟩
  · rw [aggL_pos cv (by decide)]
    clear h0 h5
    have hfin : Hid ((accL 5 xs).1 = (mem.length : Int)) := by
      show _ = _
      have := accL_star xs xs.length (Nat.le_refl _) (by rw [hxl.out]; exact hml)
      rw [take_all_I] at this
      rw [this, hxl.out]
    rw [hfin.out]
    go_enter Yabn.func65, Yabn.ntmps65
    go_wp2
    go_ret
    exact ⟨rfl, rfl⟩
end Go.Proofs.YbyabwGreat
