/- Walks: expr, and, mul, add of spec's parser -/
import Derived.Test.YbyabwGreatPrsR
namespace Go.Proofs.YbyabwGreat
open Go.RowKit
set_option maxRecDepth 100000
set_option linter.unusedVariables false
def fnR : Nat → Nat
  | 0 => 108
  | 1 => 106
  | 2 => 104
  | 3 => 102
  | 4 => 100
  | 5 => 96
  | 6 => 86
  | _ => 57
def RetR (ts : List (Int × Int)) (lv : Nat) (s : PS) (S : Nat) (ta : Option Addr) (tc : Nat) (v : Value) (w : World) : Ending → World → Prop := fun en w' =>
  (Pr ts lv 0 s none ∧ (∃ y, en = .returned (.int .i64 y)) ∧ BadAt w' S ∧ Fr S v (.slice none 0 0) w w') ∨
  (∃ x s' v', Pr ts lv 0 s (some (x, s')) ∧ en = .returned (.int .i64 x) ∧ PrsR w' S ta tc ts s' v' ∧ Fr S v v' w w')
def OkR (ts : List (Int × Int)) (n : Nat) : Prop := ∀ lv, lv < 8 → ∀ (S : Nat) (ta : Option Addr) (tc : Nat) (s : PS) (v : Value) (w : World), mu ts lv s < n → PrsR w S ta tc ts s v →
  Calls Yabn.prog (fnR lv) #[.pointer (some ⟨S, 0, none⟩)] w (RetR ts lv s S ta tc v w)
set_option maxHeartbeats 4000000 in
theorem R.and (ts : List (Int × Int)) (n : Nat) (ih : Hid (OkR ts n)) (S : Nat) (ta : Option Addr) (tc : Nat) (s : PS) (v : Value) (w : World) (h : Hid (PrsR w S ta tc ts s v)) (hm : mu ts 6 s ≤ n) :
    Calls Yabn.prog 86 #[.pointer (some ⟨S, 0, none⟩)] w (RetR ts 6 s S ta tc v w) := by
  have hc : Hid (isCh 6) := by unfold isCh; show _ ∨ _; omega
  go_enter Yabn.func86, Yabn.ntmps86
  go_wp2_with fail
  refine (ih.out (6 - 1) (by omega) S ta tc s v w (by unfold mu at *; omega) h).mono ?_
  rintro e w1 (⟨hp, ⟨y, rfl⟩, hb, hf⟩ | ⟨x, s1, v1, hp, rfl, h1, hf⟩)
  · replace hp := hide (Pr.chN hc.out hp)
    replace hf := hide hf
    replace hb := hide hb
    go_wp2
    go_loopw [3] (fun l wr => ∃ y : Int, l = .int .i64 y ∧ Hid (BadAt wr S) ∧ Hid (Fr S v (.slice none 0 0) w wr)) (fun _ _ => 0)
    case atStart => exact ⟨_, rfl, hb, hf⟩
    obtain ⟨y, rfl, hb, hf⟩ := hrel
    have k4 := hb.out.c4
    go_wp2
    go_ret
    exact .inl ⟨hp.out, ⟨_, rfl⟩, hb.out, hf.out⟩
  · have gp : s.pos < s1.pos := hp.grow.2.1 (by omega)
    have hgo : Hid (∀ r, Pr ts (6 + 10) x s1 r → Pr ts 6 0 s r) := fun r hr => .chS hc.out hp hr
    replace h1 := hide h1
    replace hf := hide hf
    clear hp
    go_wp2
    go_loopw [3] (fun l wr => ∃ (x : Int) (s2 : PS) (v2 : Value), l = .int .i64 x ∧ s.pos < s2.pos ∧ Hid (∀ r, Pr ts (6 + 10) x s2 r → Pr ts 6 0 s r) ∧ Hid (PrsR wr S ta tc ts s2 v2) ∧ Hid (Fr S v v2 w wr)) (fun _ wr => ts.length - posAt wr S)
    case atStart => exact ⟨x, s1, v1, rfl, gp, hgo, h1, hf⟩
    clear hgo h1 hf gp
    obtain ⟨x, s2, v2, rfl, gp, hgo, h3, f3⟩ := hrel
    have hpW := hide h3.out.posAt
    have k4 := h3.out.c4
    obtain ⟨k, hk⟩ : ∃ k, Hid (pk ts s2.pos = k) := ⟨_, rfl⟩
    go_wp2_with fail
    clear k4
    refine (R.peek S ta tc ts s2 v2 _ hk wr h3).mono ?_
    rintro e w3 ⟨rfl, x3⟩
    replace h3 := hide (h3.out.ext x3)
    replace f3 : Hid (Fr S v v2 w w3) := f3.out.trans (Fr.of_ext x3)
    clear x3
    by_cases hk7 : k = 6
    · subst hk7
      have hlt := pk_lt hk.out (by decide)
      have hop : Hid (opOf 6 (pk ts s2.pos) = some 13) := by rw [hk.out]; rfl
      have k1 := h3.out.c1
      have fz := h3.out.fz 1
      have hl := h3.out.len
      have gn := h3.out.ndl
      go_wp2_with fail
      have h4 := hide (h3.out.adv hlt)
      have f4 : Hid (Fr S v v2 w (w3.setCell ⟨S, 1, none⟩ (.int .i64 ((s2.pos : Int) + 1)))) := f3.out.trans (Fr.set _ _ _)
      generalize (w3.setCell ⟨S, 1, none⟩ (.int .i64 ((s2.pos : Int) + 1))) = w4 at *
      clear k1 fz h3 f3
      refine (ih.out (6 - 1) (by omega) S ta tc s2.adv v2 w4 (by unfold mu at *; simp only [PS.adv]; omega) h4).mono ?_
      rintro e w5 (⟨hp, ⟨y, rfl⟩, hb, hf⟩ | ⟨y, s5, v5, hp, rfl, h5, hf⟩)
      · have hz := hide (hgo.out _ (.lpN hc.out hop.out hp))
        have f5 := hide (f4.out.trans hf)
        have k4 := hb.c4
        replace hb := hide hb
        clear hp hf hgo hop
        go_wp2
        go_ret
        exact .inl ⟨hz.out, ⟨_, rfl⟩, hb.out, f5.out⟩
      · have g5 := hp.grow
        simp only [PS.adv] at g5
        have hps : s5.nd.length < s5.pos := by omega
        have hgo5 : Hid (∀ r, Pr ts (6 + 10) (s5.nd.length : Int) (s5.push ⟨13, 0, x, y⟩) r → Pr ts 6 0 s r) := fun r hr => hgo.out r (.lpS hc.out hop.out hp hr)
        have k4 := h5.c4
        replace h5 := hide h5
        have f5 := hide (f4.out.trans hf)
        have gp5 : s2.pos < s5.pos := by omega
        clear hp hf hgo hop h4 f4 g5
        go_wp2_with fail
        refine (R.push S ta tc ts s5 v5 13 0 x y w5 h5 hps).mono ?_
        rintro e w6 ⟨v6, rfl, h6, f6⟩
        have F6 := hide (f5.out.trans f6)
        have hp6 := hide h6.posAt
        have hle6 := hide h6.le
        replace h6 := hide h6
        clear f6 f5 h5 k4
        go_wp2
        go_roundw
        case rel => exact ⟨_, s5.push ⟨13, 0, x, y⟩, v6, rfl, by simp only [PS.push]; omega, hgo5.out, h6.out, F6.out⟩
        case measure =>
          have := hle6.out
          rw [hp6.out, hpW.out]
          simp only [PS.push] at *
          omega
    · have hk7' : (k == 6) = false := by simpa using hk7
      have hop : opOf 6 (pk ts s2.pos) = none := by rw [hk.out]; simp [opOf, hk7]
      have hz := hide (hgo.out _ (.lpE hc.out hop))
      clear hop hgo
      go_wp2
      go_ret
      exact .inr ⟨x, s2, v2, hz.out, rfl, h3.out, f3.out⟩
set_option maxHeartbeats 4000000 in
theorem R.expr (ts : List (Int × Int)) (n : Nat) (ih : Hid (OkR ts n)) (S : Nat) (ta : Option Addr) (tc : Nat) (s : PS) (v : Value) (w : World) (h : Hid (PrsR w S ta tc ts s v)) (hm : mu ts 7 s ≤ n) :
    Calls Yabn.prog 57 #[.pointer (some ⟨S, 0, none⟩)] w (RetR ts 7 s S ta tc v w) := by
  have hc : Hid (isCh 7) := by unfold isCh; show _ ∨ _; omega
  go_enter Yabn.func57, Yabn.ntmps57
  go_wp2_with fail
  refine (ih.out (7 - 1) (by omega) S ta tc s v w (by unfold mu at *; omega) h).mono ?_
  rintro e w1 (⟨hp, ⟨y, rfl⟩, hb, hf⟩ | ⟨x, s1, v1, hp, rfl, h1, hf⟩)
  · replace hp := hide (Pr.chN hc.out hp)
    replace hf := hide hf
    replace hb := hide hb
    go_wp2
    go_loopw [3] (fun l wr => ∃ y : Int, l = .int .i64 y ∧ Hid (BadAt wr S) ∧ Hid (Fr S v (.slice none 0 0) w wr)) (fun _ _ => 0)
    case atStart => exact ⟨_, rfl, hb, hf⟩
    obtain ⟨y, rfl, hb, hf⟩ := hrel
    have k4 := hb.out.c4
    go_wp2
    go_ret
    exact .inl ⟨hp.out, ⟨_, rfl⟩, hb.out, hf.out⟩
  · have gp : s.pos < s1.pos := hp.grow.2.1 (by omega)
    have hgo : Hid (∀ r, Pr ts (7 + 10) x s1 r → Pr ts 7 0 s r) := fun r hr => .chS hc.out hp hr
    replace h1 := hide h1
    replace hf := hide hf
    clear hp
    go_wp2
    go_loopw [3] (fun l wr => ∃ (x : Int) (s2 : PS) (v2 : Value), l = .int .i64 x ∧ s.pos < s2.pos ∧ Hid (∀ r, Pr ts (7 + 10) x s2 r → Pr ts 7 0 s r) ∧ Hid (PrsR wr S ta tc ts s2 v2) ∧ Hid (Fr S v v2 w wr)) (fun _ wr => ts.length - posAt wr S)
    case atStart => exact ⟨x, s1, v1, rfl, gp, hgo, h1, hf⟩
    clear hgo h1 hf gp
    obtain ⟨x, s2, v2, rfl, gp, hgo, h3, f3⟩ := hrel
    have hpW := hide h3.out.posAt
    have k4 := h3.out.c4
    obtain ⟨k, hk⟩ : ∃ k, Hid (pk ts s2.pos = k) := ⟨_, rfl⟩
    go_wp2_with fail
    clear k4
    refine (R.peek S ta tc ts s2 v2 _ hk wr h3).mono ?_
    rintro e w3 ⟨rfl, x3⟩
    replace h3 := hide (h3.out.ext x3)
    replace f3 : Hid (Fr S v v2 w w3) := f3.out.trans (Fr.of_ext x3)
    clear x3
    by_cases hk7 : k = 7
    · subst hk7
      have hlt := pk_lt hk.out (by decide)
      have hop : Hid (opOf 7 (pk ts s2.pos) = some 14) := by rw [hk.out]; rfl
      have k1 := h3.out.c1
      have fz := h3.out.fz 1
      have hl := h3.out.len
      have gn := h3.out.ndl
      go_wp2_with fail
      have h4 := hide (h3.out.adv hlt)
      have f4 : Hid (Fr S v v2 w (w3.setCell ⟨S, 1, none⟩ (.int .i64 ((s2.pos : Int) + 1)))) := f3.out.trans (Fr.set _ _ _)
      generalize (w3.setCell ⟨S, 1, none⟩ (.int .i64 ((s2.pos : Int) + 1))) = w4 at *
      clear k1 fz h3 f3
      refine (ih.out (7 - 1) (by omega) S ta tc s2.adv v2 w4 (by unfold mu at *; simp only [PS.adv]; omega) h4).mono ?_
      rintro e w5 (⟨hp, ⟨y, rfl⟩, hb, hf⟩ | ⟨y, s5, v5, hp, rfl, h5, hf⟩)
      · have hz := hide (hgo.out _ (.lpN hc.out hop.out hp))
        have f5 := hide (f4.out.trans hf)
        have k4 := hb.c4
        replace hb := hide hb
        clear hp hf hgo hop
        go_wp2
        go_ret
        exact .inl ⟨hz.out, ⟨_, rfl⟩, hb.out, f5.out⟩
      · have g5 := hp.grow
        simp only [PS.adv] at g5
        have hps : s5.nd.length < s5.pos := by omega
        have hgo5 : Hid (∀ r, Pr ts (7 + 10) (s5.nd.length : Int) (s5.push ⟨14, 0, x, y⟩) r → Pr ts 7 0 s r) := fun r hr => hgo.out r (.lpS hc.out hop.out hp hr)
        have k4 := h5.c4
        replace h5 := hide h5
        have f5 := hide (f4.out.trans hf)
        have gp5 : s2.pos < s5.pos := by omega
        clear hp hf hgo hop h4 f4 g5
        go_wp2_with fail
        refine (R.push S ta tc ts s5 v5 14 0 x y w5 h5 hps).mono ?_
        rintro e w6 ⟨v6, rfl, h6, f6⟩
        have F6 := hide (f5.out.trans f6)
        have hp6 := hide h6.posAt
        have hle6 := hide h6.le
        replace h6 := hide h6
        clear f6 f5 h5 k4
        go_wp2
        go_roundw
        case rel => exact ⟨_, s5.push ⟨14, 0, x, y⟩, v6, rfl, by simp only [PS.push]; omega, hgo5.out, h6.out, F6.out⟩
        case measure =>
          have := hle6.out
          rw [hp6.out, hpW.out]
          simp only [PS.push] at *
          omega
    · have hk7' : (k == 7) = false := by simpa using hk7
      have hop : opOf 7 (pk ts s2.pos) = none := by rw [hk.out]; simp [opOf, hk7]
      have hz := hide (hgo.out _ (.lpE hc.out hop))
      clear hop hgo
      go_wp2
      go_ret
      exact .inr ⟨x, s2, v2, hz.out, rfl, h3.out, f3.out⟩
set_option maxHeartbeats 4000000 in
theorem R.mul (ts : List (Int × Int)) (n : Nat) (ih : Hid (OkR ts n)) (S : Nat) (ta : Option Addr) (tc : Nat) (s : PS) (v : Value) (w : World) (h : Hid (PrsR w S ta tc ts s v)) (hm : mu ts 2 s ≤ n) :
    Calls Yabn.prog 104 #[.pointer (some ⟨S, 0, none⟩)] w (RetR ts 2 s S ta tc v w) := by
  have hc : Hid (isCh 2) := by unfold isCh; show _ ∨ _; omega
  go_enter Yabn.func104, Yabn.ntmps104
  go_wp2_with fail
  refine (ih.out (2 - 1) (by omega) S ta tc s v w (by unfold mu at *; omega) h).mono ?_
  rintro e w1 (⟨hp, ⟨y, rfl⟩, hb, hf⟩ | ⟨x, s1, v1, hp, rfl, h1, hf⟩)
  · replace hp := hide (Pr.chN hc.out hp)
    replace hf := hide hf
    replace hb := hide hb
    go_wp2
    go_loopw [3] (fun l wr => ∃ y : Int, l = .int .i64 y ∧ Hid (BadAt wr S) ∧ Hid (Fr S v (.slice none 0 0) w wr)) (fun _ _ => 0)
    case atStart => exact ⟨_, rfl, hb, hf⟩
    obtain ⟨y, rfl, hb, hf⟩ := hrel
    have k4 := hb.out.c4
    go_wp2
    go_ret
    exact .inl ⟨hp.out, ⟨_, rfl⟩, hb.out, hf.out⟩
  · have gp : s.pos < s1.pos := hp.grow.2.1 (by omega)
    have hgo : Hid (∀ r, Pr ts (2 + 10) x s1 r → Pr ts 2 0 s r) := fun r hr => .chS hc.out hp hr
    replace h1 := hide h1
    replace hf := hide hf
    clear hp
    go_wp2
    go_loopw [3] (fun l wr => ∃ (x : Int) (s2 : PS) (v2 : Value), l = .int .i64 x ∧ s.pos < s2.pos ∧ Hid (∀ r, Pr ts (2 + 10) x s2 r → Pr ts 2 0 s r) ∧ Hid (PrsR wr S ta tc ts s2 v2) ∧ Hid (Fr S v v2 w wr)) (fun _ wr => ts.length - posAt wr S)
    case atStart => exact ⟨x, s1, v1, rfl, gp, hgo, h1, hf⟩
    clear hgo h1 hf gp
    obtain ⟨x, s2, v2, rfl, gp, hgo, h3, f3⟩ := hrel
    have hpW := hide h3.out.posAt
    have k4 := h3.out.c4
    obtain ⟨k, hk⟩ : ∃ k, Hid (pk ts s2.pos = k) := ⟨_, rfl⟩
    go_wp2_with fail
    clear k4
    refine (R.peek S ta tc ts s2 v2 _ hk wr h3).mono ?_
    rintro e w3 ⟨rfl, x3⟩
    replace h3 := hide (h3.out.ext x3)
    replace f3 : Hid (Fr S v v2 w w3) := f3.out.trans (Fr.of_ext x3)
    clear x3
    by_cases hk7 : k = 18
    · subst hk7
      have hlt := pk_lt hk.out (by decide)
      have hop : Hid (opOf 2 (pk ts s2.pos) = some 6) := by rw [hk.out]; rfl
      have k1 := h3.out.c1
      have fz := h3.out.fz 1
      have hl := h3.out.len
      have gn := h3.out.ndl
      go_wp2_with fail
      have h4 := hide (h3.out.adv hlt)
      have f4 : Hid (Fr S v v2 w (w3.setCell ⟨S, 1, none⟩ (.int .i64 ((s2.pos : Int) + 1)))) := f3.out.trans (Fr.set _ _ _)
      generalize (w3.setCell ⟨S, 1, none⟩ (.int .i64 ((s2.pos : Int) + 1))) = w4 at *
      clear k1 fz h3 f3
      refine (ih.out (2 - 1) (by omega) S ta tc s2.adv v2 w4 (by unfold mu at *; simp only [PS.adv]; omega) h4).mono ?_
      rintro e w5 (⟨hp, ⟨y, rfl⟩, hb, hf⟩ | ⟨y, s5, v5, hp, rfl, h5, hf⟩)
      · have hz := hide (hgo.out _ (.lpN hc.out hop.out hp))
        have f5 := hide (f4.out.trans hf)
        have k4 := hb.c4
        replace hb := hide hb
        clear hp hf hgo hop
        go_wp2
        go_ret
        exact .inl ⟨hz.out, ⟨_, rfl⟩, hb.out, f5.out⟩
      · have g5 := hp.grow
        simp only [PS.adv] at g5
        have hps : s5.nd.length < s5.pos := by omega
        have hgo5 : Hid (∀ r, Pr ts (2 + 10) (s5.nd.length : Int) (s5.push ⟨6, 0, x, y⟩) r → Pr ts 2 0 s r) := fun r hr => hgo.out r (.lpS hc.out hop.out hp hr)
        have k4 := h5.c4
        replace h5 := hide h5
        have f5 := hide (f4.out.trans hf)
        have gp5 : s2.pos < s5.pos := by omega
        clear hp hf hgo hop h4 f4 g5
        go_wp2_with fail
        refine (R.push S ta tc ts s5 v5 6 0 x y w5 h5 hps).mono ?_
        rintro e w6 ⟨v6, rfl, h6, f6⟩
        have F6 := hide (f5.out.trans f6)
        have hp6 := hide h6.posAt
        have hle6 := hide h6.le
        replace h6 := hide h6
        clear f6 f5 h5 k4
        go_wp2
        go_roundw
        case rel => exact ⟨_, s5.push ⟨6, 0, x, y⟩, v6, rfl, by simp only [PS.push]; omega, hgo5.out, h6.out, F6.out⟩
        case measure =>
          have := hle6.out
          rw [hp6.out, hpW.out]
          simp only [PS.push] at *
          omega
    · have hk7' : (k == 18) = false := by simpa using hk7
      have hop : opOf 2 (pk ts s2.pos) = none := by rw [hk.out]; simp [opOf, hk7]
      have hz := hide (hgo.out _ (.lpE hc.out hop))
      clear hop hgo
      go_wp2
      go_ret
      exact .inr ⟨x, s2, v2, hz.out, rfl, h3.out, f3.out⟩

set_option maxHeartbeats 8000000 in
theorem R.add (ts : List (Int × Int)) (n : Nat) (ih : Hid (OkR ts n)) (S : Nat) (ta : Option Addr) (tc : Nat) (s : PS) (v : Value) (w : World) (h : Hid (PrsR w S ta tc ts s v)) (hm : mu ts 3 s ≤ n) :
    Calls Yabn.prog 102 #[.pointer (some ⟨S, 0, none⟩)] w (RetR ts 3 s S ta tc v w) := by
  have hc : Hid (isCh 3) := by unfold isCh; show _ ∨ _; omega
  go_enter Yabn.func102, Yabn.ntmps102
  go_wp2_with fail
  refine (ih.out (3 - 1) (by omega) S ta tc s v w (by unfold mu at *; omega) h).mono ?_
  rintro e w1 (⟨hp, ⟨y, rfl⟩, hb, hf⟩ | ⟨x, s1, v1, hp, rfl, h1, hf⟩)
  · replace hp := hide (Pr.chN hc.out hp)
    replace hf := hide hf
    replace hb := hide hb
    go_wp2
    go_loopw [3] (fun l wr => ∃ y : Int, l = .int .i64 y ∧ Hid (BadAt wr S) ∧ Hid (Fr S v (.slice none 0 0) w wr)) (fun _ _ => 0)
    case atStart => exact ⟨_, rfl, hb, hf⟩
    obtain ⟨y, rfl, hb, hf⟩ := hrel
    have k4 := hb.out.c4
    go_wp2
    go_ret
    exact .inl ⟨hp.out, ⟨_, rfl⟩, hb.out, hf.out⟩
  · have gp : s.pos < s1.pos := hp.grow.2.1 (by omega)
    have hgo : Hid (∀ r, Pr ts (3 + 10) x s1 r → Pr ts 3 0 s r) := fun r hr => .chS hc.out hp hr
    replace h1 := hide h1
    replace hf := hide hf
    clear hp
    go_wp2
    go_loopw [3] (fun l wr => ∃ (x : Int) (s2 : PS) (v2 : Value), l = .int .i64 x ∧ s.pos < s2.pos ∧ Hid (∀ r, Pr ts (3 + 10) x s2 r → Pr ts 3 0 s r) ∧ Hid (PrsR wr S ta tc ts s2 v2) ∧ Hid (Fr S v v2 w wr)) (fun _ wr => ts.length - posAt wr S)
    case atStart => exact ⟨x, s1, v1, rfl, gp, hgo, h1, hf⟩
    clear hgo h1 hf gp
    obtain ⟨x, s2, v2, rfl, gp, hgo, h3, f3⟩ := hrel
    have hpW := hide h3.out.posAt
    have k4 := h3.out.c4
    obtain ⟨k, hk⟩ : ∃ k, Hid (pk ts s2.pos = k) := ⟨_, rfl⟩
    go_wp2_with fail
    clear k4
    refine (R.peek S ta tc ts s2 v2 _ hk wr h3).mono ?_
    rintro e w7 ⟨rfl, x3⟩
    replace h3 := hide (h3.out.ext x3)
    replace f3 : Hid (Fr S v v2 w w7) := f3.out.trans (Fr.of_ext x3)
    clear x3
    by_cases hk19 : k = 19
    · subst hk19
      go_wp2_with fail
      refine (R.peek S ta tc ts s2 v2 _ hk w7 h3).mono ?_
      rintro e w3 ⟨rfl, x3⟩
      replace h3 := hide (h3.out.ext x3)
      replace f3 : Hid (Fr S v v2 w w3) := f3.out.trans (Fr.of_ext x3)
      clear x3
      have hlt := pk_lt hk.out (by decide)
      have hop : Hid (opOf 3 (pk ts s2.pos) = some 4) := by rw [hk.out]; rfl
      have k1 := h3.out.c1
      have fz := h3.out.fz 1
      have hl := h3.out.len
      have gn := h3.out.ndl
      go_wp2_with fail
      have h4 := hide (h3.out.adv hlt)
      have f4 : Hid (Fr S v v2 w (w3.setCell ⟨S, 1, none⟩ (.int .i64 ((s2.pos : Int) + 1)))) := f3.out.trans (Fr.set _ _ _)
      generalize (w3.setCell ⟨S, 1, none⟩ (.int .i64 ((s2.pos : Int) + 1))) = w4 at *
      clear k1 fz h3 f3
      refine (ih.out (3 - 1) (by omega) S ta tc s2.adv v2 w4 (by unfold mu at *; simp only [PS.adv]; omega) h4).mono ?_
      rintro e w5 (⟨hp, ⟨y, rfl⟩, hb, hf⟩ | ⟨y, s5, v5, hp, rfl, h5, hf⟩)
      · have hz := hide (hgo.out _ (.lpN hc.out hop.out hp))
        have f5 := hide (f4.out.trans hf)
        have k4 := hb.c4
        replace hb := hide hb
        clear hp hf hgo hop
        go_wp2
        go_ret
        exact .inl ⟨hz.out, ⟨_, rfl⟩, hb.out, f5.out⟩
      · have g5 := hp.grow
        simp only [PS.adv] at g5
        have hps : s5.nd.length < s5.pos := by omega
        have hgo5 : Hid (∀ r, Pr ts (3 + 10) (s5.nd.length : Int) (s5.push ⟨4, 0, x, y⟩) r → Pr ts 3 0 s r) := fun r hr => hgo.out r (.lpS hc.out hop.out hp hr)
        have k4 := h5.c4
        replace h5 := hide h5
        have f5 := hide (f4.out.trans hf)
        have gp5 : s2.pos < s5.pos := by omega
        clear hp hf hgo hop h4 f4 g5
        go_wp2_with fail
        refine (R.push S ta tc ts s5 v5 4 0 x y w5 h5 hps).mono ?_
        rintro e w6 ⟨v6, rfl, h6, f6⟩
        have F6 := hide (f5.out.trans f6)
        have hp6 := hide h6.posAt
        have hle6 := hide h6.le
        replace h6 := hide h6
        clear f6 f5 h5 k4
        go_wp2
        go_roundw
        case rel => exact ⟨_, s5.push ⟨4, 0, x, y⟩, v6, rfl, by simp only [PS.push]; omega, hgo5.out, h6.out, F6.out⟩
        case measure =>
          have := hle6.out
          rw [hp6.out, hpW.out]
          simp only [PS.push] at *
          omega
    · have hk19' : (k == 19) = false := by simpa using hk19
      by_cases hk20 : k = 20
      · subst hk20
        go_wp2_with fail
        refine (R.peek S ta tc ts s2 v2 _ hk w7 h3).mono ?_
        rintro e w8 ⟨rfl, x3⟩
        replace h3 := hide (h3.out.ext x3)
        replace f3 : Hid (Fr S v v2 w w8) := f3.out.trans (Fr.of_ext x3)
        clear x3
        go_wp2_with fail
        refine (R.peek S ta tc ts s2 v2 _ hk w8 h3).mono ?_
        rintro e w3 ⟨rfl, x3⟩
        replace h3 := hide (h3.out.ext x3)
        replace f3 : Hid (Fr S v v2 w w3) := f3.out.trans (Fr.of_ext x3)
        clear x3
        have hlt := pk_lt hk.out (by decide)
        have hop : Hid (opOf 3 (pk ts s2.pos) = some 5) := by rw [hk.out]; rfl
        have k1 := h3.out.c1
        have fz := h3.out.fz 1
        have hl := h3.out.len
        have gn := h3.out.ndl
        go_wp2_with fail
        have h4 := hide (h3.out.adv hlt)
        have f4 : Hid (Fr S v v2 w (w3.setCell ⟨S, 1, none⟩ (.int .i64 ((s2.pos : Int) + 1)))) := f3.out.trans (Fr.set _ _ _)
        generalize (w3.setCell ⟨S, 1, none⟩ (.int .i64 ((s2.pos : Int) + 1))) = w4 at *
        clear k1 fz h3 f3
        refine (ih.out (3 - 1) (by omega) S ta tc s2.adv v2 w4 (by unfold mu at *; simp only [PS.adv]; omega) h4).mono ?_
        rintro e w5 (⟨hp, ⟨y, rfl⟩, hb, hf⟩ | ⟨y, s5, v5, hp, rfl, h5, hf⟩)
        · have hz := hide (hgo.out _ (.lpN hc.out hop.out hp))
          have f5 := hide (f4.out.trans hf)
          have k4 := hb.c4
          replace hb := hide hb
          clear hp hf hgo hop
          go_wp2
          go_ret
          exact .inl ⟨hz.out, ⟨_, rfl⟩, hb.out, f5.out⟩
        · have g5 := hp.grow
          simp only [PS.adv] at g5
          have hps : s5.nd.length < s5.pos := by omega
          have hgo5 : Hid (∀ r, Pr ts (3 + 10) (s5.nd.length : Int) (s5.push ⟨5, 0, x, y⟩) r → Pr ts 3 0 s r) := fun r hr => hgo.out r (.lpS hc.out hop.out hp hr)
          have k4 := h5.c4
          replace h5 := hide h5
          have f5 := hide (f4.out.trans hf)
          have gp5 : s2.pos < s5.pos := by omega
          clear hp hf hgo hop h4 f4 g5
          go_wp2_with fail
          refine (R.push S ta tc ts s5 v5 5 0 x y w5 h5 hps).mono ?_
          rintro e w6 ⟨v6, rfl, h6, f6⟩
          have F6 := hide (f5.out.trans f6)
          have hp6 := hide h6.posAt
          have hle6 := hide h6.le
          replace h6 := hide h6
          clear f6 f5 h5 k4
          go_wp2
          go_roundw
          case rel => exact ⟨_, s5.push ⟨5, 0, x, y⟩, v6, rfl, by simp only [PS.push]; omega, hgo5.out, h6.out, F6.out⟩
          case measure =>
            have := hle6.out
            rw [hp6.out, hpW.out]
            simp only [PS.push] at *
            omega
      · have hk20' : (k == 20) = false := by simpa using hk20
        go_wp2_with fail
        refine (R.peek S ta tc ts s2 v2 _ hk w7 h3).mono ?_
        rintro e w3 ⟨rfl, x3⟩
        replace h3 := hide (h3.out.ext x3)
        replace f3 : Hid (Fr S v v2 w w3) := f3.out.trans (Fr.of_ext x3)
        clear x3
        have hop : opOf 3 (pk ts s2.pos) = none := by rw [hk.out]; simp [opOf, hk19, hk20]
        have hz := hide (hgo.out _ (.lpE hc.out hop))
        clear hop hgo
        go_wp2
        go_ret
        exact .inr ⟨x, s2, v2, hz.out, rfl, h3.out, f3.out⟩
end Go.Proofs.YbyabwGreat
