/- Walks: cmp, not, unary, primary of spec's parser; all levels together -/
import Derived.Test.YbyabwGreatPrsR1
namespace Go.Proofs.YbyabwGreat
open Go.RowKit
set_option maxRecDepth 100000
set_option linter.unusedVariables false

set_option maxHeartbeats 4000000 in
theorem R.cmp (ts : List (Int × Int)) (n : Nat) (ih : Hid (OkR ts n)) (S : Nat) (ta : Option Addr) (tc : Nat) (s : PS) (v : Value) (w : World) (h : Hid (PrsR w S ta tc ts s v)) (hm : mu ts 4 s ≤ n) :
    Calls Yabn.prog 100 #[.pointer (some ⟨S, 0, none⟩)] w (RetR ts 4 s S ta tc v w) := by
  go_enter Yabn.func100, Yabn.ntmps100
  go_wp2_with fail
  refine (ih.out 3 (by omega) S ta tc s v w (by unfold mu at *; omega) h).mono ?_
  rintro e w1 (⟨hp, ⟨y, rfl⟩, hb, hf⟩ | ⟨x, s2, v2, hp1, rfl, h2, hf⟩)
  · replace hp := hide hp
    replace hf := hide hf
    have k4 := hb.c4
    replace hb := hide hb
    go_wp2
    go_ret
    exact .inl ⟨.cmN hp.out, ⟨_, rfl⟩, hb.out, hf.out⟩
  · have k4 := h2.c4
    replace h2 := hide h2
    replace hf := hide hf
    have gp : s.pos < s2.pos := hp1.grow.2.1 (by omega)
    replace hp1 := hide hp1
    obtain ⟨k, hk⟩ : ∃ k, Hid (pk ts s2.pos = k) := ⟨_, rfl⟩
    go_wp2_with fail
    refine (R.peek S ta tc ts s2 v2 k hk w1 h2).mono ?_
    rintro e w3 ⟨rfl, x3⟩
    have h3 := hide (h2.out.ext x3)
    have f3 : Hid (Fr S v v2 w w3) := hf.out.trans (Fr.of_ext x3)
    clear x3 hf h2 k4
    by_cases hka : 21 ≤ k
    · by_cases hkb : k ≤ 26
      · have hkk : Hid (21 ≤ pk ts s2.pos ∧ pk ts s2.pos ≤ 26) := by rw [hk.out]; exact ⟨hka, hkb⟩
        have hlt := pk_lt hk.out (by omega)
        have k1 := h3.out.c1
        have fz := h3.out.fz 1
        have hl := h3.out.len
        have gn := h3.out.ndl
        go_wp2_with fail
        have h4 := hide (h3.out.adv hlt)
        have f4 : Hid (Fr S v v2 w (w3.setCell ⟨S, 1, none⟩ (.int .i64 ((s2.pos : Int) + 1)))) := f3.out.trans (Fr.set _ _ _)
        generalize (w3.setCell ⟨S, 1, none⟩ (.int .i64 ((s2.pos : Int) + 1))) = w4 at *
        clear k1 fz h3 f3
        refine (ih.out 3 (by omega) S ta tc s2.adv v2 w4 (by unfold mu at *; simp only [PS.adv]; omega) h4).mono ?_
        rintro e w5 (⟨hp, ⟨y, rfl⟩, hb, hf⟩ | ⟨y, s5, v5, hp, rfl, h5, hf⟩)
        · have hz := hide (Pr.cmR hp1.out hkk.out hp)
          have f5 := hide (f4.out.trans hf)
          have k4 := hb.c4
          replace hb := hide hb
          clear hp hf hp1
          go_wp2
          go_ret
          exact .inl ⟨hz.out, ⟨_, rfl⟩, hb.out, f5.out⟩
        · have g5 := hp.grow
          simp only [PS.adv] at g5
          have hps : s5.nd.length < s5.pos := by omega
          have hz0 := Pr.cmS hp1.out hkk.out hp
          rw [hk.out] at hz0
          have hz := hide hz0
          have k4 := h5.c4
          replace h5 := hide h5
          have f5 := hide (f4.out.trans hf)
          have he : k - 21 + 7 = k - 14 := by omega
          clear hp hf h4 f4 g5 hz0 hp1
          go_wp2_with fail
          refine (R.push S ta tc ts s5 v5 (k - 14) 0 x y w5 h5 hps).mono ?_
          rintro e w6 ⟨v6, rfl, h6, f6⟩
          have F6 := hide (f5.out.trans f6)
          replace h6 := hide h6
          clear f6 f5 h5 k4
          go_wp2
          go_ret
          exact .inr ⟨_, _, v6, hz.out, rfl, h6.out, F6.out⟩
      · have hkk : Hid (¬ (21 ≤ pk ts s2.pos ∧ pk ts s2.pos ≤ 26)) := by rw [hk.out]; intro hh; exact hkb hh.2
        have hz := hide (Pr.cmE hp1.out hkk.out)
        clear hp1
        go_wp2
        go_ret
        exact .inr ⟨x, s2, v2, hz.out, rfl, h3.out, f3.out⟩
    · have hkk : Hid (¬ (21 ≤ pk ts s2.pos ∧ pk ts s2.pos ≤ 26)) := by rw [hk.out]; intro hh; exact hka hh.1
      have hz := hide (Pr.cmE hp1.out hkk.out)
      clear hp1
      go_wp2
      go_ret
      exact .inr ⟨x, s2, v2, hz.out, rfl, h3.out, f3.out⟩

set_option maxHeartbeats 4000000 in
theorem R.not (ts : List (Int × Int)) (n : Nat) (ih : Hid (OkR ts n)) (S : Nat) (ta : Option Addr) (tc : Nat) (s : PS) (v : Value) (w : World) (h : Hid (PrsR w S ta tc ts s v)) (hm : mu ts 5 s ≤ n) :
    Calls Yabn.prog 96 #[.pointer (some ⟨S, 0, none⟩)] w (RetR ts 5 s S ta tc v w) := by
  obtain ⟨k, hk⟩ : ∃ k, Hid (pk ts s.pos = k) := ⟨_, rfl⟩
  have k4 := h.out.c4
  go_enter Yabn.func96, Yabn.ntmps96
  go_wp2_with fail
  refine (R.peek S ta tc ts s v k hk w h).mono ?_
  rintro e w3 ⟨rfl, x3⟩
  have h3 := hide (h.out.ext x3)
  have f3 : Hid (Fr S v v w w3) := Fr.of_ext x3
  clear x3 h k4
  by_cases hkk : k = 8
  · subst hkk
    have hlt := pk_lt hk.out (by decide)
    have hk0 : Hid (pk ts s.pos = unKind 5) := hk
    have k1 := h3.out.c1
    have fz := h3.out.fz 1
    have hl := h3.out.len
    have gn := h3.out.ndl
    have h4 := hide (h3.out.adv hlt)
    have f4 : Hid (Fr S v v w (w3.setCell ⟨S, 1, none⟩ (.int .i64 ((s.pos : Int) + 1)))) := f3.out.trans (Fr.set _ _ _)
    go_wp2_with fail
    generalize (w3.setCell ⟨S, 1, none⟩ (.int .i64 ((s.pos : Int) + 1))) = w4 at *
    clear k1 fz h3 f3
    by_cases hd : s.dep < 4096
    · refine (R.enter_ok S ta tc ts s.adv v w4 h4 hd).mono ?_
      rintro e w6 ⟨rfl, h6, f6⟩
      replace h6 := hide h6
      replace f6 := hide (f4.out.trans f6)
      clear h4 f4
      go_wp2_with fail
      refine (ih.out 5 (by omega) S ta tc s.adv.deep v w6 (by unfold mu at *; simp only [PS.adv, PS.deep]; omega) h6).mono ?_
      rintro e w5 (⟨hp, ⟨y, rfl⟩, hb, hf⟩ | ⟨y, s5, v5, hp, rfl, h5, hf⟩)
      · have hz := hide (Pr.prN (u := 5) (by omega) hk0.out hd hp)
        have f5 := hide (f6.out.trans hf)
        obtain ⟨d, k3, hb3⟩ := hb.c3
        have fz3 := hb.fz 3
        have k4 := hb.c4
        have hb9 := hide (hb3 (wrap64 (d - 1)))
        have f9 : Hid (Fr S v (.slice none 0 0) w (w5.setCell ⟨S, 3, none⟩ (.int .i64 (wrap64 (d - 1))))) := f5.out.trans (Fr.set _ _ _)
        clear hp hf hb3 hb
        go_wp2
        go_ret
        exact .inl ⟨hz.out, ⟨_, rfl⟩, hb9.out, f9.out⟩
      · have g5 := hp.grow
        simp only [PS.adv, PS.deep] at g5
        have hps : s5.nd.length < s5.pos := by omega
        have hz := hide (Pr.prS (u := 5) (by omega) hk0.out hd hp)
        have hd5 : 0 < s5.dep := by omega
        have k3 := h5.c3
        have k4 := h5.c4
        have fz3 := h5.fz 3
        have hdl := h5.dep
        replace h5 := hide h5
        have f5 := hide (f6.out.trans hf)
        clear hp hf h6 f6 g5
        go_wp2_with fail
        have h6 := hide (h5.out.up hd5)
        have f6 : Hid (Fr S v v5 w (w5.setCell ⟨S, 3, none⟩ (.int .i64 ((s5.dep : Int) - 1)))) := f5.out.trans (Fr.set _ _ _)
        generalize (w5.setCell ⟨S, 3, none⟩ (.int .i64 ((s5.dep : Int) - 1))) = w6 at *
        clear h5 f5 k3 fz3 k4
        refine (R.push S ta tc ts s5.up v5 15 0 y (-1) w6 h6 hps).mono ?_
        rintro e w7 ⟨v7, rfl, h7, f7⟩
        have F7 := hide (f6.out.trans f7)
        replace h7 := hide h7
        clear f7 f6 h6
        go_wp2
        go_ret
        exact .inr ⟨_, _, v7, hz.out, rfl, h7.out, F7.out⟩
    · have hz := hide (Pr.prD (ts := ts) (u := 5) (by omega) hk0.out (by omega))
      refine (R.enter_no S ta tc ts s.adv v w4 h4 hd).mono ?_
      rintro e w6 ⟨rfl, h6, f6⟩
      replace h6 := hide h6
      replace f6 := hide (f4.out.trans f6)
      go_wp2
      go_ret
      exact .inl ⟨hz.out, ⟨_, rfl⟩, h6.out, f6.out⟩
  · have hkk' : (k == 8) = false := by simpa using hkk
    have hk0 : Hid (pk ts s.pos ≠ unKind 5) := by rw [hk.out]; exact hkk
    go_wp2_with fail
    refine (ih.out (5 - 1) (by omega) S ta tc s v w3 (by unfold mu at *; omega) h3).mono ?_
    rintro e w5 (⟨hp, ⟨y, rfl⟩, hb, hf⟩ | ⟨y, s5, v5, hp, rfl, h5, hf⟩)
    · have hz := hide (Pr.prE (u := 5) (by omega) hk0.out hp)
      have f5 := hide (f3.out.trans hf)
      replace hb := hide hb
      clear hp hf
      go_wp2
      go_ret
      exact .inl ⟨hz.out, ⟨_, rfl⟩, hb.out, f5.out⟩
    · have hz := hide (Pr.prE (u := 5) (by omega) hk0.out hp)
      have f5 := hide (f3.out.trans hf)
      replace h5 := hide h5
      clear hp hf
      go_wp2
      go_ret
      exact .inr ⟨_, _, v5, hz.out, rfl, h5.out, f5.out⟩
set_option maxHeartbeats 4000000 in
theorem R.unary (ts : List (Int × Int)) (n : Nat) (ih : Hid (OkR ts n)) (S : Nat) (ta : Option Addr) (tc : Nat) (s : PS) (v : Value) (w : World) (h : Hid (PrsR w S ta tc ts s v)) (hm : mu ts 1 s ≤ n) :
    Calls Yabn.prog 106 #[.pointer (some ⟨S, 0, none⟩)] w (RetR ts 1 s S ta tc v w) := by
  obtain ⟨k, hk⟩ : ∃ k, Hid (pk ts s.pos = k) := ⟨_, rfl⟩
  have k4 := h.out.c4
  go_enter Yabn.func106, Yabn.ntmps106
  go_wp2_with fail
  refine (R.peek S ta tc ts s v k hk w h).mono ?_
  rintro e w3 ⟨rfl, x3⟩
  have h3 := hide (h.out.ext x3)
  have f3 : Hid (Fr S v v w w3) := Fr.of_ext x3
  clear x3 h k4
  by_cases hkk : k = 20
  · subst hkk
    have hlt := pk_lt hk.out (by decide)
    have hk0 : Hid (pk ts s.pos = unKind 1) := hk
    have k1 := h3.out.c1
    have fz := h3.out.fz 1
    have hl := h3.out.len
    have gn := h3.out.ndl
    have h4 := hide (h3.out.adv hlt)
    have f4 : Hid (Fr S v v w (w3.setCell ⟨S, 1, none⟩ (.int .i64 ((s.pos : Int) + 1)))) := f3.out.trans (Fr.set _ _ _)
    go_wp2_with fail
    generalize (w3.setCell ⟨S, 1, none⟩ (.int .i64 ((s.pos : Int) + 1))) = w4 at *
    clear k1 fz h3 f3
    by_cases hd : s.dep < 4096
    · refine (R.enter_ok S ta tc ts s.adv v w4 h4 hd).mono ?_
      rintro e w6 ⟨rfl, h6, f6⟩
      replace h6 := hide h6
      replace f6 := hide (f4.out.trans f6)
      clear h4 f4
      go_wp2_with fail
      refine (ih.out 1 (by omega) S ta tc s.adv.deep v w6 (by unfold mu at *; simp only [PS.adv, PS.deep]; omega) h6).mono ?_
      rintro e w5 (⟨hp, ⟨y, rfl⟩, hb, hf⟩ | ⟨y, s5, v5, hp, rfl, h5, hf⟩)
      · have hz := hide (Pr.prN (u := 1) (by omega) hk0.out hd hp)
        have f5 := hide (f6.out.trans hf)
        obtain ⟨d, k3, hb3⟩ := hb.c3
        have fz3 := hb.fz 3
        have k4 := hb.c4
        have hb9 := hide (hb3 (wrap64 (d - 1)))
        have f9 : Hid (Fr S v (.slice none 0 0) w (w5.setCell ⟨S, 3, none⟩ (.int .i64 (wrap64 (d - 1))))) := f5.out.trans (Fr.set _ _ _)
        clear hp hf hb3 hb
        go_wp2
        go_ret
        exact .inl ⟨hz.out, ⟨_, rfl⟩, hb9.out, f9.out⟩
      · have g5 := hp.grow
        simp only [PS.adv, PS.deep] at g5
        have hps : s5.nd.length < s5.pos := by omega
        have hz := hide (Pr.prS (u := 1) (by omega) hk0.out hd hp)
        have hd5 : 0 < s5.dep := by omega
        have k3 := h5.c3
        have k4 := h5.c4
        have fz3 := h5.fz 3
        have hdl := h5.dep
        replace h5 := hide h5
        have f5 := hide (f6.out.trans hf)
        clear hp hf h6 f6 g5
        go_wp2_with fail
        have h6 := hide (h5.out.up hd5)
        have f6 : Hid (Fr S v v5 w (w5.setCell ⟨S, 3, none⟩ (.int .i64 ((s5.dep : Int) - 1)))) := f5.out.trans (Fr.set _ _ _)
        generalize (w5.setCell ⟨S, 3, none⟩ (.int .i64 ((s5.dep : Int) - 1))) = w6 at *
        clear h5 f5 k3 fz3 k4
        refine (R.push S ta tc ts s5.up v5 3 0 y (-1) w6 h6 hps).mono ?_
        rintro e w7 ⟨v7, rfl, h7, f7⟩
        have F7 := hide (f6.out.trans f7)
        replace h7 := hide h7
        clear f7 f6 h6
        go_wp2
        go_ret
        exact .inr ⟨_, _, v7, hz.out, rfl, h7.out, F7.out⟩
    · have hz := hide (Pr.prD (ts := ts) (u := 1) (by omega) hk0.out (by omega))
      refine (R.enter_no S ta tc ts s.adv v w4 h4 hd).mono ?_
      rintro e w6 ⟨rfl, h6, f6⟩
      replace h6 := hide h6
      replace f6 := hide (f4.out.trans f6)
      go_wp2
      go_ret
      exact .inl ⟨hz.out, ⟨_, rfl⟩, h6.out, f6.out⟩
  · have hkk' : (k == 20) = false := by simpa using hkk
    have hk0 : Hid (pk ts s.pos ≠ unKind 1) := by rw [hk.out]; exact hkk
    go_wp2_with fail
    refine (ih.out (1 - 1) (by omega) S ta tc s v w3 (by unfold mu at *; omega) h3).mono ?_
    rintro e w5 (⟨hp, ⟨y, rfl⟩, hb, hf⟩ | ⟨y, s5, v5, hp, rfl, h5, hf⟩)
    · have hz := hide (Pr.prE (u := 1) (by omega) hk0.out hp)
      have f5 := hide (f3.out.trans hf)
      replace hb := hide hb
      clear hp hf
      go_wp2
      go_ret
      exact .inl ⟨hz.out, ⟨_, rfl⟩, hb.out, f5.out⟩
    · have hz := hide (Pr.prE (u := 1) (by omega) hk0.out hp)
      have f5 := hide (f3.out.trans hf)
      replace h5 := hide h5
      clear hp hf
      go_wp2
      go_ret
      exact .inr ⟨_, _, v5, hz.out, rfl, h5.out, f5.out⟩
end Go.Proofs.YbyabwGreat
