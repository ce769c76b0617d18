/- Walks: cmp, not, unary, primary of impl's parser; all levels together -/
import Derived.Test.YbyabwGreatPrsJ
namespace Go.Proofs.YbyabwGreat
open Go.RowKit
set_option maxRecDepth 100000
set_option linter.unusedVariables false

set_option maxHeartbeats 4000000 in
theorem I.cmp (ts : List (Int × Int)) (n : Nat) (ih : Hid (OkI ts n)) (S : Nat) (ta : Option Addr) (tc : Nat) (s : PS) (v : Value) (w : World) (h : Hid (PrsI w S ta tc ts s v)) (hm : mu ts 4 s ≤ n) :
    Calls Yabn.prog 98 #[.pointer (some ⟨S, 0, none⟩)] w (RetI ts 4 s S ta tc v w) := by
  go_enter Yabn.func98, Yabn.ntmps98
  go_wp2_with fail
  refine (ih.out 3 (by omega) S ta tc s v w (by unfold mu at *; omega) h).mono ?_
  rintro e w1 (⟨hp, rfl, hf⟩ | ⟨x, s2, v2, hp1, rfl, h2, hf⟩)
  · replace hp := hide hp
    replace hf := hide hf
    go_wp2
    go_ret2
    exact .inl ⟨.cmN hp.out, rfl, hf.out⟩
  · replace h2 := hide h2
    replace hf := hide hf
    have gp : s.pos < s2.pos := hp1.grow.2.1 (by omega)
    replace hp1 := hide hp1
    obtain ⟨k, hk⟩ : ∃ k, Hid (pk ts s2.pos = k) := ⟨_, rfl⟩
    go_wp2_with fail
    refine (I.peek S ta tc ts s2 v2 k hk w1 h2).mono ?_
    rintro e w3 ⟨rfl, x3⟩
    have h3 := hide (h2.out.ext x3)
    have f3 : Hid (Fr S v v2 w w3) := hf.out.trans (Fr.of_ext x3)
    clear x3 hf h2
    by_cases hka : 21 ≤ k
    · by_cases hkb : k ≤ 26
      · have hkk : Hid (21 ≤ pk ts s2.pos ∧ pk ts s2.pos ≤ 26) := by rw [hk.out]; exact ⟨hka, hkb⟩
        have hlt := pk_lt hk.out (by omega)
        have k1 := h3.out.c1
        have fz := h3.out.fz 1
        have hl := h3.out.len
        have gn := h3.out.ndl
        go_wp2_with fail
        have h4 := hide (h3.out.adv hlt)
        have f4 : Hid (Fr S v v2 w (w3.setCell ⟨S, 1, none⟩ (.int .i64 ((s2.pos : Int) + 1)))) := f3.out.trans (Fr.set _ _ _)
        generalize (w3.setCell ⟨S, 1, none⟩ (.int .i64 ((s2.pos : Int) + 1))) = w4 at *
        clear k1 fz h3 f3
        refine (ih.out 3 (by omega) S ta tc s2.adv v2 w4 (by unfold mu at *; simp only [PS.adv]; omega) h4).mono ?_
        rintro e w5 (⟨hp, rfl, hf⟩ | ⟨y, s5, v5, hp, rfl, h5, hf⟩)
        · have hz := hide (Pr.cmR hp1.out hkk.out hp)
          have f5 := hide (f4.out.trans hf)
          clear hp hf hp1
          go_wp2
          go_ret2
          exact .inl ⟨hz.out, rfl, f5.out⟩
        · have g5 := hp.grow
          simp only [PS.adv] at g5
          have hps : s5.nd.length < s5.pos := by omega
          have hz0 := Pr.cmS hp1.out hkk.out hp
          rw [hk.out] at hz0
          have hz := hide hz0
          replace h5 := hide h5
          have f5 := hide (f4.out.trans hf)
          clear hp hf h4 f4 g5 hz0 hp1
          go_wp2_with fail
          refine (I.push S ta tc ts s5 v5 (k - 14) 0 x y w5 h5 hps).mono ?_
          rintro e w6 ⟨v6, rfl, h6, f6⟩
          have F6 := hide (f5.out.trans f6)
          replace h6 := hide h6
          clear f6 f5 h5
          go_wp2
          go_ret2
          exact .inr ⟨_, _, v6, hz.out, rfl, h6.out, F6.out⟩
      · have hkk : Hid (¬ (21 ≤ pk ts s2.pos ∧ pk ts s2.pos ≤ 26)) := by rw [hk.out]; intro hh; exact hkb hh.2
        have hz := hide (Pr.cmE hp1.out hkk.out)
        clear hp1
        go_wp2
        go_ret2
        exact .inr ⟨x, s2, v2, hz.out, rfl, h3.out, f3.out⟩
    · have hkk : Hid (¬ (21 ≤ pk ts s2.pos ∧ pk ts s2.pos ≤ 26)) := by rw [hk.out]; intro hh; exact hka hh.1
      have hz := hide (Pr.cmE hp1.out hkk.out)
      clear hp1
      go_wp2
      go_ret2
      exact .inr ⟨x, s2, v2, hz.out, rfl, h3.out, f3.out⟩

set_option maxHeartbeats 4000000 in
theorem I.not (ts : List (Int × Int)) (n : Nat) (ih : Hid (OkI ts n)) (S : Nat) (ta : Option Addr) (tc : Nat) (s : PS) (v : Value) (w : World) (h : Hid (PrsI w S ta tc ts s v)) (hm : mu ts 5 s ≤ n) :
    Calls Yabn.prog 95 #[.pointer (some ⟨S, 0, none⟩)] w (RetI ts 5 s S ta tc v w) := by
  obtain ⟨k, hk⟩ : ∃ k, Hid (pk ts s.pos = k) := ⟨_, rfl⟩
  go_enter Yabn.func95, Yabn.ntmps95
  go_wp2_with fail
  refine (I.peek S ta tc ts s v k hk w h).mono ?_
  rintro e w3 ⟨rfl, x3⟩
  have h3 := hide (h.out.ext x3)
  have f3 : Hid (Fr S v v w w3) := Fr.of_ext x3
  clear x3 h
  by_cases hkk : k = 8
  · subst hkk
    have hlt := pk_lt hk.out (by decide)
    have hk0 : Hid (pk ts s.pos = unKind 5) := hk
    have k1 := h3.out.c1
    have k3 := h3.out.c3
    have fz := h3.out.fz 1
    have fz3 := h3.out.fz 3
    have hl := h3.out.len
    have gn := h3.out.ndl
    have hdp := h3.out.dep
    have f4 : Hid (Fr S v v w ((w3.setCell ⟨S, 1, none⟩ (.int .i64 ((s.pos : Int) + 1))).setCell ⟨S, 3, none⟩ (.int .i64 ((s.dep : Int) + 1)))) := (f3.out.trans (Fr.set _ _ _)).trans (Fr.set _ _ _)
    by_cases hd : s.dep < 4096
    · have hd' : ¬ 4096 < (s.dep : Int) + 1 := by omega
      have h4 : Hid (PrsI ((w3.setCell ⟨S, 1, none⟩ (.int .i64 ((s.pos : Int) + 1))).setCell ⟨S, 3, none⟩ (.int .i64 ((s.dep : Int) + 1))) S ta tc ts s.adv.deep v) := (h3.out.adv hlt).deep hd
      clear hdp
      go_wp2_with fail
      generalize ((w3.setCell ⟨S, 1, none⟩ (.int .i64 ((s.pos : Int) + 1))).setCell ⟨S, 3, none⟩ (.int .i64 ((s.dep : Int) + 1))) = w4 at *
      clear k1 fz k3 fz3 h3 f3
      refine (ih.out 5 (by omega) S ta tc s.adv.deep v w4 (by unfold mu at *; simp only [PS.adv, PS.deep]; omega) h4).mono ?_
      rintro e w5 (⟨hp, rfl, hf⟩ | ⟨y, s5, v5, hp, rfl, h5, hf⟩)
      · have hz := hide (Pr.prN (u := 5) (by omega) hk0.out hd hp)
        have f5 := hide (f4.out.trans hf)
        clear hp hf
        go_wp2
        go_ret2
        exact .inl ⟨hz.out, rfl, f5.out⟩
      · have g5 := hp.grow
        simp only [PS.adv, PS.deep] at g5
        have hps : s5.nd.length < s5.pos := by omega
        have hz := hide (Pr.prS (u := 5) (by omega) hk0.out hd hp)
        have hd5 : 0 < s5.dep := by omega
        have k3 := h5.c3
        have fz3 := h5.fz 3
        have hdl := h5.dep
        replace h5 := hide h5
        have f5 := hide (f4.out.trans hf)
        clear hp hf h4 f4 g5
        go_wp2_with fail
        have h6 := hide (h5.out.up hd5)
        have f6 : Hid (Fr S v v5 w (w5.setCell ⟨S, 3, none⟩ (.int .i64 ((s5.dep : Int) - 1)))) := f5.out.trans (Fr.set _ _ _)
        generalize (w5.setCell ⟨S, 3, none⟩ (.int .i64 ((s5.dep : Int) - 1))) = w6 at *
        clear h5 f5 k3 fz3
        refine (I.push S ta tc ts s5.up v5 15 0 y (-1) w6 h6 hps).mono ?_
        rintro e w7 ⟨v7, rfl, h7, f7⟩
        have F7 := hide (f6.out.trans f7)
        replace h7 := hide h7
        clear f7 f6 h6
        go_wp2
        go_ret2
        exact .inr ⟨_, _, v7, hz.out, rfl, h7.out, F7.out⟩
    · have hd' : 4096 < (s.dep : Int) + 1 := by omega
      have hz := hide (Pr.prD (ts := ts) (u := 5) (by omega) hk0.out (by omega))
      go_wp2
      go_ret2
      exact .inl ⟨hz.out, rfl, f4.out.but, fun q hq => by cases hq⟩
  · have hkk' : (k == 8) = false := by simpa using hkk
    have hk0 : Hid (pk ts s.pos ≠ unKind 5) := by rw [hk.out]; exact hkk
    go_wp2_with fail
    refine (ih.out (5 - 1) (by omega) S ta tc s v w3 (by unfold mu at *; omega) h3).mono ?_
    rintro e w5 (⟨hp, rfl, hf⟩ | ⟨y, s5, v5, hp, rfl, h5, hf⟩)
    · have hz := hide (Pr.prE (u := 5) (by omega) hk0.out hp)
      have f5 := hide (f3.out.trans hf)
      clear hp hf
      go_wp2
      go_ret2
      exact .inl ⟨hz.out, rfl, f5.out⟩
    · have hz := hide (Pr.prE (u := 5) (by omega) hk0.out hp)
      have f5 := hide (f3.out.trans hf)
      replace h5 := hide h5
      clear hp hf
      go_wp2
      go_ret2
      exact .inr ⟨_, _, v5, hz.out, rfl, h5.out, f5.out⟩
set_option maxHeartbeats 4000000 in
theorem I.unary (ts : List (Int × Int)) (n : Nat) (ih : Hid (OkI ts n)) (S : Nat) (ta : Option Addr) (tc : Nat) (s : PS) (v : Value) (w : World) (h : Hid (PrsI w S ta tc ts s v)) (hm : mu ts 1 s ≤ n) :
    Calls Yabn.prog 105 #[.pointer (some ⟨S, 0, none⟩)] w (RetI ts 1 s S ta tc v w) := by
  obtain ⟨k, hk⟩ : ∃ k, Hid (pk ts s.pos = k) := ⟨_, rfl⟩
  go_enter Yabn.func105, Yabn.ntmps105
  go_wp2_with fail
  refine (I.peek S ta tc ts s v k hk w h).mono ?_
  rintro e w3 ⟨rfl, x3⟩
  have h3 := hide (h.out.ext x3)
  have f3 : Hid (Fr S v v w w3) := Fr.of_ext x3
  clear x3 h
  by_cases hkk : k = 20
  · subst hkk
    have hlt := pk_lt hk.out (by decide)
    have hk0 : Hid (pk ts s.pos = unKind 1) := hk
    have k1 := h3.out.c1
    have k3 := h3.out.c3
    have fz := h3.out.fz 1
    have fz3 := h3.out.fz 3
    have hl := h3.out.len
    have gn := h3.out.ndl
    have hdp := h3.out.dep
    have f4 : Hid (Fr S v v w ((w3.setCell ⟨S, 1, none⟩ (.int .i64 ((s.pos : Int) + 1))).setCell ⟨S, 3, none⟩ (.int .i64 ((s.dep : Int) + 1)))) := (f3.out.trans (Fr.set _ _ _)).trans (Fr.set _ _ _)
    by_cases hd : s.dep < 4096
    · have hd' : ¬ 4096 < (s.dep : Int) + 1 := by omega
      have h4 : Hid (PrsI ((w3.setCell ⟨S, 1, none⟩ (.int .i64 ((s.pos : Int) + 1))).setCell ⟨S, 3, none⟩ (.int .i64 ((s.dep : Int) + 1))) S ta tc ts s.adv.deep v) := (h3.out.adv hlt).deep hd
      clear hdp
      go_wp2_with fail
      generalize ((w3.setCell ⟨S, 1, none⟩ (.int .i64 ((s.pos : Int) + 1))).setCell ⟨S, 3, none⟩ (.int .i64 ((s.dep : Int) + 1))) = w4 at *
      clear k1 fz k3 fz3 h3 f3
      refine (ih.out 1 (by omega) S ta tc s.adv.deep v w4 (by unfold mu at *; simp only [PS.adv, PS.deep]; omega) h4).mono ?_
      rintro e w5 (⟨hp, rfl, hf⟩ | ⟨y, s5, v5, hp, rfl, h5, hf⟩)
      · have hz := hide (Pr.prN (u := 1) (by omega) hk0.out hd hp)
        have f5 := hide (f4.out.trans hf)
        clear hp hf
        go_wp2
        go_ret2
        exact .inl ⟨hz.out, rfl, f5.out⟩
      · have g5 := hp.grow
        simp only [PS.adv, PS.deep] at g5
        have hps : s5.nd.length < s5.pos := by omega
        have hz := hide (Pr.prS (u := 1) (by omega) hk0.out hd hp)
        have hd5 : 0 < s5.dep := by omega
        have k3 := h5.c3
        have fz3 := h5.fz 3
        have hdl := h5.dep
        replace h5 := hide h5
        have f5 := hide (f4.out.trans hf)
        clear hp hf h4 f4 g5
        go_wp2_with fail
        have h6 := hide (h5.out.up hd5)
        have f6 : Hid (Fr S v v5 w (w5.setCell ⟨S, 3, none⟩ (.int .i64 ((s5.dep : Int) - 1)))) := f5.out.trans (Fr.set _ _ _)
        generalize (w5.setCell ⟨S, 3, none⟩ (.int .i64 ((s5.dep : Int) - 1))) = w6 at *
        clear h5 f5 k3 fz3
        refine (I.push S ta tc ts s5.up v5 3 0 y (-1) w6 h6 hps).mono ?_
        rintro e w7 ⟨v7, rfl, h7, f7⟩
        have F7 := hide (f6.out.trans f7)
        replace h7 := hide h7
        clear f7 f6 h6
        go_wp2
        go_ret2
        exact .inr ⟨_, _, v7, hz.out, rfl, h7.out, F7.out⟩
    · have hd' : 4096 < (s.dep : Int) + 1 := by omega
      have hz := hide (Pr.prD (ts := ts) (u := 1) (by omega) hk0.out (by omega))
      go_wp2
      go_ret2
      exact .inl ⟨hz.out, rfl, f4.out.but, fun q hq => by cases hq⟩
  · have hkk' : (k == 20) = false := by simpa using hkk
    have hk0 : Hid (pk ts s.pos ≠ unKind 1) := by rw [hk.out]; exact hkk
    go_wp2_with fail
    refine (ih.out (1 - 1) (by omega) S ta tc s v w3 (by unfold mu at *; omega) h3).mono ?_
    rintro e w5 (⟨hp, rfl, hf⟩ | ⟨y, s5, v5, hp, rfl, h5, hf⟩)
    · have hz := hide (Pr.prE (u := 1) (by omega) hk0.out hp)
      have f5 := hide (f3.out.trans hf)
      clear hp hf
      go_wp2
      go_ret2
      exact .inl ⟨hz.out, rfl, f5.out⟩
    · have hz := hide (Pr.prE (u := 1) (by omega) hk0.out hp)
      have f5 := hide (f3.out.trans hf)
      replace h5 := hide h5
      clear hp hf
      go_wp2
      go_ret2
      exact .inr ⟨_, _, v5, hz.out, rfl, h5.out, f5.out⟩
end Go.Proofs.YbyabwGreat
