/- Walk: primary of impl's parser; all levels together -/
import Derived.Test.YbyabwGreatPrsK
namespace Go.Proofs.YbyabwGreat
open Go.RowKit
set_option maxRecDepth 100000
set_option linter.unusedVariables false

theorem PrsAt.tok {T : TypeId} {tl : List Value} {w : World} {S : Nat} {ta : Option Addr} {tc : Nat} {ts : List (Int × Int)} {s : PS} {v : Value} (h : PrsAt T tl w S ta tc ts s v) (hlt : s.pos < ts.length) :
    ∃ b off, ta = some ⟨b, off, none⟩ ∧ w.cell? ⟨b, off + s.pos * 2 + 1, none⟩ = some (.int .i64 (nu ts s.pos)) := by
  obtain ⟨b, off, e, _, h2⟩ := h.toks s.pos hlt
  exact ⟨b, off, e, h2⟩

set_option maxHeartbeats 8000000 in
theorem I.primary (ts : List (Int × Int)) (n : Nat) (ih : Hid (OkI ts n)) (S : Nat) (ta : Option Addr) (tc : Nat) (s : PS) (v : Value) (w : World) (h : Hid (PrsI w S ta tc ts s v)) (hm : mu ts 0 s ≤ n) :
    Calls Yabn.prog 107 #[.pointer (some ⟨S, 0, none⟩)] w (RetI ts 0 s S ta tc v w) := by
  obtain ⟨k, hk⟩ : ∃ k, Hid (pk ts s.pos = k) := ⟨_, rfl⟩
  go_enter Yabn.func107, Yabn.ntmps107
  go_wp2_with fail
  refine (I.peek S ta tc ts s v k hk w h).mono ?_
  rintro e w3 ⟨rfl, x3⟩
  have h3 := hide (h.out.ext x3)
  have f3 : Hid (Fr S v v w w3) := Fr.of_ext x3
  clear x3 h
  by_cases hk14 : k = 14
  · subst hk14
    as_aux_lemma =>
      have hlt := pk_lt hk.out (by decide)
      have hz := hide (Pr.pmV (ts := ts) (s := s) hk.out)
      obtain ⟨b, off, rfl, g1⟩ := h3.out.tok hlt
      have hlt' : (s.pos : Int) < ts.length := by omega
      have k0 := h3.out.c0
      have k1 := h3.out.c1
      have fz := h3.out.fz 1
      have hl := h3.out.len
      have gn := h3.out.ndl
      generalize nu ts s.pos = y at *
      go_wp2
      refine Dr.region_text (by kernel_rfl) ?_
      go_wp2
      refine ⟨by rfl, ?_⟩
      go_wp2_with fail
      have h4 : Hid (PrsI (w3.setCell ⟨S, 1, none⟩ (.int .i64 ((s.pos : Int) + 1))).drew S _ tc ts s.adv v) := (h3.out.adv hlt).ext (Ext.refl _).drew
      have f4 : Hid (Fr S v v w (w3.setCell ⟨S, 1, none⟩ (.int .i64 ((s.pos : Int) + 1))).drew) := (f3.out.trans (Fr.set _ _ _)).trans (Fr.of_ext (Ext.refl _).drew)
      generalize (w3.setCell ⟨S, 1, none⟩ (.int .i64 ((s.pos : Int) + 1))).drew = w4 at *
      clear k0 k1 fz h3 f3 g1
      refine (I.push S _ tc ts s.adv v 1 y (-1) (-1) w4 h4 (by simp only [PS.adv]; omega)).mono ?_
      rintro e w7 ⟨v7, rfl, h7, f7⟩
      have F7 := hide (f4.out.trans f7)
      replace h7 := hide h7
      clear f7 f4 h4
      go_wp2
      go_ret2
      exact .inr ⟨_, _, v7, hz.out, rfl, h7.out, F7.out⟩
  · have hk14' : (k == 14) = false := by simpa using hk14
    by_cases hk13 : k = 13
    · subst hk13
      clear hk14 hk14'
      as_aux_lemma =>
        have hlt := pk_lt hk.out (by decide)
        have hz := hide (Pr.pmC (ts := ts) (s := s) hk.out)
        obtain ⟨b, off, rfl, g1⟩ := h3.out.tok hlt
        have hlt' : (s.pos : Int) < ts.length := by omega
        have k0 := h3.out.c0
        have k1 := h3.out.c1
        have fz := h3.out.fz 1
        have hl := h3.out.len
        have gn := h3.out.ndl
        generalize nu ts s.pos = y at *
        go_wp2
        refine Dr.region_text (by kernel_rfl) ?_
        go_wp2
        refine ⟨by rfl, ?_⟩
        go_wp2_with fail
        have h4 : Hid (PrsI (w3.setCell ⟨S, 1, none⟩ (.int .i64 ((s.pos : Int) + 1))).drew S _ tc ts s.adv v) := (h3.out.adv hlt).ext (Ext.refl _).drew
        have f4 : Hid (Fr S v v w (w3.setCell ⟨S, 1, none⟩ (.int .i64 ((s.pos : Int) + 1))).drew) := (f3.out.trans (Fr.set _ _ _)).trans (Fr.of_ext (Ext.refl _).drew)
        generalize (w3.setCell ⟨S, 1, none⟩ (.int .i64 ((s.pos : Int) + 1))).drew = w4 at *
        clear k0 k1 fz h3 f3 g1
        refine (I.push S _ tc ts s.adv v 2 y (-1) (-1) w4 h4 (by simp only [PS.adv]; omega)).mono ?_
        rintro e w7 ⟨v7, rfl, h7, f7⟩
        have F7 := hide (f4.out.trans f7)
        replace h7 := hide h7
        clear f7 f4 h4
        go_wp2
        go_ret2
        exact .inr ⟨_, _, v7, hz.out, rfl, h7.out, F7.out⟩
    · have hk13' : (k == 13) = false := by simpa using hk13
      by_cases hk15 : k = 15
      · subst hk15
        clear hk14 hk14' hk13 hk13'
        have hlt := pk_lt hk.out (by decide)
        have k1 := h3.out.c1
        have k3 := h3.out.c3
        have fz := h3.out.fz 1
        have fz3 := h3.out.fz 3
        have hl := h3.out.len
        have gn := h3.out.ndl
        have hdp := h3.out.dep
        have f4 : Hid (Fr S v v w ((w3.setCell ⟨S, 1, none⟩ (.int .i64 ((s.pos : Int) + 1))).setCell ⟨S, 3, none⟩ (.int .i64 ((s.dep : Int) + 1)))) := (f3.out.trans (Fr.set _ _ _)).trans (Fr.set _ _ _)
        by_cases hd : s.dep < 4096
        · have hd' : ¬ 4096 < (s.dep : Int) + 1 := by omega
          have h4 : Hid (PrsI ((w3.setCell ⟨S, 1, none⟩ (.int .i64 ((s.pos : Int) + 1))).setCell ⟨S, 3, none⟩ (.int .i64 ((s.dep : Int) + 1))) S ta tc ts s.adv.deep v) := (h3.out.adv hlt).deep hd
          clear hdp
          go_wp2_with fail
          generalize ((w3.setCell ⟨S, 1, none⟩ (.int .i64 ((s.pos : Int) + 1))).setCell ⟨S, 3, none⟩ (.int .i64 ((s.dep : Int) + 1))) = w4 at *
          clear k1 fz k3 fz3 h3 f3
          refine (ih.out 7 (by omega) S ta tc s.adv.deep v w4 (by unfold mu at *; simp only [PS.adv, PS.deep]; omega) h4).mono ?_
          rintro e w5 (⟨hp, rfl, hf⟩ | ⟨y, s5, v5, hp, rfl, h5, hf⟩)
          · have hz := hide (Pr.pmN hk.out hd hp)
            have f5 := hide (f4.out.trans hf)
            clear hp hf
            go_wp2
            go_ret2
            exact .inl ⟨hz.out, rfl, f5.out⟩
          · have g5 := hp.grow
            simp only [PS.adv, PS.deep] at g5
            have hd5 : 0 < s5.dep := by omega
            replace hp := hide hp
            replace h5 := hide h5
            have f5 := hide (f4.out.trans hf)
            clear hf h4 f4 g5
            obtain ⟨k', hk'⟩ : ∃ k', Hid (pk ts s5.pos = k') := ⟨_, rfl⟩
            go_wp2_with fail
            refine (I.peek S ta tc ts s5 v5 k' hk' w5 h5).mono ?_
            rintro e w6 ⟨rfl, x6⟩
            have h6 := hide (h5.out.ext x6)
            have f6 : Hid (Fr S v v5 w w6) := f5.out.trans (Fr.of_ext x6)
            clear x6 h5 f5
            by_cases hk16 : k' = 16
            · subst hk16
              have hlt5 := pk_lt hk'.out (by decide)
              have hz := hide (Pr.pmS hk.out hd hp.out hk'.out)
              have k1 := h6.out.c1
              have k3 := h6.out.c3
              have fz := h6.out.fz 1
              have fz3 := h6.out.fz 3
              have hdl := h6.out.dep
              have h7 : Hid (PrsI ((w6.setCell ⟨S, 1, none⟩ (.int .i64 ((s5.pos : Int) + 1))).setCell ⟨S, 3, none⟩ (.int .i64 ((s5.dep : Int) - 1))) S ta tc ts s5.adv.up v5) := (h6.out.adv hlt5).up hd5
              have f7 : Hid (Fr S v v5 w ((w6.setCell ⟨S, 1, none⟩ (.int .i64 ((s5.pos : Int) + 1))).setCell ⟨S, 3, none⟩ (.int .i64 ((s5.dep : Int) - 1)))) := (f6.out.trans (Fr.set _ _ _)).trans (Fr.set _ _ _)
              go_wp2
              go_ret2
              exact .inr ⟨_, _, v5, hz.out, rfl, h7.out, f7.out⟩
            · have hk16' : (k' != 16) = true := by simpa using hk16
              have hz := hide (Pr.pmP hk.out hd hp.out (by rw [hk'.out]; exact hk16))
              go_wp2
              go_ret2
              exact .inl ⟨hz.out, rfl, f6.out.but, fun q hq => by cases hq⟩
        · have hd' : 4096 < (s.dep : Int) + 1 := by omega
          have hz := hide (Pr.pmD (ts := ts) hk.out (by omega))
          go_wp2
          go_ret2
          exact .inl ⟨hz.out, rfl, f4.out.but, fun q hq => by cases hq⟩
      · have hk15' : (k == 15) = false := by simpa using hk15
        have hz : Hid (Pr ts 0 0 s none) := Pr.pmX (by rw [hk.out]; exact hk14) (by rw [hk.out]; exact hk13) (by rw [hk.out]; exact hk15)
        go_wp2
        go_ret2
        exact .inl ⟨hz.out, rfl, f3.out.but, fun q hq => by cases hq⟩

/-- Every level of impl's parser answers as the plain parser does. -/
theorem implPrs (ts : List (Int × Int)) : ∀ n, OkI ts n := by
  intro n
  induction n with
  | zero => intro lv _ S ta tc s v w hm; omega
  | succ n ih =>
    intro lv hlv S ta tc s v w hm h
    have hm' : mu ts lv s ≤ n := by omega
    have hv : lv = 0 ∨ lv = 1 ∨ lv = 2 ∨ lv = 3 ∨ lv = 4 ∨ lv = 5 ∨ lv = 6 ∨ lv = 7 := by omega
    rcases hv with rfl | rfl | rfl | rfl | rfl | rfl | rfl | rfl
    · exact I.primary ts n ih S ta tc s v w h hm'
    · exact I.unary ts n ih S ta tc s v w h hm'
    · exact I.mul ts n ih S ta tc s v w h hm'
    · exact I.add ts n ih S ta tc s v w h hm'
    · exact I.cmp ts n ih S ta tc s v w h hm'
    · exact I.not ts n ih S ta tc s v w h hm'
    · exact I.and ts n ih S ta tc s v w h hm'
    · exact I.expr ts n ih S ta tc s v w h hm'
theorem I.exprAll (ts : List (Int × Int)) (S : Nat) (ta : Option Addr) (tc : Nat) (s : PS) (v : Value) (w : World) (h : Hid (PrsI w S ta tc ts s v)) :
    Calls Yabn.prog 37 #[.pointer (some ⟨S, 0, none⟩)] w (RetI ts 7 s S ta tc v w) := implPrs ts (mu ts 7 s + 1) 7 (by omega) S ta tc s v w (by omega) h
end Go.Proofs.YbyabwGreat
