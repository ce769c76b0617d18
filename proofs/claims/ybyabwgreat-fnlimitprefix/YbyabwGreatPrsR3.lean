/- Walk: primary of spec's parser; all levels together -/
import Derived.Test.YbyabwGreatPrsR2
namespace Go.Proofs.YbyabwGreat
open Go.RowKit
set_option maxRecDepth 100000
set_option linter.unusedVariables false

theorem PrsAt.tokR {T : TypeId} {tl : List Value} {w : World} {S : Nat} {ta : Option Addr} {tc : Nat} {ts : List (Int × Int)} {s : PS} {v : Value} (h : PrsAt T tl w S ta tc ts s v) (hlt : s.pos < ts.length) :
    ∃ b off, ta = some ⟨b, off, none⟩ ∧ w.cell? ⟨b, off + s.pos * 2 + 1, none⟩ = some (.int .i64 (nu ts s.pos)) := by
  obtain ⟨b, off, e, _, h2⟩ := h.toks s.pos hlt
  exact ⟨b, off, e, h2⟩

set_option maxHeartbeats 8000000 in
theorem R.primary (ts : List (Int × Int)) (n : Nat) (ih : Hid (OkR ts n)) (S : Nat) (ta : Option Addr) (tc : Nat) (s : PS) (v : Value) (w : World) (h : Hid (PrsR w S ta tc ts s v)) (hm : mu ts 0 s ≤ n) :
    Calls Yabn.prog 108 #[.pointer (some ⟨S, 0, none⟩)] w (RetR ts 0 s S ta tc v w) := by
  obtain ⟨k, hk⟩ : ∃ k, Hid (pk ts s.pos = k) := ⟨_, rfl⟩
  have k4 := h.out.c4
  go_enter Yabn.func108, Yabn.ntmps108
  go_wp2_with fail
  refine (R.peek S ta tc ts s v k hk w h).mono ?_
  rintro e w3 ⟨rfl, x3⟩
  have h3 := hide (h.out.ext x3)
  have f3 : Hid (Fr S v v w w3) := Fr.of_ext x3
  clear x3 h k4
  by_cases hk14 : k = 14
  · subst hk14
    as_aux_lemma =>
      have hlt := pk_lt hk.out (by decide)
      have hz := hide (Pr.pmV (ts := ts) (s := s) hk.out)
      obtain ⟨b, off, rfl, g1⟩ := h3.out.tokR hlt
      have hlt' : (s.pos : Int) < ts.length := by omega
      have k0 := h3.out.c0
      have k1 := h3.out.c1
      have fz := h3.out.fz 1
      have hl := h3.out.len
      have gn := h3.out.ndl
      generalize nu ts s.pos = y at *
      go_wp2
      refine Dr.region_text (by kernel_rfl) ?_
      go_wp2
      refine ⟨by rfl, ?_⟩
      go_wp2_with fail
      have h4 : Hid (PrsR (w3.setCell ⟨S, 1, none⟩ (.int .i64 ((s.pos : Int) + 1))).drew S _ tc ts s.adv v) := (h3.out.adv hlt).ext (Ext.refl _).drew
      have f4 : Hid (Fr S v v w (w3.setCell ⟨S, 1, none⟩ (.int .i64 ((s.pos : Int) + 1))).drew) := (f3.out.trans (Fr.set _ _ _)).trans (Fr.of_ext (Ext.refl _).drew)
      generalize (w3.setCell ⟨S, 1, none⟩ (.int .i64 ((s.pos : Int) + 1))).drew = w4 at *
      clear k0 k1 fz h3 f3 g1
      refine (R.push S _ tc ts s.adv v 1 y (-1) (-1) w4 h4 (by simp only [PS.adv]; omega)).mono ?_
      rintro e w7 ⟨v7, rfl, h7, f7⟩
      have F7 := hide (f4.out.trans f7)
      replace h7 := hide h7
      clear f7 f4 h4
      go_wp2
      go_ret
      exact .inr ⟨_, _, v7, hz.out, rfl, h7.out, F7.out⟩
  · have hk14' : (k == 14) = false := by simpa using hk14
    by_cases hk13 : k = 13
    · subst hk13
      clear hk14 hk14'
      as_aux_lemma =>
        have hlt := pk_lt hk.out (by decide)
        have hz := hide (Pr.pmC (ts := ts) (s := s) hk.out)
        obtain ⟨b, off, rfl, g1⟩ := h3.out.tokR hlt
        have hlt' : (s.pos : Int) < ts.length := by omega
        have k0 := h3.out.c0
        have k1 := h3.out.c1
        have fz := h3.out.fz 1
        have hl := h3.out.len
        have gn := h3.out.ndl
        generalize nu ts s.pos = y at *
        go_wp2
        refine Dr.region_text (by kernel_rfl) ?_
        go_wp2
        refine ⟨by rfl, ?_⟩
        go_wp2_with fail
        have h4 : Hid (PrsR (w3.setCell ⟨S, 1, none⟩ (.int .i64 ((s.pos : Int) + 1))).drew S _ tc ts s.adv v) := (h3.out.adv hlt).ext (Ext.refl _).drew
        have f4 : Hid (Fr S v v w (w3.setCell ⟨S, 1, none⟩ (.int .i64 ((s.pos : Int) + 1))).drew) := (f3.out.trans (Fr.set _ _ _)).trans (Fr.of_ext (Ext.refl _).drew)
        generalize (w3.setCell ⟨S, 1, none⟩ (.int .i64 ((s.pos : Int) + 1))).drew = w4 at *
        clear k0 k1 fz h3 f3 g1
        refine (R.push S _ tc ts s.adv v 2 y (-1) (-1) w4 h4 (by simp only [PS.adv]; omega)).mono ?_
        rintro e w7 ⟨v7, rfl, h7, f7⟩
        have F7 := hide (f4.out.trans f7)
        replace h7 := hide h7
        clear f7 f4 h4
        go_wp2
        go_ret
        exact .inr ⟨_, _, v7, hz.out, rfl, h7.out, F7.out⟩
    · have hk13' : (k == 13) = false := by simpa using hk13
      by_cases hk15 : k = 15
      · subst hk15
        clear hk14 hk14' hk13 hk13'
        have hlt := pk_lt hk.out (by decide)
        have k1 := h3.out.c1
        have fz := h3.out.fz 1
        have hl := h3.out.len
        have gn := h3.out.ndl
        have h4 := hide (h3.out.adv hlt)
        have f4 : Hid (Fr S v v w (w3.setCell ⟨S, 1, none⟩ (.int .i64 ((s.pos : Int) + 1)))) := f3.out.trans (Fr.set _ _ _)
        go_wp2_with fail
        generalize (w3.setCell ⟨S, 1, none⟩ (.int .i64 ((s.pos : Int) + 1))) = w4 at *
        clear k1 fz h3 f3
        by_cases hd : s.dep < 4096
        · refine (R.enter_ok S ta tc ts s.adv v w4 h4 hd).mono ?_
          rintro e w6 ⟨rfl, h6, f6⟩
          replace h6 := hide h6
          replace f6 := hide (f4.out.trans f6)
          clear h4 f4
          go_wp2_with fail
          refine (ih.out 7 (by omega) S ta tc s.adv.deep v w6 (by unfold mu at *; simp only [PS.adv, PS.deep]; omega) h6).mono ?_
          rintro e w5 (⟨hp, ⟨y, rfl⟩, hb, hf⟩ | ⟨y, s5, v5, hp, rfl, h5, hf⟩)
          · have hz := hide (Pr.pmN hk.out hd hp)
            have f5 := hide (f6.out.trans hf)
            replace hb := hide hb
            clear hp hf
            go_wp2_with fail
            refine (R.expect_bad S v 16 w5 hb).mono ?_
            rintro e w7 ⟨rfl, b7, f7⟩
            have F7 : Hid (Fr S v (.slice none 0 0) w w7) := by
              refine ⟨f5.out.but.trans (f7.but.mono ?_), fun q hq => by cases hq⟩
              rintro q (hq | hq)
              · exact .inl hq
              · exact .inr hq
            replace b7 := hide b7
            clear f7 f5 hb
            obtain ⟨d, k3, hb3⟩ := b7.out.c3
            have fz3 := b7.out.fz 3
            have k4 := b7.out.c4
            have hb9 := hide (hb3 (wrap64 (d - 1)))
            have f9 : Hid (Fr S v (.slice none 0 0) w (w7.setCell ⟨S, 3, none⟩ (.int .i64 (wrap64 (d - 1))))) := F7.out.trans (Fr.set _ _ _)
            clear hb3
            go_wp2
            go_ret
            exact .inl ⟨hz.out, ⟨_, rfl⟩, hb9.out, f9.out⟩
          · have g5 := hp.grow
            simp only [PS.adv, PS.deep] at g5
            have hd5 : 0 < s5.dep := by omega
            replace hp := hide hp
            replace h5 := hide h5
            have f5 := hide (f6.out.trans hf)
            clear hf h6 f6 g5
            obtain ⟨k', hk'⟩ : ∃ k', Hid (pk ts s5.pos = k') := ⟨_, rfl⟩
            by_cases hk16 : k' = 16
            · subst hk16
              have hlt5 := pk_lt hk'.out (by decide)
              have hz := hide (Pr.pmS hk.out hd hp.out hk'.out)
              go_wp2_with fail
              refine (R.expect_ok S ta tc ts s5 v5 16 w5 h5 hk' hlt5).mono ?_
              rintro e w6 ⟨rfl, h6, f6⟩
              have F6 := hide (f5.out.trans f6)
              have k3 := h6.c3
              have k4 := h6.c4
              have fz3 := h6.fz 3
              have hdl := h6.dep
              have h7 := hide (h6.up hd5)
              have f7 : Hid (Fr S v v5 w (w6.setCell ⟨S, 3, none⟩ (.int .i64 ((s5.adv.dep : Int) - 1)))) := F6.out.trans (Fr.set _ _ _)
              clear f6 f5 h5 h6
              simp only [PS.adv] at k3 hdl f7 hd5
              go_wp2
              go_ret
              exact .inr ⟨_, _, v5, hz.out, rfl, h7.out, f7.out⟩
            · have hz := hide (Pr.pmP hk.out hd hp.out (by rw [hk'.out]; exact hk16))
              go_wp2_with fail
              refine (R.expect_no S ta tc ts s5 v5 16 k' w5 h5 hk' hk16).mono ?_
              rintro e w7 ⟨rfl, b7, f7⟩
              have F7 := hide (f5.out.trans f7)
              replace b7 := hide b7
              clear f7 f5 h5
              obtain ⟨d, k3, hb3⟩ := b7.out.c3
              have fz3 := b7.out.fz 3
              have k4 := b7.out.c4
              have hb9 := hide (hb3 (wrap64 (d - 1)))
              have f9 : Hid (Fr S v (.slice none 0 0) w (w7.setCell ⟨S, 3, none⟩ (.int .i64 (wrap64 (d - 1))))) := F7.out.trans (Fr.set _ _ _)
              clear hb3
              go_wp2
              go_ret
              exact .inl ⟨hz.out, ⟨_, rfl⟩, hb9.out, f9.out⟩
        · have hz := hide (Pr.pmD (ts := ts) hk.out (by omega))
          refine (R.enter_no S ta tc ts s.adv v w4 h4 hd).mono ?_
          rintro e w6 ⟨rfl, h6, f6⟩
          replace h6 := hide h6
          replace f6 := hide (f4.out.trans f6)
          go_wp2
          go_ret
          exact .inl ⟨hz.out, ⟨_, rfl⟩, h6.out, f6.out⟩
      · have hk15' : (k == 15) = false := by simpa using hk15
        have hz : Hid (Pr ts 0 0 s none) := Pr.pmX (by rw [hk.out]; exact hk14) (by rw [hk.out]; exact hk13) (by rw [hk.out]; exact hk15)
        have k4 := h3.out.c4
        have fz := h3.out.fz 4
        have h4 := hide h3.out.bad
        have f4 : Hid (Fr S v v w (w3.setCell ⟨S, 4, none⟩ (.bool true))) := f3.out.trans (Fr.set _ _ _)
        go_wp2
        go_ret
        exact .inl ⟨hz.out, ⟨_, rfl⟩, h4.out, f4.out.drop⟩

/-- Every level of spec's parser answers as the plain parser does. -/
theorem specPrs (ts : List (Int × Int)) : ∀ n, OkR ts n := by
  intro n
  induction n with
  | zero => intro lv _ S ta tc s v w hm; omega
  | succ n ih =>
    intro lv hlv S ta tc s v w hm h
    have hm' : mu ts lv s ≤ n := by omega
    have hv : lv = 0 ∨ lv = 1 ∨ lv = 2 ∨ lv = 3 ∨ lv = 4 ∨ lv = 5 ∨ lv = 6 ∨ lv = 7 := by omega
    rcases hv with rfl | rfl | rfl | rfl | rfl | rfl | rfl | rfl
    · exact R.primary ts n ih S ta tc s v w h hm'
    · exact R.unary ts n ih S ta tc s v w h hm'
    · exact R.mul ts n ih S ta tc s v w h hm'
    · exact R.add ts n ih S ta tc s v w h hm'
    · exact R.cmp ts n ih S ta tc s v w h hm'
    · exact R.not ts n ih S ta tc s v w h hm'
    · exact R.and ts n ih S ta tc s v w h hm'
    · exact R.expr ts n ih S ta tc s v w h hm'
theorem R.exprAll (ts : List (Int × Int)) (S : Nat) (ta : Option Addr) (tc : Nat) (s : PS) (v : Value) (w : World) (h : Hid (PrsR w S ta tc ts s v)) :
    Calls Yabn.prog 57 #[.pointer (some ⟨S, 0, none⟩)] w (RetR ts 7 s S ta tc v w) := specPrs ts (mu ts 7 s + 1) 7 (by omega) S ta tc s v w (by omega) h
end Go.Proofs.YbyabwGreat
