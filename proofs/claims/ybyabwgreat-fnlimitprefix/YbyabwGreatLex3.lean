/- Walk: spec.RefTokenize -/
import Derived.Test.YbyabwGreatLex2a
namespace Go.Proofs.YbyabwGreat
open Go.RowKit
set_option maxRecDepth 100000
set_option linter.unusedVariables false

set_option maxHeartbeats 1000000 in
theorem RefTokenize_big (s : ByteArray) (w : World) (h : 65536 < (s.size : Int)) : Calls Yabn.prog 53 #[.string s] w (RetToks (tokens s) w) := by
  have hn : tokens s = none := by unfold tokens; rw [if_pos (by omega)]
  replace hn := hide hn
  go_enter Yabn.func53, Yabn.ntmps53
  go_wp2
  go_ret2
  exact ⟨Ext.refl w, .inl ⟨hn, rfl⟩⟩



set_option maxHeartbeats 40000000 in
theorem RefTokenize_main (s : ByteArray) (w : World) (h : ¬ 65536 < (s.size : Int)) : Calls Yabn.prog 53 #[.string s] w (RetToks (tokens s) w) := by
  have hR : T s s.size 0 [] = tokens s := by unfold tokens; rw [if_neg (by omega)]
  generalize tokens s = R at *
  replace hR := hide hR
  go_enter Yabn.func53, Yabn.ntmps53
  go_wp2
  go_loopw [4, 5] (fun v i wr => ∃ (k g : Nat) (out : List (Int × Int)), i = .int .i64 k ∧ k ≤ s.size ∧ s.size - k ≤ g ∧ out.length ≤ k ∧ Hid (T s g k out = R) ∧ Hid (OwnP wr w.heap.size 95 v out) ∧ Hid (Ext w wr)) (fun _ i _ => s.size - (intOf i).toNat)
  case atStart => exact ⟨0, s.size, [], rfl, by omega, by omega, by simp, hR, OwnP.nil _ _ _, Ext.refl w⟩
  obtain ⟨k, g, out, rfl, hk, hg, hol, hT, hown, hext⟩ := hrel
  obtain ⟨W, rfl⟩ : ∃ W, W = wr := ⟨_, rfl⟩
  by_cases hlt : k < s.size
  · have hlt' : (k : Int) < s.size := by omega
    have hfail : Hid (step s k = none → R = none) := fun hs => by rw [← hT.out]; exact T_none hlt hg hs
    have hnext : Hid (∀ j o, k < j → step s k = some (j, o) → ∃ f', T s f' j (out ++ o) = R ∧ s.size - j ≤ f') := fun j o hj hs => by
      obtain ⟨f', e, hf⟩ := T_some (out := out) hlt hg hj hs
      exact ⟨f', by rw [← e]; exact hT.out, hf⟩
    have hbyte := tb_at s k hlt
    have b0 := tb_lo s k
    have b1 := tb_hi s k
    have hol2 : out.length < 2 ^ 39 := by omega
    replace hol2 := hide hol2
    clear hT
    by_cases hS : isS (tb s k) = true
    ·
      --<S
      have hst := step_space hS
      replace hst := hide hst
      generalize tb s k = b at *
      go_wp2_with (first | (go_at_call 82; refine (spec.isSpace _ _ (by assumption) _).mono ?_; rintro e wx ⟨rfl, rfl⟩) | (go_at_call 83; refine (spec.isLetter _ _ (by assumption) _).mono ?_; rintro e wx ⟨rfl, rfl⟩) | (go_at_call 84; refine (spec.isDigit _ _ (by assumption) _).mono ?_; rintro e wx ⟨rfl, rfl⟩) | (go_at_call 85; refine (spec.keywordKind _ _).mono ?_; rintro e wx ⟨rfl, rfl⟩) | (fail))
      go_roundw
      case rel =>
        obtain ⟨f', e, hf⟩ := hnext.out _ _ (by omega) hst.out
        exact ⟨k + 1, f', out, by go_num, by omega, hf, by omega, by rw [List.append_nil] at e; exact e, hown, hext⟩
      case measure => simp [intOf]; omega
      --S>
    · by_cases hL : isL (tb s k) = true
      ·
        --<L
        have hst := step_word hL
        have hwc := isL_wc hL
        have hS' : isS (tb s k) = false := by simpa using hS
        clear hS
        generalize hJ : wE s s.size k = J at *
        replace hJ := hide hJ
        generalize hbb : tb s k = b at *
        replace hbb := hide hbb
        replace hst := hide hst
        replace hwc := hide hwc
        go_wp2_with (first | (go_at_call 82; refine (spec.isSpace _ _ (by assumption) _).mono ?_; rintro e wx ⟨rfl, rfl⟩) | (go_at_call 83; refine (spec.isLetter _ _ (by assumption) _).mono ?_; rintro e wx ⟨rfl, rfl⟩) | (go_at_call 84; refine (spec.isDigit _ _ (by assumption) _).mono ?_; rintro e wx ⟨rfl, rfl⟩) | (go_at_call 85; refine (spec.keywordKind _ _).mono ?_; rintro e wx ⟨rfl, rfl⟩) | (fail))
        go_loopw [7] (fun jv wr => ∃ j f : Nat, jv = .int .i64 j ∧ k ≤ j ∧ j ≤ s.size ∧ s.size - j ≤ f ∧ Hid (wE s f j = J) ∧ W = wr) (fun jv _ => s.size - (intOf jv).toNat)
        case atStart => exact ⟨k, s.size, rfl, by omega, by omega, by omega, hJ, rfl⟩
        clear hL hS' hbyte b0 b1
        obtain ⟨j, f, rfl, hkj, hjs, hf, hwE, rfl⟩ := hrel
        by_cases hj : j < s.size
        · have hj' : (j : Int) < s.size := by omega
          have hbyte := tb_at s j hj
          cases hw : wc (tb s j) with
          | true =>
            have hgo := wE_go ⟨hj, hw⟩ hf
            rw [hwE.out] at hgo
            generalize tb s j = c at *
            replace hgo := hide hgo
            have hrel2 : Hid (∃ j' f : Nat, Value.int .i64 ((j : Int) + 1) = .int .i64 j' ∧ k ≤ j' ∧ j' ≤ s.size ∧ s.size - j' ≤ f ∧ Hid (wE s f j' = J)) := by
              obtain ⟨f', e, hf'⟩ := hgo.out
              exact ⟨j + 1, f', by go_num, by omega, by omega, hf', e.symm⟩
            cases hcL : isL c with
            | true =>
              clear hw
              go_wp2_with (first | (go_at_call 82; refine (spec.isSpace _ _ (by assumption) _).mono ?_; rintro e wx ⟨rfl, rfl⟩) | (go_at_call 83; refine (spec.isLetter _ _ (by assumption) _).mono ?_; rintro e wx ⟨rfl, rfl⟩) | (go_at_call 84; refine (spec.isDigit _ _ (by assumption) _).mono ?_; rintro e wx ⟨rfl, rfl⟩) | (go_at_call 85; refine (spec.keywordKind _ _).mono ?_; rintro e wx ⟨rfl, rfl⟩) | (fail))
              go_roundw
              case rel => obtain ⟨j', f', r1, r2, r3, r4, r5⟩ := hrel2.out; exact ⟨j', f', r1, r2, r3, r4, r5, by trivial⟩
              case measure => simp [intOf]; omega
            | false =>
              cases hcD : isD c with
              | true =>
                clear hw
                go_wp2_with (first | (go_at_call 82; refine (spec.isSpace _ _ (by assumption) _).mono ?_; rintro e wx ⟨rfl, rfl⟩) | (go_at_call 83; refine (spec.isLetter _ _ (by assumption) _).mono ?_; rintro e wx ⟨rfl, rfl⟩) | (go_at_call 84; refine (spec.isDigit _ _ (by assumption) _).mono ?_; rintro e wx ⟨rfl, rfl⟩) | (go_at_call 85; refine (spec.keywordKind _ _).mono ?_; rintro e wx ⟨rfl, rfl⟩) | (fail))
                go_roundw
                case rel => obtain ⟨j', f', r1, r2, r3, r4, r5⟩ := hrel2.out; exact ⟨j', f', r1, r2, r3, r4, r5, by trivial⟩
                case measure => simp [intOf]; omega
              | false =>
                have h95 : (c == 95) = true := by simpa [wc, hcL, hcD] using hw
                clear hw
                go_wp2_with (first | (go_at_call 82; refine (spec.isSpace _ _ (by assumption) _).mono ?_; rintro e wx ⟨rfl, rfl⟩) | (go_at_call 83; refine (spec.isLetter _ _ (by assumption) _).mono ?_; rintro e wx ⟨rfl, rfl⟩) | (go_at_call 84; refine (spec.isDigit _ _ (by assumption) _).mono ?_; rintro e wx ⟨rfl, rfl⟩) | (go_at_call 85; refine (spec.keywordKind _ _).mono ?_; rintro e wx ⟨rfl, rfl⟩) | (fail))
                go_roundw
                case rel => obtain ⟨j', f', r1, r2, r3, r4, r5⟩ := hrel2.out; exact ⟨j', f', r1, r2, r3, r4, r5, by trivial⟩
                case measure => simp [intOf]; omega
          | false =>
            have hnot : Hid (¬ (j < s.size ∧ wc (tb s j) = true)) := fun hh => by simp [hw] at hh
            have hcs : isL (tb s j) = false ∧ isD (tb s j) = false ∧ (tb s j == 95) = false := by simpa [wc, and_assoc] using hw
            obtain ⟨hcL, hcD, hc95⟩ := hcs
            clear hw
            generalize hcc : tb s j = c at hbyte hcL hcD hc95
            replace hcc := hide hcc
            obtain rfl : j = J := by rw [← hwE.out]; exact (wE_stop hnot.out).symm
            have hkj' : k < j := by
              rcases Nat.lt_or_ge k j with hh | hh
              · exact hh
              · obtain rfl : k = j := by omega
                exact absurd ⟨hlt, by rw [hbb.out]; exact hwc.out⟩ hnot.out
            clear hwE hnot
            obtain ⟨wd, hwd⟩ : ∃ wd, s.extract k j = wd := ⟨_, rfl⟩
            rw [hwd] at hst
            have hws : wd.size = j - k := by rw [← hwd]; simp [ByteArray.size_extract]; omega
            have hwb : (wd.size : Int) ≤ 65536 := by omega
            replace hws := hide hws
            have hkjI : (k : Int) ≤ j := by omega
            have hjsI : (j : Int) ≤ s.size := by omega
            obtain ⟨kk, hkk⟩ : ∃ kk, kwOf wd = kk := ⟨_, rfl⟩
            have hWs := hext.out.size
            by_cases hk0 : kk = 0
            · subst hk0
              have hcolN : Hid (colOf wd = none → R = none) := fun hc => hfail.out (by rw [hst.out]; simp [word, hkk, hc])
              have hcolS : Hid (∀ v, colOf wd = some v → step s k = some (j, [(13, v)])) := fun v hc => by rw [hst.out]; simp [word, hkk, hc]
              clear hst hfail
              by_cases h2 : wd.size < 2
              · have h2' : (wd.size : Int) < 2 := by omega
                have hnone := hide (hcolN.out (by unfold colOf; rw [if_neg (by omega)]))
                as_aux_lemma =>
                  go_wp2_with (first | (go_at_call 82; refine (spec.isSpace _ _ (by assumption) _).mono ?_; rintro e wx ⟨rfl, rfl⟩) | (go_at_call 83; refine (spec.isLetter _ _ (by assumption) _).mono ?_; rintro e wx ⟨rfl, rfl⟩) | (go_at_call 84; refine (spec.isDigit _ _ (by assumption) _).mono ?_; rintro e wx ⟨rfl, rfl⟩) | (go_at_call 85; refine (spec.keywordKind _ _).mono ?_; rintro e wx ⟨rfl, rfl⟩) | (fail))
                  go_ret2; exact ⟨hext.out, .inl ⟨hnone.out, rfl⟩⟩
              · have h2' : ¬ (wd.size : Int) < 2 := by omega
                have hx0 := tb_at wd 0 (by omega)
                by_cases h99 : tb wd 0 = 99
                · have hds := size_ext1 wd
                  have hcolE : Hid (colOf wd = if wd.size ≤ 6 ∧ (∀ x, x < (wd.extract 1 wd.size).size → isD (tb (wd.extract 1 wd.size) x) = true) ∧ ¬ (1 < (wd.extract 1 wd.size).size ∧ tb (wd.extract 1 wd.size) 0 = 48) ∧ dv (wd.extract 1 wd.size) (wd.extract 1 wd.size).size ≤ 65535
                      then some (dv (wd.extract 1 wd.size) (wd.extract 1 wd.size).size) else none) := by
                    unfold colOf Hid
                    have e1 : 2 ≤ wd.size := by omega
                    simp only [e1, h99, true_and]
                  generalize tb wd 0 = c0 at *
                  subst h99
                  obtain ⟨d, hd⟩ : ∃ d, wd.extract 1 wd.size = d := ⟨_, rfl⟩
                  rw [hd] at hds hcolE
                  have hdsi : (d.size : Int) ≤ 9223372036854775807 := by omega
                  have hwb2 : (wd.size : Int) ≤ 9223372036854775807 := by omega
                  replace hwb := hide hwb
                  replace hds := hide hds
                  --<C
                  go_wp2_with (first | (go_at_call 82; refine (spec.isSpace _ _ (by assumption) _).mono ?_; rintro e wx ⟨rfl, rfl⟩) | (go_at_call 83; refine (spec.isLetter _ _ (by assumption) _).mono ?_; rintro e wx ⟨rfl, rfl⟩) | (go_at_call 84; refine (spec.isDigit _ _ (by assumption) _).mono ?_; rintro e wx ⟨rfl, rfl⟩) | (go_at_call 85; refine (spec.keywordKind _ _).mono ?_; rintro e wx ⟨rfl, rfl⟩) | (fail))
                  go_loopw [11] (fun xv wr => ∃ x : Nat, xv = .int .i64 x ∧ x ≤ d.size ∧ Hid (∀ y, y < x → isD (tb d y) = true) ∧ W = wr) (fun xv _ => d.size - (intOf xv).toNat)
                  case atStart => exact ⟨0, rfl, by omega, fun y hy => by omega, rfl⟩
                  obtain ⟨x, rfl, hxs, hall, rfl⟩ := hrel
                  by_cases hx : x < d.size
                  · have hx' : (x : Int) < d.size := by omega
                    have hxb := tb_at d x hx
                    cases hD : isD (tb d x) with
                    | true =>
                      have hall2 : Hid (∀ y, y < x + 1 → isD (tb d y) = true) := fun y hy => by
                        rcases Nat.lt_or_ge y x with hh | hh
                        · exact hall.out y hh
                        · obtain rfl : y = x := by omega
                          exact hD
                      generalize tb d x = c at hxb hD
                      go_wp2_with (first | (go_at_call 82; refine (spec.isSpace _ _ (by assumption) _).mono ?_; rintro e wx ⟨rfl, rfl⟩) | (go_at_call 83; refine (spec.isLetter _ _ (by assumption) _).mono ?_; rintro e wx ⟨rfl, rfl⟩) | (go_at_call 84; refine (spec.isDigit _ _ (by assumption) _).mono ?_; rintro e wx ⟨rfl, rfl⟩) | (go_at_call 85; refine (spec.keywordKind _ _).mono ?_; rintro e wx ⟨rfl, rfl⟩) | (fail))
                      go_roundw
                      case rel => exact ⟨x + 1, by go_num, by omega, hall2, by trivial⟩
                      case measure => simp [intOf]; omega
                    | false =>
                      have hnone := hide (hcolN.out (by rw [hcolE.out, if_neg]; intro hh; have := hh.2.1 x hx; rw [hD] at this; cases this))
                      generalize tb d x = c at hxb hD
                      as_aux_lemma =>
                        go_wp2_with (first | (go_at_call 82; refine (spec.isSpace _ _ (by assumption) _).mono ?_; rintro e wx ⟨rfl, rfl⟩) | (go_at_call 83; refine (spec.isLetter _ _ (by assumption) _).mono ?_; rintro e wx ⟨rfl, rfl⟩) | (go_at_call 84; refine (spec.isDigit _ _ (by assumption) _).mono ?_; rintro e wx ⟨rfl, rfl⟩) | (go_at_call 85; refine (spec.keywordKind _ _).mono ?_; rintro e wx ⟨rfl, rfl⟩) | (fail))
                        go_ret2; exact ⟨hext.out, .inl ⟨hnone.out, rfl⟩⟩
                  · obtain rfl : x = d.size := by omega
                    have hx' : ¬ (d.size : Int) < d.size := by omega
                    by_cases h1 : 1 < d.size
                    · have h1' : 1 < (d.size : Int) := by omega
                      have hx0 := tb_at d 0 (by omega)
                      by_cases h48 : tb d 0 = 48
                      · have hnone := hide (hcolN.out (by rw [hcolE.out, if_neg]; intro hh; exact hh.2.2.1 ⟨h1, h48⟩))
                        generalize tb d 0 = c at hx0 h48
                        subst h48
                        as_aux_lemma =>
                          go_wp2_with (first | (go_at_call 82; refine (spec.isSpace _ _ (by assumption) _).mono ?_; rintro e wx ⟨rfl, rfl⟩) | (go_at_call 83; refine (spec.isLetter _ _ (by assumption) _).mono ?_; rintro e wx ⟨rfl, rfl⟩) | (go_at_call 84; refine (spec.isDigit _ _ (by assumption) _).mono ?_; rintro e wx ⟨rfl, rfl⟩) | (go_at_call 85; refine (spec.keywordKind _ _).mono ?_; rintro e wx ⟨rfl, rfl⟩) | (fail))
                          go_ret2; exact ⟨hext.out, .inl ⟨hnone.out, rfl⟩⟩
                      · have hlz : Hid (¬ (1 < d.size ∧ tb d 0 = 48)) := fun hh => h48 hh.2
                        have h48' : (tb d 0 == 48) = false := by simpa using h48
                        generalize tb d 0 = c at hx0 h48 h48'
                        by_cases h5 : 5 < d.size
                        · have h5' : 5 < (d.size : Int) := by omega
                          have hnone := hide (hcolN.out (by rw [hcolE.out, if_neg]; intro hh; have := hds.out; omega))
                          as_aux_lemma =>
                            go_wp2_with (first | (go_at_call 82; refine (spec.isSpace _ _ (by assumption) _).mono ?_; rintro e wx ⟨rfl, rfl⟩) | (go_at_call 83; refine (spec.isLetter _ _ (by assumption) _).mono ?_; rintro e wx ⟨rfl, rfl⟩) | (go_at_call 84; refine (spec.isDigit _ _ (by assumption) _).mono ?_; rintro e wx ⟨rfl, rfl⟩) | (go_at_call 85; refine (spec.keywordKind _ _).mono ?_; rintro e wx ⟨rfl, rfl⟩) | (fail))
                            go_ret2; exact ⟨hext.out, .inl ⟨hnone.out, rfl⟩⟩
                        · have h5' : ¬ 5 < (d.size : Int) := by omega
                          go_wp2_with (first | (go_at_call 82; refine (spec.isSpace _ _ (by assumption) _).mono ?_; rintro e wx ⟨rfl, rfl⟩) | (go_at_call 83; refine (spec.isLetter _ _ (by assumption) _).mono ?_; rintro e wx ⟨rfl, rfl⟩) | (go_at_call 84; refine (spec.isDigit _ _ (by assumption) _).mono ?_; rintro e wx ⟨rfl, rfl⟩) | (go_at_call 85; refine (spec.keywordKind _ _).mono ?_; rintro e wx ⟨rfl, rfl⟩) | (fail))
                          go_loopw [12, 13] (fun vv xv wr => ∃ x : Nat, xv = .int .i64 x ∧ x ≤ d.size ∧ vv = .int .i64 (dv d x) ∧ W = wr) (fun _ xv _ => d.size - (intOf xv).toNat)
                          case atStart => exact ⟨0, rfl, by omega, rfl, rfl⟩
                          obtain ⟨x, rfl, hxs, rfl, rfl⟩ := hrel
                          have hvb := dv_bound d x (fun y hy => hall.out y (by omega))
                          have hv5 : dv d x < 100000 := by
                            have h5 : x = 0 ∨ x = 1 ∨ x = 2 ∨ x = 3 ∨ x = 4 ∨ x = 5 := by omega
                            rcases h5 with rfl | rfl | rfl | rfl | rfl | rfl <;> simp at hvb ⊢ <;> omega
                          have hv0 := hvb.1
                          clear hvb
                          by_cases hx : x < d.size
                          · have hx' : (x : Int) < d.size := by omega
                            have hxb := tb_at d x hx
                            have hdvs : dv d (x + 1) = dv d x * 10 + (tb d x - 48) := rfl
                            have hr := isD_rng (hall.out x hx)
                            generalize tb d x = c at hxb hdvs hr
                            generalize dv d x = v at hdvs hv5 hv0 ⊢
                            replace hdvs := hide hdvs
                            obtain ⟨hr1, hr2⟩ := hr
                            as_aux_lemma =>
                              go_wp2_with (first | (go_at_call 82; refine (spec.isSpace _ _ (by assumption) _).mono ?_; rintro e wx ⟨rfl, rfl⟩) | (go_at_call 83; refine (spec.isLetter _ _ (by assumption) _).mono ?_; rintro e wx ⟨rfl, rfl⟩) | (go_at_call 84; refine (spec.isDigit _ _ (by assumption) _).mono ?_; rintro e wx ⟨rfl, rfl⟩) | (go_at_call 85; refine (spec.keywordKind _ _).mono ?_; rintro e wx ⟨rfl, rfl⟩) | (fail))
                              go_roundw
                              case rel => exact ⟨x + 1, by go_num, by omega, by rw [hdvs.out], by trivial⟩
                              case measure => simp [intOf]; omega
                          · obtain rfl : x = d.size := by omega
                            by_cases h655 : 65535 < dv d d.size
                            · have hnone := hide (hcolN.out (by rw [hcolE.out, if_neg]; intro hh; have := hh.2.2.2; omega))
                              generalize dv d d.size = v at hv5 hv0 h655 ⊢
                              as_aux_lemma =>
                                go_wp2_with (first | (go_at_call 82; refine (spec.isSpace _ _ (by assumption) _).mono ?_; rintro e wx ⟨rfl, rfl⟩) | (go_at_call 83; refine (spec.isLetter _ _ (by assumption) _).mono ?_; rintro e wx ⟨rfl, rfl⟩) | (go_at_call 84; refine (spec.isDigit _ _ (by assumption) _).mono ?_; rintro e wx ⟨rfl, rfl⟩) | (go_at_call 85; refine (spec.keywordKind _ _).mono ?_; rintro e wx ⟨rfl, rfl⟩) | (fail))
                                go_ret2; exact ⟨hext.out, .inl ⟨hnone.out, rfl⟩⟩
                            · have hst2 := hcolS.out _ (by rw [hcolE.out, if_pos ⟨by have := hds.out; omega, hall.out, hlz.out, by omega⟩])
                              replace hst2 := hide hst2
                              clear hcolN hcolE
                              generalize dv d d.size = v at *
                              as_aux_lemma =>
                                go_wp2_with (first | (go_at_call 82; refine (spec.isSpace _ _ (by assumption) _).mono ?_; rintro e wx ⟨rfl, rfl⟩) | (go_at_call 83; refine (spec.isLetter _ _ (by assumption) _).mono ?_; rintro e wx ⟨rfl, rfl⟩) | (go_at_call 84; refine (spec.isDigit _ _ (by assumption) _).mono ?_; rintro e wx ⟨rfl, rfl⟩) | (go_at_call 85; refine (spec.keywordKind _ _).mono ?_; rintro e wx ⟨rfl, rfl⟩) | (at_builtin; refine app_tok rfl rfl w.heap.size (by simp; omega) _ out 13 v rfl (hown.out.alloc _) W.heap.size 1 (by rfl) (heap_alloc_new W _) hol2.out ?_; intro g2 cap w2 hown2 hgr hor hlt2; replace hgr := hide hgr; replace hown2 := hide hown2; replace hor := hide hor))
                                go_roundw
                                case rel =>
                                  obtain ⟨f', e, hf⟩ := hnext.out _ _ (by omega) hst2.out
                                  refine ⟨j, f', out ++ [(13, v)], by first | rfl | go_num, by omega, hf, by simp; omega, e, hown2, (hext.out.alloc _).grown hgr.out ?_⟩
                                  intro q hq; exact hown.out.block q hq
                                case measure => simp [intOf]; omega
                    · have h1' : ¬ 1 < (d.size : Int) := by omega
                      have hlz : Hid (¬ (1 < d.size ∧ tb d 0 = 48)) := fun hh => h1 hh.1
                      by_cases h5 : 5 < d.size
                      · have h5' : 5 < (d.size : Int) := by omega
                        have hnone := hide (hcolN.out (by rw [hcolE.out, if_neg]; intro hh; have := hds.out; omega))
                        as_aux_lemma =>
                          go_wp2_with (first | (go_at_call 82; refine (spec.isSpace _ _ (by assumption) _).mono ?_; rintro e wx ⟨rfl, rfl⟩) | (go_at_call 83; refine (spec.isLetter _ _ (by assumption) _).mono ?_; rintro e wx ⟨rfl, rfl⟩) | (go_at_call 84; refine (spec.isDigit _ _ (by assumption) _).mono ?_; rintro e wx ⟨rfl, rfl⟩) | (go_at_call 85; refine (spec.keywordKind _ _).mono ?_; rintro e wx ⟨rfl, rfl⟩) | (fail))
                          go_ret2; exact ⟨hext.out, .inl ⟨hnone.out, rfl⟩⟩
                      · have h5' : ¬ 5 < (d.size : Int) := by omega
                        go_wp2_with (first | (go_at_call 82; refine (spec.isSpace _ _ (by assumption) _).mono ?_; rintro e wx ⟨rfl, rfl⟩) | (go_at_call 83; refine (spec.isLetter _ _ (by assumption) _).mono ?_; rintro e wx ⟨rfl, rfl⟩) | (go_at_call 84; refine (spec.isDigit _ _ (by assumption) _).mono ?_; rintro e wx ⟨rfl, rfl⟩) | (go_at_call 85; refine (spec.keywordKind _ _).mono ?_; rintro e wx ⟨rfl, rfl⟩) | (fail))
                        go_loopw [12, 13] (fun vv xv wr => ∃ x : Nat, xv = .int .i64 x ∧ x ≤ d.size ∧ vv = .int .i64 (dv d x) ∧ W = wr) (fun _ xv _ => d.size - (intOf xv).toNat)
                        case atStart => exact ⟨0, rfl, by omega, rfl, rfl⟩
                        obtain ⟨x, rfl, hxs, rfl, rfl⟩ := hrel
                        have hvb := dv_bound d x (fun y hy => hall.out y (by omega))
                        have hv5 : dv d x < 100000 := by
                          have h5 : x = 0 ∨ x = 1 ∨ x = 2 ∨ x = 3 ∨ x = 4 ∨ x = 5 := by omega
                          rcases h5 with rfl | rfl | rfl | rfl | rfl | rfl <;> simp at hvb ⊢ <;> omega
                        have hv0 := hvb.1
                        clear hvb
                        by_cases hx : x < d.size
                        · have hx' : (x : Int) < d.size := by omega
                          have hxb := tb_at d x hx
                          have hdvs : dv d (x + 1) = dv d x * 10 + (tb d x - 48) := rfl
                          have hr := isD_rng (hall.out x hx)
                          generalize tb d x = c at hxb hdvs hr
                          generalize dv d x = v at hdvs hv5 hv0 ⊢
                          replace hdvs := hide hdvs
                          obtain ⟨hr1, hr2⟩ := hr
                          as_aux_lemma =>
                            go_wp2_with (first | (go_at_call 82; refine (spec.isSpace _ _ (by assumption) _).mono ?_; rintro e wx ⟨rfl, rfl⟩) | (go_at_call 83; refine (spec.isLetter _ _ (by assumption) _).mono ?_; rintro e wx ⟨rfl, rfl⟩) | (go_at_call 84; refine (spec.isDigit _ _ (by assumption) _).mono ?_; rintro e wx ⟨rfl, rfl⟩) | (go_at_call 85; refine (spec.keywordKind _ _).mono ?_; rintro e wx ⟨rfl, rfl⟩) | (fail))
                            go_roundw
                            case rel => exact ⟨x + 1, by go_num, by omega, by rw [hdvs.out], by trivial⟩
                            case measure => simp [intOf]; omega
                        · obtain rfl : x = d.size := by omega
                          by_cases h655 : 65535 < dv d d.size
                          · have hnone := hide (hcolN.out (by rw [hcolE.out, if_neg]; intro hh; have := hh.2.2.2; omega))
                            generalize dv d d.size = v at hv5 hv0 h655 ⊢
                            as_aux_lemma =>
                              go_wp2_with (first | (go_at_call 82; refine (spec.isSpace _ _ (by assumption) _).mono ?_; rintro e wx ⟨rfl, rfl⟩) | (go_at_call 83; refine (spec.isLetter _ _ (by assumption) _).mono ?_; rintro e wx ⟨rfl, rfl⟩) | (go_at_call 84; refine (spec.isDigit _ _ (by assumption) _).mono ?_; rintro e wx ⟨rfl, rfl⟩) | (go_at_call 85; refine (spec.keywordKind _ _).mono ?_; rintro e wx ⟨rfl, rfl⟩) | (fail))
                              go_ret2; exact ⟨hext.out, .inl ⟨hnone.out, rfl⟩⟩
                          · have hst2 := hcolS.out _ (by rw [hcolE.out, if_pos ⟨by have := hds.out; omega, hall.out, hlz.out, by omega⟩])
                            replace hst2 := hide hst2
                            clear hcolN hcolE
                            generalize dv d d.size = v at *
                            as_aux_lemma =>
                              go_wp2_with (first | (go_at_call 82; refine (spec.isSpace _ _ (by assumption) _).mono ?_; rintro e wx ⟨rfl, rfl⟩) | (go_at_call 83; refine (spec.isLetter _ _ (by assumption) _).mono ?_; rintro e wx ⟨rfl, rfl⟩) | (go_at_call 84; refine (spec.isDigit _ _ (by assumption) _).mono ?_; rintro e wx ⟨rfl, rfl⟩) | (go_at_call 85; refine (spec.keywordKind _ _).mono ?_; rintro e wx ⟨rfl, rfl⟩) | (at_builtin; refine app_tok rfl rfl w.heap.size (by simp; omega) _ out 13 v rfl (hown.out.alloc _) W.heap.size 1 (by rfl) (heap_alloc_new W _) hol2.out ?_; intro g2 cap w2 hown2 hgr hor hlt2; replace hgr := hide hgr; replace hown2 := hide hown2; replace hor := hide hor))
                              go_roundw
                              case rel =>
                                obtain ⟨f', e, hf⟩ := hnext.out _ _ (by omega) hst2.out
                                refine ⟨j, f', out ++ [(13, v)], by first | rfl | go_num, by omega, hf, by simp; omega, e, hown2, (hext.out.alloc _).grown hgr.out ?_⟩
                                intro q hq; exact hown.out.block q hq
                              case measure => simp [intOf]; omega
                  --C>
                · have h99' : (tb wd 0 == 99) = false := by simpa using h99
                  have h99n : (tb wd 0 != 99) = true := by simp [h99]
                  have hnone := hide (hcolN.out (by unfold colOf; rw [if_neg (by omega)]))
                  generalize tb wd 0 = c0 at *
                  as_aux_lemma =>
                    go_wp2_with (first | (go_at_call 82; refine (spec.isSpace _ _ (by assumption) _).mono ?_; rintro e wx ⟨rfl, rfl⟩) | (go_at_call 83; refine (spec.isLetter _ _ (by assumption) _).mono ?_; rintro e wx ⟨rfl, rfl⟩) | (go_at_call 84; refine (spec.isDigit _ _ (by assumption) _).mono ?_; rintro e wx ⟨rfl, rfl⟩) | (go_at_call 85; refine (spec.keywordKind _ _).mono ?_; rintro e wx ⟨rfl, rfl⟩) | (fail))
                    go_ret2; exact ⟨hext.out, .inl ⟨hnone.out, rfl⟩⟩
            · have hkb : (kk == 0) = false := by simpa using hk0
              have hst2 := hst.out
              simp only [word, hkk, hk0, if_false] at hst2
              clear hk0 hst
              replace hst2 := hide hst2
              as_aux_lemma =>
                go_wp2_with (first | (go_at_call 82; refine (spec.isSpace _ _ (by assumption) _).mono ?_; rintro e wx ⟨rfl, rfl⟩) | (go_at_call 83; refine (spec.isLetter _ _ (by assumption) _).mono ?_; rintro e wx ⟨rfl, rfl⟩) | (go_at_call 84; refine (spec.isDigit _ _ (by assumption) _).mono ?_; rintro e wx ⟨rfl, rfl⟩) | (go_at_call 85; refine (spec.keywordKind _ _).mono ?_; rintro e wx ⟨rfl, rfl⟩) | (at_builtin; refine app_tok rfl rfl w.heap.size (by simp; omega) _ out kk 0 rfl (hown.out.alloc _) W.heap.size 1 (by rfl) (heap_alloc_new W _) hol2.out ?_; intro g2 cap w2 hown2 hgr hor hlt2; replace hgr := hide hgr; replace hown2 := hide hown2; replace hor := hide hor))
                go_roundw
                case rel =>
                  obtain ⟨f', e, hf⟩ := hnext.out _ _ (by omega) hst2.out
                  refine ⟨j, f', out ++ [(kk, 0)], by first | rfl | go_num, by omega, hf, by simp; omega, e, hown2, (hext.out.alloc _).grown hgr.out ?_⟩
                  intro q hq; exact hown.out.block q hq
                case measure => simp [intOf]; omega
        · have hnot : Hid (¬ (j < s.size ∧ wc (tb s j) = true)) := fun hh => by omega
          have hj' : ¬ (j : Int) < s.size := by omega
          obtain rfl : j = J := by rw [← hwE.out]; exact (wE_stop hnot.out).symm
          have hkj' : k < j := by
            rcases Nat.lt_or_ge k j with hh | hh
            · exact hh
            · obtain rfl : k = j := by omega
              exact absurd ⟨hlt, by rw [hbb.out]; exact hwc.out⟩ hnot.out
          clear hwE hnot
          obtain ⟨wd, hwd⟩ : ∃ wd, s.extract k j = wd := ⟨_, rfl⟩
          rw [hwd] at hst
          have hws : wd.size = j - k := by rw [← hwd]; simp [ByteArray.size_extract]; omega
          have hwb : (wd.size : Int) ≤ 65536 := by omega
          replace hws := hide hws
          have hkjI : (k : Int) ≤ j := by omega
          have hjsI : (j : Int) ≤ s.size := by omega
          obtain ⟨kk, hkk⟩ : ∃ kk, kwOf wd = kk := ⟨_, rfl⟩
          have hWs := hext.out.size
          by_cases hk0 : kk = 0
          · subst hk0
            have hcolN : Hid (colOf wd = none → R = none) := fun hc => hfail.out (by rw [hst.out]; simp [word, hkk, hc])
            have hcolS : Hid (∀ v, colOf wd = some v → step s k = some (j, [(13, v)])) := fun v hc => by rw [hst.out]; simp [word, hkk, hc]
            clear hst hfail
            by_cases h2 : wd.size < 2
            · have h2' : (wd.size : Int) < 2 := by omega
              have hnone := hide (hcolN.out (by unfold colOf; rw [if_neg (by omega)]))
              as_aux_lemma =>
                go_wp2_with (first | (go_at_call 82; refine (spec.isSpace _ _ (by assumption) _).mono ?_; rintro e wx ⟨rfl, rfl⟩) | (go_at_call 83; refine (spec.isLetter _ _ (by assumption) _).mono ?_; rintro e wx ⟨rfl, rfl⟩) | (go_at_call 84; refine (spec.isDigit _ _ (by assumption) _).mono ?_; rintro e wx ⟨rfl, rfl⟩) | (go_at_call 85; refine (spec.keywordKind _ _).mono ?_; rintro e wx ⟨rfl, rfl⟩) | (fail))
                go_ret2; exact ⟨hext.out, .inl ⟨hnone.out, rfl⟩⟩
            · have h2' : ¬ (wd.size : Int) < 2 := by omega
              have hx0 := tb_at wd 0 (by omega)
              by_cases h99 : tb wd 0 = 99
              · have hds := size_ext1 wd
                have hcolE : Hid (colOf wd = if wd.size ≤ 6 ∧ (∀ x, x < (wd.extract 1 wd.size).size → isD (tb (wd.extract 1 wd.size) x) = true) ∧ ¬ (1 < (wd.extract 1 wd.size).size ∧ tb (wd.extract 1 wd.size) 0 = 48) ∧ dv (wd.extract 1 wd.size) (wd.extract 1 wd.size).size ≤ 65535
                    then some (dv (wd.extract 1 wd.size) (wd.extract 1 wd.size).size) else none) := by
                  unfold colOf Hid
                  have e1 : 2 ≤ wd.size := by omega
                  simp only [e1, h99, true_and]
                generalize tb wd 0 = c0 at *
                subst h99
                obtain ⟨d, hd⟩ : ∃ d, wd.extract 1 wd.size = d := ⟨_, rfl⟩
                rw [hd] at hds hcolE
                have hdsi : (d.size : Int) ≤ 9223372036854775807 := by omega
                have hwb2 : (wd.size : Int) ≤ 9223372036854775807 := by omega
                replace hwb := hide hwb
                replace hds := hide hds
                --<C
                go_wp2_with (first | (go_at_call 82; refine (spec.isSpace _ _ (by assumption) _).mono ?_; rintro e wx ⟨rfl, rfl⟩) | (go_at_call 83; refine (spec.isLetter _ _ (by assumption) _).mono ?_; rintro e wx ⟨rfl, rfl⟩) | (go_at_call 84; refine (spec.isDigit _ _ (by assumption) _).mono ?_; rintro e wx ⟨rfl, rfl⟩) | (go_at_call 85; refine (spec.keywordKind _ _).mono ?_; rintro e wx ⟨rfl, rfl⟩) | (fail))
                go_loopw [11] (fun xv wr => ∃ x : Nat, xv = .int .i64 x ∧ x ≤ d.size ∧ Hid (∀ y, y < x → isD (tb d y) = true) ∧ W = wr) (fun xv _ => d.size - (intOf xv).toNat)
                case atStart => exact ⟨0, rfl, by omega, fun y hy => by omega, rfl⟩
                obtain ⟨x, rfl, hxs, hall, rfl⟩ := hrel
                by_cases hx : x < d.size
                · have hx' : (x : Int) < d.size := by omega
                  have hxb := tb_at d x hx
                  cases hD : isD (tb d x) with
                  | true =>
                    have hall2 : Hid (∀ y, y < x + 1 → isD (tb d y) = true) := fun y hy => by
                      rcases Nat.lt_or_ge y x with hh | hh
                      · exact hall.out y hh
                      · obtain rfl : y = x := by omega
                        exact hD
                    generalize tb d x = c at hxb hD
                    go_wp2_with (first | (go_at_call 82; refine (spec.isSpace _ _ (by assumption) _).mono ?_; rintro e wx ⟨rfl, rfl⟩) | (go_at_call 83; refine (spec.isLetter _ _ (by assumption) _).mono ?_; rintro e wx ⟨rfl, rfl⟩) | (go_at_call 84; refine (spec.isDigit _ _ (by assumption) _).mono ?_; rintro e wx ⟨rfl, rfl⟩) | (go_at_call 85; refine (spec.keywordKind _ _).mono ?_; rintro e wx ⟨rfl, rfl⟩) | (fail))
                    go_roundw
                    case rel => exact ⟨x + 1, by go_num, by omega, hall2, by trivial⟩
                    case measure => simp [intOf]; omega
                  | false =>
                    have hnone := hide (hcolN.out (by rw [hcolE.out, if_neg]; intro hh; have := hh.2.1 x hx; rw [hD] at this; cases this))
                    generalize tb d x = c at hxb hD
                    as_aux_lemma =>
                      go_wp2_with (first | (go_at_call 82; refine (spec.isSpace _ _ (by assumption) _).mono ?_; rintro e wx ⟨rfl, rfl⟩) | (go_at_call 83; refine (spec.isLetter _ _ (by assumption) _).mono ?_; rintro e wx ⟨rfl, rfl⟩) | (go_at_call 84; refine (spec.isDigit _ _ (by assumption) _).mono ?_; rintro e wx ⟨rfl, rfl⟩) | (go_at_call 85; refine (spec.keywordKind _ _).mono ?_; rintro e wx ⟨rfl, rfl⟩) | (fail))
                      go_ret2; exact ⟨hext.out, .inl ⟨hnone.out, rfl⟩⟩
                · obtain rfl : x = d.size := by omega
                  have hx' : ¬ (d.size : Int) < d.size := by omega
                  by_cases h1 : 1 < d.size
                  · have h1' : 1 < (d.size : Int) := by omega
                    have hx0 := tb_at d 0 (by omega)
                    by_cases h48 : tb d 0 = 48
                    · have hnone := hide (hcolN.out (by rw [hcolE.out, if_neg]; intro hh; exact hh.2.2.1 ⟨h1, h48⟩))
                      generalize tb d 0 = c at hx0 h48
                      subst h48
                      as_aux_lemma =>
                        go_wp2_with (first | (go_at_call 82; refine (spec.isSpace _ _ (by assumption) _).mono ?_; rintro e wx ⟨rfl, rfl⟩) | (go_at_call 83; refine (spec.isLetter _ _ (by assumption) _).mono ?_; rintro e wx ⟨rfl, rfl⟩) | (go_at_call 84; refine (spec.isDigit _ _ (by assumption) _).mono ?_; rintro e wx ⟨rfl, rfl⟩) | (go_at_call 85; refine (spec.keywordKind _ _).mono ?_; rintro e wx ⟨rfl, rfl⟩) | (fail))
                        go_ret2; exact ⟨hext.out, .inl ⟨hnone.out, rfl⟩⟩
                    · have hlz : Hid (¬ (1 < d.size ∧ tb d 0 = 48)) := fun hh => h48 hh.2
                      have h48' : (tb d 0 == 48) = false := by simpa using h48
                      generalize tb d 0 = c at hx0 h48 h48'
                      by_cases h5 : 5 < d.size
                      · have h5' : 5 < (d.size : Int) := by omega
                        have hnone := hide (hcolN.out (by rw [hcolE.out, if_neg]; intro hh; have := hds.out; omega))
                        as_aux_lemma =>
                          go_wp2_with (first | (go_at_call 82; refine (spec.isSpace _ _ (by assumption) _).mono ?_; rintro e wx ⟨rfl, rfl⟩) | (go_at_call 83; refine (spec.isLetter _ _ (by assumption) _).mono ?_; rintro e wx ⟨rfl, rfl⟩) | (go_at_call 84; refine (spec.isDigit _ _ (by assumption) _).mono ?_; rintro e wx ⟨rfl, rfl⟩) | (go_at_call 85; refine (spec.keywordKind _ _).mono ?_; rintro e wx ⟨rfl, rfl⟩) | (fail))
                          go_ret2; exact ⟨hext.out, .inl ⟨hnone.out, rfl⟩⟩
                      · have h5' : ¬ 5 < (d.size : Int) := by omega
                        go_wp2_with (first | (go_at_call 82; refine (spec.isSpace _ _ (by assumption) _).mono ?_; rintro e wx ⟨rfl, rfl⟩) | (go_at_call 83; refine (spec.isLetter _ _ (by assumption) _).mono ?_; rintro e wx ⟨rfl, rfl⟩) | (go_at_call 84; refine (spec.isDigit _ _ (by assumption) _).mono ?_; rintro e wx ⟨rfl, rfl⟩) | (go_at_call 85; refine (spec.keywordKind _ _).mono ?_; rintro e wx ⟨rfl, rfl⟩) | (fail))
                        go_loopw [12, 13] (fun vv xv wr => ∃ x : Nat, xv = .int .i64 x ∧ x ≤ d.size ∧ vv = .int .i64 (dv d x) ∧ W = wr) (fun _ xv _ => d.size - (intOf xv).toNat)
                        case atStart => exact ⟨0, rfl, by omega, rfl, rfl⟩
                        obtain ⟨x, rfl, hxs, rfl, rfl⟩ := hrel
                        have hvb := dv_bound d x (fun y hy => hall.out y (by omega))
                        have hv5 : dv d x < 100000 := by
                          have h5 : x = 0 ∨ x = 1 ∨ x = 2 ∨ x = 3 ∨ x = 4 ∨ x = 5 := by omega
                          rcases h5 with rfl | rfl | rfl | rfl | rfl | rfl <;> simp at hvb ⊢ <;> omega
                        have hv0 := hvb.1
                        clear hvb
                        by_cases hx : x < d.size
                        · have hx' : (x : Int) < d.size := by omega
                          have hxb := tb_at d x hx
                          have hdvs : dv d (x + 1) = dv d x * 10 + (tb d x - 48) := rfl
                          have hr := isD_rng (hall.out x hx)
                          generalize tb d x = c at hxb hdvs hr
                          generalize dv d x = v at hdvs hv5 hv0 ⊢
                          replace hdvs := hide hdvs
                          obtain ⟨hr1, hr2⟩ := hr
                          as_aux_lemma =>
                            go_wp2_with (first | (go_at_call 82; refine (spec.isSpace _ _ (by assumption) _).mono ?_; rintro e wx ⟨rfl, rfl⟩) | (go_at_call 83; refine (spec.isLetter _ _ (by assumption) _).mono ?_; rintro e wx ⟨rfl, rfl⟩) | (go_at_call 84; refine (spec.isDigit _ _ (by assumption) _).mono ?_; rintro e wx ⟨rfl, rfl⟩) | (go_at_call 85; refine (spec.keywordKind _ _).mono ?_; rintro e wx ⟨rfl, rfl⟩) | (fail))
                            go_roundw
                            case rel => exact ⟨x + 1, by go_num, by omega, by rw [hdvs.out], by trivial⟩
                            case measure => simp [intOf]; omega
                        · obtain rfl : x = d.size := by omega
                          by_cases h655 : 65535 < dv d d.size
                          · have hnone := hide (hcolN.out (by rw [hcolE.out, if_neg]; intro hh; have := hh.2.2.2; omega))
                            generalize dv d d.size = v at hv5 hv0 h655 ⊢
                            as_aux_lemma =>
                              go_wp2_with (first | (go_at_call 82; refine (spec.isSpace _ _ (by assumption) _).mono ?_; rintro e wx ⟨rfl, rfl⟩) | (go_at_call 83; refine (spec.isLetter _ _ (by assumption) _).mono ?_; rintro e wx ⟨rfl, rfl⟩) | (go_at_call 84; refine (spec.isDigit _ _ (by assumption) _).mono ?_; rintro e wx ⟨rfl, rfl⟩) | (go_at_call 85; refine (spec.keywordKind _ _).mono ?_; rintro e wx ⟨rfl, rfl⟩) | (fail))
                              go_ret2; exact ⟨hext.out, .inl ⟨hnone.out, rfl⟩⟩
                          · have hst2 := hcolS.out _ (by rw [hcolE.out, if_pos ⟨by have := hds.out; omega, hall.out, hlz.out, by omega⟩])
                            replace hst2 := hide hst2
                            clear hcolN hcolE
                            generalize dv d d.size = v at *
                            as_aux_lemma =>
                              go_wp2_with (first | (go_at_call 82; refine (spec.isSpace _ _ (by assumption) _).mono ?_; rintro e wx ⟨rfl, rfl⟩) | (go_at_call 83; refine (spec.isLetter _ _ (by assumption) _).mono ?_; rintro e wx ⟨rfl, rfl⟩) | (go_at_call 84; refine (spec.isDigit _ _ (by assumption) _).mono ?_; rintro e wx ⟨rfl, rfl⟩) | (go_at_call 85; refine (spec.keywordKind _ _).mono ?_; rintro e wx ⟨rfl, rfl⟩) | (at_builtin; refine app_tok rfl rfl w.heap.size (by simp; omega) _ out 13 v rfl (hown.out.alloc _) W.heap.size 1 (by rfl) (heap_alloc_new W _) hol2.out ?_; intro g2 cap w2 hown2 hgr hor hlt2; replace hgr := hide hgr; replace hown2 := hide hown2; replace hor := hide hor))
                              go_roundw
                              case rel =>
                                obtain ⟨f', e, hf⟩ := hnext.out _ _ (by omega) hst2.out
                                refine ⟨j, f', out ++ [(13, v)], by first | rfl | go_num, by omega, hf, by simp; omega, e, hown2, (hext.out.alloc _).grown hgr.out ?_⟩
                                intro q hq; exact hown.out.block q hq
                              case measure => simp [intOf]; omega
                  · have h1' : ¬ 1 < (d.size : Int) := by omega
                    have hlz : Hid (¬ (1 < d.size ∧ tb d 0 = 48)) := fun hh => h1 hh.1
                    by_cases h5 : 5 < d.size
                    · have h5' : 5 < (d.size : Int) := by omega
                      have hnone := hide (hcolN.out (by rw [hcolE.out, if_neg]; intro hh; have := hds.out; omega))
                      as_aux_lemma =>
                        go_wp2_with (first | (go_at_call 82; refine (spec.isSpace _ _ (by assumption) _).mono ?_; rintro e wx ⟨rfl, rfl⟩) | (go_at_call 83; refine (spec.isLetter _ _ (by assumption) _).mono ?_; rintro e wx ⟨rfl, rfl⟩) | (go_at_call 84; refine (spec.isDigit _ _ (by assumption) _).mono ?_; rintro e wx ⟨rfl, rfl⟩) | (go_at_call 85; refine (spec.keywordKind _ _).mono ?_; rintro e wx ⟨rfl, rfl⟩) | (fail))
                        go_ret2; exact ⟨hext.out, .inl ⟨hnone.out, rfl⟩⟩
                    · have h5' : ¬ 5 < (d.size : Int) := by omega
                      go_wp2_with (first | (go_at_call 82; refine (spec.isSpace _ _ (by assumption) _).mono ?_; rintro e wx ⟨rfl, rfl⟩) | (go_at_call 83; refine (spec.isLetter _ _ (by assumption) _).mono ?_; rintro e wx ⟨rfl, rfl⟩) | (go_at_call 84; refine (spec.isDigit _ _ (by assumption) _).mono ?_; rintro e wx ⟨rfl, rfl⟩) | (go_at_call 85; refine (spec.keywordKind _ _).mono ?_; rintro e wx ⟨rfl, rfl⟩) | (fail))
                      go_loopw [12, 13] (fun vv xv wr => ∃ x : Nat, xv = .int .i64 x ∧ x ≤ d.size ∧ vv = .int .i64 (dv d x) ∧ W = wr) (fun _ xv _ => d.size - (intOf xv).toNat)
                      case atStart => exact ⟨0, rfl, by omega, rfl, rfl⟩
                      obtain ⟨x, rfl, hxs, rfl, rfl⟩ := hrel
                      have hvb := dv_bound d x (fun y hy => hall.out y (by omega))
                      have hv5 : dv d x < 100000 := by
                        have h5 : x = 0 ∨ x = 1 ∨ x = 2 ∨ x = 3 ∨ x = 4 ∨ x = 5 := by omega
                        rcases h5 with rfl | rfl | rfl | rfl | rfl | rfl <;> simp at hvb ⊢ <;> omega
                      have hv0 := hvb.1
                      clear hvb
                      by_cases hx : x < d.size
                      · have hx' : (x : Int) < d.size := by omega
                        have hxb := tb_at d x hx
                        have hdvs : dv d (x + 1) = dv d x * 10 + (tb d x - 48) := rfl
                        have hr := isD_rng (hall.out x hx)
                        generalize tb d x = c at hxb hdvs hr
                        generalize dv d x = v at hdvs hv5 hv0 ⊢
                        replace hdvs := hide hdvs
                        obtain ⟨hr1, hr2⟩ := hr
                        as_aux_lemma =>
                          go_wp2_with (first | (go_at_call 82; refine (spec.isSpace _ _ (by assumption) _).mono ?_; rintro e wx ⟨rfl, rfl⟩) | (go_at_call 83; refine (spec.isLetter _ _ (by assumption) _).mono ?_; rintro e wx ⟨rfl, rfl⟩) | (go_at_call 84; refine (spec.isDigit _ _ (by assumption) _).mono ?_; rintro e wx ⟨rfl, rfl⟩) | (go_at_call 85; refine (spec.keywordKind _ _).mono ?_; rintro e wx ⟨rfl, rfl⟩) | (fail))
                          go_roundw
                          case rel => exact ⟨x + 1, by go_num, by omega, by rw [hdvs.out], by trivial⟩
                          case measure => simp [intOf]; omega
                      · obtain rfl : x = d.size := by omega
                        by_cases h655 : 65535 < dv d d.size
                        · have hnone := hide (hcolN.out (by rw [hcolE.out, if_neg]; intro hh; have := hh.2.2.2; omega))
                          generalize dv d d.size = v at hv5 hv0 h655 ⊢
                          as_aux_lemma =>
                            go_wp2_with (first | (go_at_call 82; refine (spec.isSpace _ _ (by assumption) _).mono ?_; rintro e wx ⟨rfl, rfl⟩) | (go_at_call 83; refine (spec.isLetter _ _ (by assumption) _).mono ?_; rintro e wx ⟨rfl, rfl⟩) | (go_at_call 84; refine (spec.isDigit _ _ (by assumption) _).mono ?_; rintro e wx ⟨rfl, rfl⟩) | (go_at_call 85; refine (spec.keywordKind _ _).mono ?_; rintro e wx ⟨rfl, rfl⟩) | (fail))
                            go_ret2; exact ⟨hext.out, .inl ⟨hnone.out, rfl⟩⟩
                        · have hst2 := hcolS.out _ (by rw [hcolE.out, if_pos ⟨by have := hds.out; omega, hall.out, hlz.out, by omega⟩])
                          replace hst2 := hide hst2
                          clear hcolN hcolE
                          generalize dv d d.size = v at *
                          as_aux_lemma =>
                            go_wp2_with (first | (go_at_call 82; refine (spec.isSpace _ _ (by assumption) _).mono ?_; rintro e wx ⟨rfl, rfl⟩) | (go_at_call 83; refine (spec.isLetter _ _ (by assumption) _).mono ?_; rintro e wx ⟨rfl, rfl⟩) | (go_at_call 84; refine (spec.isDigit _ _ (by assumption) _).mono ?_; rintro e wx ⟨rfl, rfl⟩) | (go_at_call 85; refine (spec.keywordKind _ _).mono ?_; rintro e wx ⟨rfl, rfl⟩) | (at_builtin; refine app_tok rfl rfl w.heap.size (by simp; omega) _ out 13 v rfl (hown.out.alloc _) W.heap.size 1 (by rfl) (heap_alloc_new W _) hol2.out ?_; intro g2 cap w2 hown2 hgr hor hlt2; replace hgr := hide hgr; replace hown2 := hide hown2; replace hor := hide hor))
                            go_roundw
                            case rel =>
                              obtain ⟨f', e, hf⟩ := hnext.out _ _ (by omega) hst2.out
                              refine ⟨j, f', out ++ [(13, v)], by first | rfl | go_num, by omega, hf, by simp; omega, e, hown2, (hext.out.alloc _).grown hgr.out ?_⟩
                              intro q hq; exact hown.out.block q hq
                            case measure => simp [intOf]; omega
                --C>
              · have h99' : (tb wd 0 == 99) = false := by simpa using h99
                have h99n : (tb wd 0 != 99) = true := by simp [h99]
                have hnone := hide (hcolN.out (by unfold colOf; rw [if_neg (by omega)]))
                generalize tb wd 0 = c0 at *
                as_aux_lemma =>
                  go_wp2_with (first | (go_at_call 82; refine (spec.isSpace _ _ (by assumption) _).mono ?_; rintro e wx ⟨rfl, rfl⟩) | (go_at_call 83; refine (spec.isLetter _ _ (by assumption) _).mono ?_; rintro e wx ⟨rfl, rfl⟩) | (go_at_call 84; refine (spec.isDigit _ _ (by assumption) _).mono ?_; rintro e wx ⟨rfl, rfl⟩) | (go_at_call 85; refine (spec.keywordKind _ _).mono ?_; rintro e wx ⟨rfl, rfl⟩) | (fail))
                  go_ret2; exact ⟨hext.out, .inl ⟨hnone.out, rfl⟩⟩
          · have hkb : (kk == 0) = false := by simpa using hk0
            have hst2 := hst.out
            simp only [word, hkk, hk0, if_false] at hst2
            clear hk0 hst
            replace hst2 := hide hst2
            as_aux_lemma =>
              go_wp2_with (first | (go_at_call 82; refine (spec.isSpace _ _ (by assumption) _).mono ?_; rintro e wx ⟨rfl, rfl⟩) | (go_at_call 83; refine (spec.isLetter _ _ (by assumption) _).mono ?_; rintro e wx ⟨rfl, rfl⟩) | (go_at_call 84; refine (spec.isDigit _ _ (by assumption) _).mono ?_; rintro e wx ⟨rfl, rfl⟩) | (go_at_call 85; refine (spec.keywordKind _ _).mono ?_; rintro e wx ⟨rfl, rfl⟩) | (at_builtin; refine app_tok rfl rfl w.heap.size (by simp; omega) _ out kk 0 rfl (hown.out.alloc _) W.heap.size 1 (by rfl) (heap_alloc_new W _) hol2.out ?_; intro g2 cap w2 hown2 hgr hor hlt2; replace hgr := hide hgr; replace hown2 := hide hown2; replace hor := hide hor))
              go_roundw
              case rel =>
                obtain ⟨f', e, hf⟩ := hnext.out _ _ (by omega) hst2.out
                refine ⟨j, f', out ++ [(kk, 0)], by first | rfl | go_num, by omega, hf, by simp; omega, e, hown2, (hext.out.alloc _).grown hgr.out ?_⟩
                intro q hq; exact hown.out.block q hq
              case measure => simp [intOf]; omega
        --L>
      · have hS' : isS (tb s k) = false := by simpa using hS
        have hL' : isL (tb s k) = false := by simpa using hL
        clear hS hL
        cases hD : isD (tb s k) with
        | true =>
          --<D
          have hst := step_num hD
          obtain ⟨N, hN⟩ : ∃ N, nm s s.size k 0 = N := ⟨_, rfl⟩
          rw [hN] at hst
          replace hN := hide hN
          replace hst := hide hst
          generalize hbb : tb s k = b at *
          replace hbb := hide hbb
          have hWs := hext.out.size
          go_wp2_with (first | (go_at_call 82; refine (spec.isSpace _ _ (by assumption) _).mono ?_; rintro e wx ⟨rfl, rfl⟩) | (go_at_call 83; refine (spec.isLetter _ _ (by assumption) _).mono ?_; rintro e wx ⟨rfl, rfl⟩) | (go_at_call 84; refine (spec.isDigit _ _ (by assumption) _).mono ?_; rintro e wx ⟨rfl, rfl⟩) | (go_at_call 85; refine (spec.keywordKind _ _).mono ?_; rintro e wx ⟨rfl, rfl⟩) | (fail))
          go_loopw [14, 15] (fun jv vv wr => ∃ (j f : Nat) (v : Int), jv = .int .i64 j ∧ vv = .int .i64 v ∧ k ≤ j ∧ j ≤ s.size ∧ s.size - j ≤ f ∧ 0 ≤ v ∧ v ≤ 9223372036854775807 ∧ Hid (nm s f j v = N) ∧ W = wr) (fun jv _ _ => s.size - (intOf jv).toNat)
          case atStart => exact ⟨k, s.size, 0, rfl, rfl, by omega, by omega, by omega, by omega, by omega, hN, rfl⟩
          replace hD := hide hD
          replace hL' := hide hL'
          clear hS' hbyte b0 b1
          obtain ⟨j, f, v, rfl, rfl, hkj, hjs, hf, hv0, hv1, hnm, rfl⟩ := hrel
          by_cases hj : j < s.size
          · have hj' : (j : Int) < s.size := by omega
            have hbyte := tb_at s j hj
            cases hcD : isD (tb s j) with
            | true =>
              have hr := isD_rng hcD
              obtain ⟨q, hq⟩ : ∃ q, (9223372036854775807 - (tb s j - 48)) / 10 = q := ⟨_, rfl⟩
              have hqt : Int.tdiv (9223372036854775807 - (tb s j - 48)) 10 = q := by rw [Int.tdiv_eq_ediv_of_nonneg (by omega)]; exact hq
              by_cases hov : q < v
              · have hnone := hide (hfail.out (by rw [hst.out, ← hnm.out, nm_none ⟨hj, hcD⟩ hf (by rw [hq]; exact hov)]))
                generalize tb s j = c at *
                obtain ⟨hr1, hr2⟩ := hr
                have hq0 : 0 ≤ q := by omega
                have hq1 : q < 922337203685477581 := by omega
                replace hq := hide hq
                as_aux_lemma =>
                  go_wp2_with (first | (go_at_call 82; refine (spec.isSpace _ _ (by assumption) _).mono ?_; rintro e wx ⟨rfl, rfl⟩) | (go_at_call 83; refine (spec.isLetter _ _ (by assumption) _).mono ?_; rintro e wx ⟨rfl, rfl⟩) | (go_at_call 84; refine (spec.isDigit _ _ (by assumption) _).mono ?_; rintro e wx ⟨rfl, rfl⟩) | (go_at_call 85; refine (spec.keywordKind _ _).mono ?_; rintro e wx ⟨rfl, rfl⟩) | (fail))
                  go_ret2; exact ⟨hext.out, .inl ⟨hnone.out, rfl⟩⟩
              · obtain ⟨f', e, hf'⟩ := nm_go ⟨hj, hcD⟩ hf (by rw [hq]; exact hov)
                rw [hnm.out] at e
                generalize tb s j = c at *
                obtain ⟨hr1, hr2⟩ := hr
                have hv2 : v * 10 + (c - 48) ≤ 9223372036854775807 := by omega
                have hv3 : v * 10 ≤ 9223372036854775807 := by omega
                have hq0 : 0 ≤ q := by omega
                have hq1 : q < 922337203685477581 := by omega
                replace hq := hide hq
                replace e := hide e
                go_wp2_with (first | (go_at_call 82; refine (spec.isSpace _ _ (by assumption) _).mono ?_; rintro e wx ⟨rfl, rfl⟩) | (go_at_call 83; refine (spec.isLetter _ _ (by assumption) _).mono ?_; rintro e wx ⟨rfl, rfl⟩) | (go_at_call 84; refine (spec.isDigit _ _ (by assumption) _).mono ?_; rintro e wx ⟨rfl, rfl⟩) | (go_at_call 85; refine (spec.keywordKind _ _).mono ?_; rintro e wx ⟨rfl, rfl⟩) | (fail))
                go_roundw
                case rel => exact ⟨j + 1, f', v * 10 + (c - 48), by go_num, by first | rfl | go_num, by omega, by omega, hf', by omega, hv2, e.out.symm, by trivial⟩
                case measure => simp [intOf]; omega
            | false =>
              have hNs : N = some (j, v) := by rw [← hnm.out]; exact nm_stop (by simp [hcD])
              have hkj' : k < j := by
                rcases Nat.lt_or_ge k j with hh | hh
                · exact hh
                · obtain rfl : k = j := by omega
                  rw [hbb.out, hD.out] at hcD; cases hcD
              rw [hNs] at hst
              clear hnm hN
              subst hNs
              cases hcL : isL (tb s j) with
              | true =>
                have hnone := hide (hfail.out (by rw [hst.out]; simp [numTok, hj, hcL]))
                generalize tb s j = c at hbyte hcD hcL
                as_aux_lemma =>
                  go_wp2_with (first | (go_at_call 82; refine (spec.isSpace _ _ (by assumption) _).mono ?_; rintro e wx ⟨rfl, rfl⟩) | (go_at_call 83; refine (spec.isLetter _ _ (by assumption) _).mono ?_; rintro e wx ⟨rfl, rfl⟩) | (go_at_call 84; refine (spec.isDigit _ _ (by assumption) _).mono ?_; rintro e wx ⟨rfl, rfl⟩) | (go_at_call 85; refine (spec.keywordKind _ _).mono ?_; rintro e wx ⟨rfl, rfl⟩) | (fail))
                  go_ret2; exact ⟨hext.out, .inl ⟨hnone.out, rfl⟩⟩
              | false =>
                by_cases h95 : tb s j = 95
                · have hnone := hide (hfail.out (by rw [hst.out]; simp [numTok, hj, h95]))
                  generalize tb s j = c at hbyte hcD hcL h95
                  subst h95
                  as_aux_lemma =>
                    go_wp2_with (first | (go_at_call 82; refine (spec.isSpace _ _ (by assumption) _).mono ?_; rintro e wx ⟨rfl, rfl⟩) | (go_at_call 83; refine (spec.isLetter _ _ (by assumption) _).mono ?_; rintro e wx ⟨rfl, rfl⟩) | (go_at_call 84; refine (spec.isDigit _ _ (by assumption) _).mono ?_; rintro e wx ⟨rfl, rfl⟩) | (go_at_call 85; refine (spec.keywordKind _ _).mono ?_; rintro e wx ⟨rfl, rfl⟩) | (fail))
                    go_ret2; exact ⟨hext.out, .inl ⟨hnone.out, rfl⟩⟩
                · have hst2 : step s k = some (j, [(14, v)]) := by rw [hst.out]; simp [numTok, hcL, h95]
                  have h95' : (tb s j == 95) = false := by simpa using h95
                  generalize tb s j = c at hbyte hcD hcL h95 h95'
                  replace hst2 := hide hst2
                  as_aux_lemma =>
                    go_wp2_with (first | (go_at_call 82; refine (spec.isSpace _ _ (by assumption) _).mono ?_; rintro e wx ⟨rfl, rfl⟩) | (go_at_call 83; refine (spec.isLetter _ _ (by assumption) _).mono ?_; rintro e wx ⟨rfl, rfl⟩) | (go_at_call 84; refine (spec.isDigit _ _ (by assumption) _).mono ?_; rintro e wx ⟨rfl, rfl⟩) | (go_at_call 85; refine (spec.keywordKind _ _).mono ?_; rintro e wx ⟨rfl, rfl⟩) | (at_builtin; refine app_tok rfl rfl w.heap.size (by simp; omega) _ out 14 v rfl (hown.out.alloc _) W.heap.size 1 (by rfl) (heap_alloc_new W _) hol2.out ?_; intro g2 cap w2 hown2 hgr hor hlt2; replace hgr := hide hgr; replace hown2 := hide hown2; replace hor := hide hor))
                    go_roundw
                    case rel =>
                      obtain ⟨f', e, hf⟩ := hnext.out _ _ (by omega) hst2.out
                      refine ⟨j, f', out ++ [(14, v)], by first | rfl | go_num, by omega, hf, by simp; omega, e, hown2, (hext.out.alloc _).grown hgr.out ?_⟩
                      intro q hq; exact hown.out.block q hq
                    case measure => simp [intOf]; omega
          · have hj' : ¬ (j : Int) < s.size := by omega
            have hNs : N = some (j, v) := by rw [← hnm.out]; exact nm_stop (by simp [hj])
            have hkj' : k < j := by omega
            rw [hNs] at hst
            clear hnm hN
            subst hNs
            have hst2 : step s k = some (j, [(14, v)]) := by rw [hst.out]; simp [numTok, hj]
            replace hst2 := hide hst2
            as_aux_lemma =>
              go_wp2_with (first | (go_at_call 82; refine (spec.isSpace _ _ (by assumption) _).mono ?_; rintro e wx ⟨rfl, rfl⟩) | (go_at_call 83; refine (spec.isLetter _ _ (by assumption) _).mono ?_; rintro e wx ⟨rfl, rfl⟩) | (go_at_call 84; refine (spec.isDigit _ _ (by assumption) _).mono ?_; rintro e wx ⟨rfl, rfl⟩) | (go_at_call 85; refine (spec.keywordKind _ _).mono ?_; rintro e wx ⟨rfl, rfl⟩) | (at_builtin; refine app_tok rfl rfl w.heap.size (by simp; omega) _ out 14 v rfl (hown.out.alloc _) W.heap.size 1 (by rfl) (heap_alloc_new W _) hol2.out ?_; intro g2 cap w2 hown2 hgr hor hlt2; replace hgr := hide hgr; replace hown2 := hide hown2; replace hor := hide hor))
              go_roundw
              case rel =>
                obtain ⟨f', e, hf⟩ := hnext.out _ _ (by omega) hst2.out
                refine ⟨j, f', out ++ [(14, v)], by first | rfl | go_num, by omega, hf, by simp; omega, e, hown2, (hext.out.alloc _).grown hgr.out ?_⟩
                intro q hq; exact hown.out.block q hq
              case measure => simp [intOf]; omega
          --D>
        | false =>
          have hst := step_pun hS' hL' hD
          have hWs := hext.out.size
          by_cases hn1 : k + 1 < s.size
          ·
            --<P
            have hn1' : (k : Int) + 1 < s.size := by omega
            have hnby := tb_at s (k + 1) hn1
            have hnx : nxt s k = tb s (k + 1) := by unfold nxt; rw [if_pos hn1]
            rw [hnx] at hst
            clear hnx
            generalize tb s (k + 1) = nb at *
            generalize tb s k = b at *
            replace hst := hide hst
            by_cases h40 : b = 40
            · subst h40
              have hst2 : step s k = some (k + 1, [(15, 0)]) := by rw [hst.out]; rfl
              replace hst2 := hide hst2
              as_aux_lemma =>
                go_wp2_with (first | (go_at_call 82; refine (spec.isSpace _ _ (by assumption) _).mono ?_; rintro e wx ⟨rfl, rfl⟩) | (go_at_call 83; refine (spec.isLetter _ _ (by assumption) _).mono ?_; rintro e wx ⟨rfl, rfl⟩) | (go_at_call 84; refine (spec.isDigit _ _ (by assumption) _).mono ?_; rintro e wx ⟨rfl, rfl⟩) | (go_at_call 85; refine (spec.keywordKind _ _).mono ?_; rintro e wx ⟨rfl, rfl⟩) | (at_builtin; refine app_tok rfl rfl w.heap.size (by simp; omega) _ out 15 0 rfl (hown.out.alloc _) W.heap.size 1 (by rfl) (heap_alloc_new W _) hol2.out ?_; intro g2 cap w2 hown2 hgr hor hlt2; replace hgr := hide hgr; replace hown2 := hide hown2; replace hor := hide hor))
                go_roundw
                case rel =>
                  obtain ⟨f', e, hf⟩ := hnext.out _ _ (by omega) hst2.out
                  refine ⟨k + 1, f', out ++ [(15, 0)], by first | rfl | go_num, by omega, hf, by simp; omega, e, hown2, (hext.out.alloc _).grown hgr.out ?_⟩
                  intro q hq; exact hown.out.block q hq
                case measure => simp [intOf]; omega
            by_cases h41 : b = 41
            · subst h41
              have hst2 : step s k = some (k + 1, [(16, 0)]) := by rw [hst.out]; rfl
              replace hst2 := hide hst2
              as_aux_lemma =>
                go_wp2_with (first | (go_at_call 82; refine (spec.isSpace _ _ (by assumption) _).mono ?_; rintro e wx ⟨rfl, rfl⟩) | (go_at_call 83; refine (spec.isLetter _ _ (by assumption) _).mono ?_; rintro e wx ⟨rfl, rfl⟩) | (go_at_call 84; refine (spec.isDigit _ _ (by assumption) _).mono ?_; rintro e wx ⟨rfl, rfl⟩) | (go_at_call 85; refine (spec.keywordKind _ _).mono ?_; rintro e wx ⟨rfl, rfl⟩) | (at_builtin; refine app_tok rfl rfl w.heap.size (by simp; omega) _ out 16 0 rfl (hown.out.alloc _) W.heap.size 1 (by rfl) (heap_alloc_new W _) hol2.out ?_; intro g2 cap w2 hown2 hgr hor hlt2; replace hgr := hide hgr; replace hown2 := hide hown2; replace hor := hide hor))
                go_roundw
                case rel =>
                  obtain ⟨f', e, hf⟩ := hnext.out _ _ (by omega) hst2.out
                  refine ⟨k + 1, f', out ++ [(16, 0)], by first | rfl | go_num, by omega, hf, by simp; omega, e, hown2, (hext.out.alloc _).grown hgr.out ?_⟩
                  intro q hq; exact hown.out.block q hq
                case measure => simp [intOf]; omega
            by_cases h44 : b = 44
            · subst h44
              have hst2 : step s k = some (k + 1, [(17, 0)]) := by rw [hst.out]; rfl
              replace hst2 := hide hst2
              as_aux_lemma =>
                go_wp2_with (first | (go_at_call 82; refine (spec.isSpace _ _ (by assumption) _).mono ?_; rintro e wx ⟨rfl, rfl⟩) | (go_at_call 83; refine (spec.isLetter _ _ (by assumption) _).mono ?_; rintro e wx ⟨rfl, rfl⟩) | (go_at_call 84; refine (spec.isDigit _ _ (by assumption) _).mono ?_; rintro e wx ⟨rfl, rfl⟩) | (go_at_call 85; refine (spec.keywordKind _ _).mono ?_; rintro e wx ⟨rfl, rfl⟩) | (at_builtin; refine app_tok rfl rfl w.heap.size (by simp; omega) _ out 17 0 rfl (hown.out.alloc _) W.heap.size 1 (by rfl) (heap_alloc_new W _) hol2.out ?_; intro g2 cap w2 hown2 hgr hor hlt2; replace hgr := hide hgr; replace hown2 := hide hown2; replace hor := hide hor))
                go_roundw
                case rel =>
                  obtain ⟨f', e, hf⟩ := hnext.out _ _ (by omega) hst2.out
                  refine ⟨k + 1, f', out ++ [(17, 0)], by first | rfl | go_num, by omega, hf, by simp; omega, e, hown2, (hext.out.alloc _).grown hgr.out ?_⟩
                  intro q hq; exact hown.out.block q hq
                case measure => simp [intOf]; omega
            by_cases h42 : b = 42
            · subst h42
              have hst2 : step s k = some (k + 1, [(18, 0)]) := by rw [hst.out]; rfl
              replace hst2 := hide hst2
              as_aux_lemma =>
                go_wp2_with (first | (go_at_call 82; refine (spec.isSpace _ _ (by assumption) _).mono ?_; rintro e wx ⟨rfl, rfl⟩) | (go_at_call 83; refine (spec.isLetter _ _ (by assumption) _).mono ?_; rintro e wx ⟨rfl, rfl⟩) | (go_at_call 84; refine (spec.isDigit _ _ (by assumption) _).mono ?_; rintro e wx ⟨rfl, rfl⟩) | (go_at_call 85; refine (spec.keywordKind _ _).mono ?_; rintro e wx ⟨rfl, rfl⟩) | (at_builtin; refine app_tok rfl rfl w.heap.size (by simp; omega) _ out 18 0 rfl (hown.out.alloc _) W.heap.size 1 (by rfl) (heap_alloc_new W _) hol2.out ?_; intro g2 cap w2 hown2 hgr hor hlt2; replace hgr := hide hgr; replace hown2 := hide hown2; replace hor := hide hor))
                go_roundw
                case rel =>
                  obtain ⟨f', e, hf⟩ := hnext.out _ _ (by omega) hst2.out
                  refine ⟨k + 1, f', out ++ [(18, 0)], by first | rfl | go_num, by omega, hf, by simp; omega, e, hown2, (hext.out.alloc _).grown hgr.out ?_⟩
                  intro q hq; exact hown.out.block q hq
                case measure => simp [intOf]; omega
            by_cases h43 : b = 43
            · subst h43
              have hst2 : step s k = some (k + 1, [(19, 0)]) := by rw [hst.out]; rfl
              replace hst2 := hide hst2
              as_aux_lemma =>
                go_wp2_with (first | (go_at_call 82; refine (spec.isSpace _ _ (by assumption) _).mono ?_; rintro e wx ⟨rfl, rfl⟩) | (go_at_call 83; refine (spec.isLetter _ _ (by assumption) _).mono ?_; rintro e wx ⟨rfl, rfl⟩) | (go_at_call 84; refine (spec.isDigit _ _ (by assumption) _).mono ?_; rintro e wx ⟨rfl, rfl⟩) | (go_at_call 85; refine (spec.keywordKind _ _).mono ?_; rintro e wx ⟨rfl, rfl⟩) | (at_builtin; refine app_tok rfl rfl w.heap.size (by simp; omega) _ out 19 0 rfl (hown.out.alloc _) W.heap.size 1 (by rfl) (heap_alloc_new W _) hol2.out ?_; intro g2 cap w2 hown2 hgr hor hlt2; replace hgr := hide hgr; replace hown2 := hide hown2; replace hor := hide hor))
                go_roundw
                case rel =>
                  obtain ⟨f', e, hf⟩ := hnext.out _ _ (by omega) hst2.out
                  refine ⟨k + 1, f', out ++ [(19, 0)], by first | rfl | go_num, by omega, hf, by simp; omega, e, hown2, (hext.out.alloc _).grown hgr.out ?_⟩
                  intro q hq; exact hown.out.block q hq
                case measure => simp [intOf]; omega
            by_cases h45 : b = 45
            · subst h45
              have hst2 : step s k = some (k + 1, [(20, 0)]) := by rw [hst.out]; rfl
              replace hst2 := hide hst2
              as_aux_lemma =>
                go_wp2_with (first | (go_at_call 82; refine (spec.isSpace _ _ (by assumption) _).mono ?_; rintro e wx ⟨rfl, rfl⟩) | (go_at_call 83; refine (spec.isLetter _ _ (by assumption) _).mono ?_; rintro e wx ⟨rfl, rfl⟩) | (go_at_call 84; refine (spec.isDigit _ _ (by assumption) _).mono ?_; rintro e wx ⟨rfl, rfl⟩) | (go_at_call 85; refine (spec.keywordKind _ _).mono ?_; rintro e wx ⟨rfl, rfl⟩) | (at_builtin; refine app_tok rfl rfl w.heap.size (by simp; omega) _ out 20 0 rfl (hown.out.alloc _) W.heap.size 1 (by rfl) (heap_alloc_new W _) hol2.out ?_; intro g2 cap w2 hown2 hgr hor hlt2; replace hgr := hide hgr; replace hown2 := hide hown2; replace hor := hide hor))
                go_roundw
                case rel =>
                  obtain ⟨f', e, hf⟩ := hnext.out _ _ (by omega) hst2.out
                  refine ⟨k + 1, f', out ++ [(20, 0)], by first | rfl | go_num, by omega, hf, by simp; omega, e, hown2, (hext.out.alloc _).grown hgr.out ?_⟩
                  intro q hq; exact hown.out.block q hq
                case measure => simp [intOf]; omega
            by_cases h61 : b = 61
            · subst h61
              have hst2 : step s k = some (k + 1, [(21, 0)]) := by rw [hst.out]; rfl
              replace hst2 := hide hst2
              as_aux_lemma =>
                go_wp2_with (first | (go_at_call 82; refine (spec.isSpace _ _ (by assumption) _).mono ?_; rintro e wx ⟨rfl, rfl⟩) | (go_at_call 83; refine (spec.isLetter _ _ (by assumption) _).mono ?_; rintro e wx ⟨rfl, rfl⟩) | (go_at_call 84; refine (spec.isDigit _ _ (by assumption) _).mono ?_; rintro e wx ⟨rfl, rfl⟩) | (go_at_call 85; refine (spec.keywordKind _ _).mono ?_; rintro e wx ⟨rfl, rfl⟩) | (at_builtin; refine app_tok rfl rfl w.heap.size (by simp; omega) _ out 21 0 rfl (hown.out.alloc _) W.heap.size 1 (by rfl) (heap_alloc_new W _) hol2.out ?_; intro g2 cap w2 hown2 hgr hor hlt2; replace hgr := hide hgr; replace hown2 := hide hown2; replace hor := hide hor))
                go_roundw
                case rel =>
                  obtain ⟨f', e, hf⟩ := hnext.out _ _ (by omega) hst2.out
                  refine ⟨k + 1, f', out ++ [(21, 0)], by first | rfl | go_num, by omega, hf, by simp; omega, e, hown2, (hext.out.alloc _).grown hgr.out ?_⟩
                  intro q hq; exact hown.out.block q hq
                case measure => simp [intOf]; omega
            by_cases h60 : b = 60
            · subst h60
              by_cases h62 : nb = 62
              · subst h62
                have hst2 : step s k = some (k + 2, [(22, 0)]) := by rw [hst.out]; rfl
                replace hst2 := hide hst2
                as_aux_lemma =>
                  go_wp2_with (first | (go_at_call 82; refine (spec.isSpace _ _ (by assumption) _).mono ?_; rintro e wx ⟨rfl, rfl⟩) | (go_at_call 83; refine (spec.isLetter _ _ (by assumption) _).mono ?_; rintro e wx ⟨rfl, rfl⟩) | (go_at_call 84; refine (spec.isDigit _ _ (by assumption) _).mono ?_; rintro e wx ⟨rfl, rfl⟩) | (go_at_call 85; refine (spec.keywordKind _ _).mono ?_; rintro e wx ⟨rfl, rfl⟩) | (at_builtin; refine app_tok rfl rfl w.heap.size (by simp; omega) _ out 22 0 rfl (hown.out.alloc _) W.heap.size 1 (by rfl) (heap_alloc_new W _) hol2.out ?_; intro g2 cap w2 hown2 hgr hor hlt2; replace hgr := hide hgr; replace hown2 := hide hown2; replace hor := hide hor))
                  go_roundw
                  case rel =>
                    obtain ⟨f', e, hf⟩ := hnext.out _ _ (by omega) hst2.out
                    refine ⟨k + 2, f', out ++ [(22, 0)], by first | rfl | go_num, by omega, hf, by simp; omega, e, hown2, (hext.out.alloc _).grown hgr.out ?_⟩
                    intro q hq; exact hown.out.block q hq
                  case measure => simp [intOf]; omega
              · by_cases h61 : nb = 61
                · subst h61
                  have hst2 : step s k = some (k + 2, [(24, 0)]) := by rw [hst.out]; rfl
                  replace hst2 := hide hst2
                  as_aux_lemma =>
                    go_wp2_with (first | (go_at_call 82; refine (spec.isSpace _ _ (by assumption) _).mono ?_; rintro e wx ⟨rfl, rfl⟩) | (go_at_call 83; refine (spec.isLetter _ _ (by assumption) _).mono ?_; rintro e wx ⟨rfl, rfl⟩) | (go_at_call 84; refine (spec.isDigit _ _ (by assumption) _).mono ?_; rintro e wx ⟨rfl, rfl⟩) | (go_at_call 85; refine (spec.keywordKind _ _).mono ?_; rintro e wx ⟨rfl, rfl⟩) | (at_builtin; refine app_tok rfl rfl w.heap.size (by simp; omega) _ out 24 0 rfl (hown.out.alloc _) W.heap.size 1 (by rfl) (heap_alloc_new W _) hol2.out ?_; intro g2 cap w2 hown2 hgr hor hlt2; replace hgr := hide hgr; replace hown2 := hide hown2; replace hor := hide hor))
                    go_roundw
                    case rel =>
                      obtain ⟨f', e, hf⟩ := hnext.out _ _ (by omega) hst2.out
                      refine ⟨k + 2, f', out ++ [(24, 0)], by first | rfl | go_num, by omega, hf, by simp; omega, e, hown2, (hext.out.alloc _).grown hgr.out ?_⟩
                      intro q hq; exact hown.out.block q hq
                    case measure => simp [intOf]; omega
                · have hst2 : step s k = some (k + 1, [(23, 0)]) := by rw [hst.out]; simp [pun, h61, h62]
                  have g1 : (nb == 62) = false := by simpa using h62
                  have g2 : (nb == 61) = false := by simpa using h61
                  replace hst2 := hide hst2
                  as_aux_lemma =>
                    go_wp2_with (first | (go_at_call 82; refine (spec.isSpace _ _ (by assumption) _).mono ?_; rintro e wx ⟨rfl, rfl⟩) | (go_at_call 83; refine (spec.isLetter _ _ (by assumption) _).mono ?_; rintro e wx ⟨rfl, rfl⟩) | (go_at_call 84; refine (spec.isDigit _ _ (by assumption) _).mono ?_; rintro e wx ⟨rfl, rfl⟩) | (go_at_call 85; refine (spec.keywordKind _ _).mono ?_; rintro e wx ⟨rfl, rfl⟩) | (at_builtin; refine app_tok rfl rfl w.heap.size (by simp; omega) _ out 23 0 rfl (hown.out.alloc _) W.heap.size 1 (by rfl) (heap_alloc_new W _) hol2.out ?_; intro g2 cap w2 hown2 hgr hor hlt2; replace hgr := hide hgr; replace hown2 := hide hown2; replace hor := hide hor))
                    go_roundw
                    case rel =>
                      obtain ⟨f', e, hf⟩ := hnext.out _ _ (by omega) hst2.out
                      refine ⟨k + 1, f', out ++ [(23, 0)], by first | rfl | go_num, by omega, hf, by simp; omega, e, hown2, (hext.out.alloc _).grown hgr.out ?_⟩
                      intro q hq; exact hown.out.block q hq
                    case measure => simp [intOf]; omega
            · by_cases h62 : b = 62
              · subst h62
                by_cases h61 : nb = 61
                · subst h61
                  have hst2 : step s k = some (k + 2, [(26, 0)]) := by rw [hst.out]; rfl
                  replace hst2 := hide hst2
                  as_aux_lemma =>
                    go_wp2_with (first | (go_at_call 82; refine (spec.isSpace _ _ (by assumption) _).mono ?_; rintro e wx ⟨rfl, rfl⟩) | (go_at_call 83; refine (spec.isLetter _ _ (by assumption) _).mono ?_; rintro e wx ⟨rfl, rfl⟩) | (go_at_call 84; refine (spec.isDigit _ _ (by assumption) _).mono ?_; rintro e wx ⟨rfl, rfl⟩) | (go_at_call 85; refine (spec.keywordKind _ _).mono ?_; rintro e wx ⟨rfl, rfl⟩) | (at_builtin; refine app_tok rfl rfl w.heap.size (by simp; omega) _ out 26 0 rfl (hown.out.alloc _) W.heap.size 1 (by rfl) (heap_alloc_new W _) hol2.out ?_; intro g2 cap w2 hown2 hgr hor hlt2; replace hgr := hide hgr; replace hown2 := hide hown2; replace hor := hide hor))
                    go_roundw
                    case rel =>
                      obtain ⟨f', e, hf⟩ := hnext.out _ _ (by omega) hst2.out
                      refine ⟨k + 2, f', out ++ [(26, 0)], by first | rfl | go_num, by omega, hf, by simp; omega, e, hown2, (hext.out.alloc _).grown hgr.out ?_⟩
                      intro q hq; exact hown.out.block q hq
                    case measure => simp [intOf]; omega
                · have hst2 : step s k = some (k + 1, [(25, 0)]) := by rw [hst.out]; simp [pun, h61]
                  have g2 : (nb == 61) = false := by simpa using h61
                  replace hst2 := hide hst2
                  as_aux_lemma =>
                    go_wp2_with (first | (go_at_call 82; refine (spec.isSpace _ _ (by assumption) _).mono ?_; rintro e wx ⟨rfl, rfl⟩) | (go_at_call 83; refine (spec.isLetter _ _ (by assumption) _).mono ?_; rintro e wx ⟨rfl, rfl⟩) | (go_at_call 84; refine (spec.isDigit _ _ (by assumption) _).mono ?_; rintro e wx ⟨rfl, rfl⟩) | (go_at_call 85; refine (spec.keywordKind _ _).mono ?_; rintro e wx ⟨rfl, rfl⟩) | (at_builtin; refine app_tok rfl rfl w.heap.size (by simp; omega) _ out 25 0 rfl (hown.out.alloc _) W.heap.size 1 (by rfl) (heap_alloc_new W _) hol2.out ?_; intro g2 cap w2 hown2 hgr hor hlt2; replace hgr := hide hgr; replace hown2 := hide hown2; replace hor := hide hor))
                    go_roundw
                    case rel =>
                      obtain ⟨f', e, hf⟩ := hnext.out _ _ (by omega) hst2.out
                      refine ⟨k + 1, f', out ++ [(25, 0)], by first | rfl | go_num, by omega, hf, by simp; omega, e, hown2, (hext.out.alloc _).grown hgr.out ?_⟩
                      intro q hq; exact hown.out.block q hq
                    case measure => simp [intOf]; omega
              ·
                have hnone := hide (hfail.out (by rw [hst.out]; simp [pun, h40, h41, h44, h42, h43, h45, h61, h60, h62]))
                have e40 : (b == 40) = false := by simpa using h40
                have e41 : (b == 41) = false := by simpa using h41
                have e42 : (b == 42) = false := by simpa using h42
                have e43 : (b == 43) = false := by simpa using h43
                have e44 : (b == 44) = false := by simpa using h44
                have e45 : (b == 45) = false := by simpa using h45
                have e61 : (b == 61) = false := by simpa using h61
                have e60 : (b == 60) = false := by simpa using h60
                have e62 : (b == 62) = false := by simpa using h62
                as_aux_lemma =>
                  go_wp2_with (first | (go_at_call 82; refine (spec.isSpace _ _ (by assumption) _).mono ?_; rintro e wx ⟨rfl, rfl⟩) | (go_at_call 83; refine (spec.isLetter _ _ (by assumption) _).mono ?_; rintro e wx ⟨rfl, rfl⟩) | (go_at_call 84; refine (spec.isDigit _ _ (by assumption) _).mono ?_; rintro e wx ⟨rfl, rfl⟩) | (go_at_call 85; refine (spec.keywordKind _ _).mono ?_; rintro e wx ⟨rfl, rfl⟩) | (fail))
                  go_ret2; exact ⟨hext.out, .inl ⟨hnone.out, rfl⟩⟩
            --P>
          ·
            --<Q
            have hn1' : ¬ (k : Int) + 1 < s.size := by omega
            have hnx : nxt s k = 0 := by unfold nxt; rw [if_neg hn1]
            rw [hnx] at hst
            clear hnx
            generalize tb s k = b at *
            replace hst := hide hst
            by_cases h40 : b = 40
            · subst h40
              have hst2 : step s k = some (k + 1, [(15, 0)]) := by rw [hst.out]; rfl
              replace hst2 := hide hst2
              as_aux_lemma =>
                go_wp2_with (first | (go_at_call 82; refine (spec.isSpace _ _ (by assumption) _).mono ?_; rintro e wx ⟨rfl, rfl⟩) | (go_at_call 83; refine (spec.isLetter _ _ (by assumption) _).mono ?_; rintro e wx ⟨rfl, rfl⟩) | (go_at_call 84; refine (spec.isDigit _ _ (by assumption) _).mono ?_; rintro e wx ⟨rfl, rfl⟩) | (go_at_call 85; refine (spec.keywordKind _ _).mono ?_; rintro e wx ⟨rfl, rfl⟩) | (at_builtin; refine app_tok rfl rfl w.heap.size (by simp; omega) _ out 15 0 rfl (hown.out.alloc _) W.heap.size 1 (by rfl) (heap_alloc_new W _) hol2.out ?_; intro g2 cap w2 hown2 hgr hor hlt2; replace hgr := hide hgr; replace hown2 := hide hown2; replace hor := hide hor))
                go_roundw
                case rel =>
                  obtain ⟨f', e, hf⟩ := hnext.out _ _ (by omega) hst2.out
                  refine ⟨k + 1, f', out ++ [(15, 0)], by first | rfl | go_num, by omega, hf, by simp; omega, e, hown2, (hext.out.alloc _).grown hgr.out ?_⟩
                  intro q hq; exact hown.out.block q hq
                case measure => simp [intOf]; omega
            by_cases h41 : b = 41
            · subst h41
              have hst2 : step s k = some (k + 1, [(16, 0)]) := by rw [hst.out]; rfl
              replace hst2 := hide hst2
              as_aux_lemma =>
                go_wp2_with (first | (go_at_call 82; refine (spec.isSpace _ _ (by assumption) _).mono ?_; rintro e wx ⟨rfl, rfl⟩) | (go_at_call 83; refine (spec.isLetter _ _ (by assumption) _).mono ?_; rintro e wx ⟨rfl, rfl⟩) | (go_at_call 84; refine (spec.isDigit _ _ (by assumption) _).mono ?_; rintro e wx ⟨rfl, rfl⟩) | (go_at_call 85; refine (spec.keywordKind _ _).mono ?_; rintro e wx ⟨rfl, rfl⟩) | (at_builtin; refine app_tok rfl rfl w.heap.size (by simp; omega) _ out 16 0 rfl (hown.out.alloc _) W.heap.size 1 (by rfl) (heap_alloc_new W _) hol2.out ?_; intro g2 cap w2 hown2 hgr hor hlt2; replace hgr := hide hgr; replace hown2 := hide hown2; replace hor := hide hor))
                go_roundw
                case rel =>
                  obtain ⟨f', e, hf⟩ := hnext.out _ _ (by omega) hst2.out
                  refine ⟨k + 1, f', out ++ [(16, 0)], by first | rfl | go_num, by omega, hf, by simp; omega, e, hown2, (hext.out.alloc _).grown hgr.out ?_⟩
                  intro q hq; exact hown.out.block q hq
                case measure => simp [intOf]; omega
            by_cases h44 : b = 44
            · subst h44
              have hst2 : step s k = some (k + 1, [(17, 0)]) := by rw [hst.out]; rfl
              replace hst2 := hide hst2
              as_aux_lemma =>
                go_wp2_with (first | (go_at_call 82; refine (spec.isSpace _ _ (by assumption) _).mono ?_; rintro e wx ⟨rfl, rfl⟩) | (go_at_call 83; refine (spec.isLetter _ _ (by assumption) _).mono ?_; rintro e wx ⟨rfl, rfl⟩) | (go_at_call 84; refine (spec.isDigit _ _ (by assumption) _).mono ?_; rintro e wx ⟨rfl, rfl⟩) | (go_at_call 85; refine (spec.keywordKind _ _).mono ?_; rintro e wx ⟨rfl, rfl⟩) | (at_builtin; refine app_tok rfl rfl w.heap.size (by simp; omega) _ out 17 0 rfl (hown.out.alloc _) W.heap.size 1 (by rfl) (heap_alloc_new W _) hol2.out ?_; intro g2 cap w2 hown2 hgr hor hlt2; replace hgr := hide hgr; replace hown2 := hide hown2; replace hor := hide hor))
                go_roundw
                case rel =>
                  obtain ⟨f', e, hf⟩ := hnext.out _ _ (by omega) hst2.out
                  refine ⟨k + 1, f', out ++ [(17, 0)], by first | rfl | go_num, by omega, hf, by simp; omega, e, hown2, (hext.out.alloc _).grown hgr.out ?_⟩
                  intro q hq; exact hown.out.block q hq
                case measure => simp [intOf]; omega
            by_cases h42 : b = 42
            · subst h42
              have hst2 : step s k = some (k + 1, [(18, 0)]) := by rw [hst.out]; rfl
              replace hst2 := hide hst2
              as_aux_lemma =>
                go_wp2_with (first | (go_at_call 82; refine (spec.isSpace _ _ (by assumption) _).mono ?_; rintro e wx ⟨rfl, rfl⟩) | (go_at_call 83; refine (spec.isLetter _ _ (by assumption) _).mono ?_; rintro e wx ⟨rfl, rfl⟩) | (go_at_call 84; refine (spec.isDigit _ _ (by assumption) _).mono ?_; rintro e wx ⟨rfl, rfl⟩) | (go_at_call 85; refine (spec.keywordKind _ _).mono ?_; rintro e wx ⟨rfl, rfl⟩) | (at_builtin; refine app_tok rfl rfl w.heap.size (by simp; omega) _ out 18 0 rfl (hown.out.alloc _) W.heap.size 1 (by rfl) (heap_alloc_new W _) hol2.out ?_; intro g2 cap w2 hown2 hgr hor hlt2; replace hgr := hide hgr; replace hown2 := hide hown2; replace hor := hide hor))
                go_roundw
                case rel =>
                  obtain ⟨f', e, hf⟩ := hnext.out _ _ (by omega) hst2.out
                  refine ⟨k + 1, f', out ++ [(18, 0)], by first | rfl | go_num, by omega, hf, by simp; omega, e, hown2, (hext.out.alloc _).grown hgr.out ?_⟩
                  intro q hq; exact hown.out.block q hq
                case measure => simp [intOf]; omega
            by_cases h43 : b = 43
            · subst h43
              have hst2 : step s k = some (k + 1, [(19, 0)]) := by rw [hst.out]; rfl
              replace hst2 := hide hst2
              as_aux_lemma =>
                go_wp2_with (first | (go_at_call 82; refine (spec.isSpace _ _ (by assumption) _).mono ?_; rintro e wx ⟨rfl, rfl⟩) | (go_at_call 83; refine (spec.isLetter _ _ (by assumption) _).mono ?_; rintro e wx ⟨rfl, rfl⟩) | (go_at_call 84; refine (spec.isDigit _ _ (by assumption) _).mono ?_; rintro e wx ⟨rfl, rfl⟩) | (go_at_call 85; refine (spec.keywordKind _ _).mono ?_; rintro e wx ⟨rfl, rfl⟩) | (at_builtin; refine app_tok rfl rfl w.heap.size (by simp; omega) _ out 19 0 rfl (hown.out.alloc _) W.heap.size 1 (by rfl) (heap_alloc_new W _) hol2.out ?_; intro g2 cap w2 hown2 hgr hor hlt2; replace hgr := hide hgr; replace hown2 := hide hown2; replace hor := hide hor))
                go_roundw
                case rel =>
                  obtain ⟨f', e, hf⟩ := hnext.out _ _ (by omega) hst2.out
                  refine ⟨k + 1, f', out ++ [(19, 0)], by first | rfl | go_num, by omega, hf, by simp; omega, e, hown2, (hext.out.alloc _).grown hgr.out ?_⟩
                  intro q hq; exact hown.out.block q hq
                case measure => simp [intOf]; omega
            by_cases h45 : b = 45
            · subst h45
              have hst2 : step s k = some (k + 1, [(20, 0)]) := by rw [hst.out]; rfl
              replace hst2 := hide hst2
              as_aux_lemma =>
                go_wp2_with (first | (go_at_call 82; refine (spec.isSpace _ _ (by assumption) _).mono ?_; rintro e wx ⟨rfl, rfl⟩) | (go_at_call 83; refine (spec.isLetter _ _ (by assumption) _).mono ?_; rintro e wx ⟨rfl, rfl⟩) | (go_at_call 84; refine (spec.isDigit _ _ (by assumption) _).mono ?_; rintro e wx ⟨rfl, rfl⟩) | (go_at_call 85; refine (spec.keywordKind _ _).mono ?_; rintro e wx ⟨rfl, rfl⟩) | (at_builtin; refine app_tok rfl rfl w.heap.size (by simp; omega) _ out 20 0 rfl (hown.out.alloc _) W.heap.size 1 (by rfl) (heap_alloc_new W _) hol2.out ?_; intro g2 cap w2 hown2 hgr hor hlt2; replace hgr := hide hgr; replace hown2 := hide hown2; replace hor := hide hor))
                go_roundw
                case rel =>
                  obtain ⟨f', e, hf⟩ := hnext.out _ _ (by omega) hst2.out
                  refine ⟨k + 1, f', out ++ [(20, 0)], by first | rfl | go_num, by omega, hf, by simp; omega, e, hown2, (hext.out.alloc _).grown hgr.out ?_⟩
                  intro q hq; exact hown.out.block q hq
                case measure => simp [intOf]; omega
            by_cases h61 : b = 61
            · subst h61
              have hst2 : step s k = some (k + 1, [(21, 0)]) := by rw [hst.out]; rfl
              replace hst2 := hide hst2
              as_aux_lemma =>
                go_wp2_with (first | (go_at_call 82; refine (spec.isSpace _ _ (by assumption) _).mono ?_; rintro e wx ⟨rfl, rfl⟩) | (go_at_call 83; refine (spec.isLetter _ _ (by assumption) _).mono ?_; rintro e wx ⟨rfl, rfl⟩) | (go_at_call 84; refine (spec.isDigit _ _ (by assumption) _).mono ?_; rintro e wx ⟨rfl, rfl⟩) | (go_at_call 85; refine (spec.keywordKind _ _).mono ?_; rintro e wx ⟨rfl, rfl⟩) | (at_builtin; refine app_tok rfl rfl w.heap.size (by simp; omega) _ out 21 0 rfl (hown.out.alloc _) W.heap.size 1 (by rfl) (heap_alloc_new W _) hol2.out ?_; intro g2 cap w2 hown2 hgr hor hlt2; replace hgr := hide hgr; replace hown2 := hide hown2; replace hor := hide hor))
                go_roundw
                case rel =>
                  obtain ⟨f', e, hf⟩ := hnext.out _ _ (by omega) hst2.out
                  refine ⟨k + 1, f', out ++ [(21, 0)], by first | rfl | go_num, by omega, hf, by simp; omega, e, hown2, (hext.out.alloc _).grown hgr.out ?_⟩
                  intro q hq; exact hown.out.block q hq
                case measure => simp [intOf]; omega
            by_cases h60 : b = 60
            · subst h60
              have hst2 : step s k = some (k + 1, [(23, 0)]) := by rw [hst.out]; rfl
              replace hst2 := hide hst2
              as_aux_lemma =>
                go_wp2_with (first | (go_at_call 82; refine (spec.isSpace _ _ (by assumption) _).mono ?_; rintro e wx ⟨rfl, rfl⟩) | (go_at_call 83; refine (spec.isLetter _ _ (by assumption) _).mono ?_; rintro e wx ⟨rfl, rfl⟩) | (go_at_call 84; refine (spec.isDigit _ _ (by assumption) _).mono ?_; rintro e wx ⟨rfl, rfl⟩) | (go_at_call 85; refine (spec.keywordKind _ _).mono ?_; rintro e wx ⟨rfl, rfl⟩) | (at_builtin; refine app_tok rfl rfl w.heap.size (by simp; omega) _ out 23 0 rfl (hown.out.alloc _) W.heap.size 1 (by rfl) (heap_alloc_new W _) hol2.out ?_; intro g2 cap w2 hown2 hgr hor hlt2; replace hgr := hide hgr; replace hown2 := hide hown2; replace hor := hide hor))
                go_roundw
                case rel =>
                  obtain ⟨f', e, hf⟩ := hnext.out _ _ (by omega) hst2.out
                  refine ⟨k + 1, f', out ++ [(23, 0)], by first | rfl | go_num, by omega, hf, by simp; omega, e, hown2, (hext.out.alloc _).grown hgr.out ?_⟩
                  intro q hq; exact hown.out.block q hq
                case measure => simp [intOf]; omega
            · by_cases h62 : b = 62
              · subst h62
                have hst2 : step s k = some (k + 1, [(25, 0)]) := by rw [hst.out]; rfl
                replace hst2 := hide hst2
                as_aux_lemma =>
                  go_wp2_with (first | (go_at_call 82; refine (spec.isSpace _ _ (by assumption) _).mono ?_; rintro e wx ⟨rfl, rfl⟩) | (go_at_call 83; refine (spec.isLetter _ _ (by assumption) _).mono ?_; rintro e wx ⟨rfl, rfl⟩) | (go_at_call 84; refine (spec.isDigit _ _ (by assumption) _).mono ?_; rintro e wx ⟨rfl, rfl⟩) | (go_at_call 85; refine (spec.keywordKind _ _).mono ?_; rintro e wx ⟨rfl, rfl⟩) | (at_builtin; refine app_tok rfl rfl w.heap.size (by simp; omega) _ out 25 0 rfl (hown.out.alloc _) W.heap.size 1 (by rfl) (heap_alloc_new W _) hol2.out ?_; intro g2 cap w2 hown2 hgr hor hlt2; replace hgr := hide hgr; replace hown2 := hide hown2; replace hor := hide hor))
                  go_roundw
                  case rel =>
                    obtain ⟨f', e, hf⟩ := hnext.out _ _ (by omega) hst2.out
                    refine ⟨k + 1, f', out ++ [(25, 0)], by first | rfl | go_num, by omega, hf, by simp; omega, e, hown2, (hext.out.alloc _).grown hgr.out ?_⟩
                    intro q hq; exact hown.out.block q hq
                  case measure => simp [intOf]; omega
              ·
                have hnone := hide (hfail.out (by rw [hst.out]; simp [pun, h40, h41, h44, h42, h43, h45, h61, h60, h62]))
                have e40 : (b == 40) = false := by simpa using h40
                have e41 : (b == 41) = false := by simpa using h41
                have e42 : (b == 42) = false := by simpa using h42
                have e43 : (b == 43) = false := by simpa using h43
                have e44 : (b == 44) = false := by simpa using h44
                have e45 : (b == 45) = false := by simpa using h45
                have e61 : (b == 61) = false := by simpa using h61
                have e60 : (b == 60) = false := by simpa using h60
                have e62 : (b == 62) = false := by simpa using h62
                as_aux_lemma =>
                  go_wp2_with (first | (go_at_call 82; refine (spec.isSpace _ _ (by assumption) _).mono ?_; rintro e wx ⟨rfl, rfl⟩) | (go_at_call 83; refine (spec.isLetter _ _ (by assumption) _).mono ?_; rintro e wx ⟨rfl, rfl⟩) | (go_at_call 84; refine (spec.isDigit _ _ (by assumption) _).mono ?_; rintro e wx ⟨rfl, rfl⟩) | (go_at_call 85; refine (spec.keywordKind _ _).mono ?_; rintro e wx ⟨rfl, rfl⟩) | (fail))
                  go_ret2; exact ⟨hext.out, .inl ⟨hnone.out, rfl⟩⟩
            --Q>
  ·
    --<E
    have hR' : R = some out := by rw [← hT.out]; exact T_end hlt
    have hk' : ¬ (k : Int) < s.size := by omega
    replace hR' := hide hR'
    obtain ⟨p, q, rfl, _⟩ := hown.out.form
    go_wp2
    go_ret2
    exact ⟨hext.out, .inr ⟨out, p, q, hR'.out, rfl, by omega, hown.out⟩⟩
    --E>
end Go.Proofs.YbyabwGreat
