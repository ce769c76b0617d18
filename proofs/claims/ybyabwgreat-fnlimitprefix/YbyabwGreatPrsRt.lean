/- Walk: item of spec's parser -/
import Derived.Test.YbyabwGreatPrsR3
import Derived.Test.YbyabwGreatPrsIt
namespace Go.Proofs.YbyabwGreat
open Go.RowKit
set_option maxRecDepth 100000
set_option linter.unusedVariables false

def RetItR (ts : List (Int × Int)) (s : PS) (S : Nat) (ta : Option Addr) (tc : Nat) (v : Value) (w : World) : Ending → World → Prop := fun en w' =>
  (It ts s none ∧ (∃ a x, en = .returned (.agg #[.int .i64 a, .int .i64 x])) ∧ BadAt w' S ∧ Fr S v (.slice none 0 0) w w') ∨
  (∃ a x s' v', It ts s (some ((a, x), s')) ∧ en = .returned (.agg #[.int .i64 a, .int .i64 x]) ∧ PrsR w' S ta tc ts s' v' ∧ Fr S v v' w w' ∧ s.pos < s'.pos)
theorem BadAt.new {w w' : World} {S D : Nat} (h : BadAt w S) (hg : w.grownBy w' (some D)) (hD : S ≠ D) : BadAt w' S := by
  obtain ⟨c0, c1, c2, d, h⟩ := h
  exact ⟨c0, c1, c2, d, h.grown hg (fun hh => hD (by injection hh with hh; exact hh.symm))⟩
theorem BadAt.ext {w w' : World} {S : Nat} (h : BadAt w S) (he : Ext w w') : BadAt w' S := by
  obtain ⟨c0, c1, c2, d, h⟩ := h
  exact ⟨c0, c1, c2, d, h.ext he⟩

set_option maxHeartbeats 16000000 in
theorem R.item (ts : List (Int × Int)) (S : Nat) (ta : Option Addr) (tc : Nat) (s : PS) (v : Value) (w : World) (h : Hid (PrsR w S ta tc ts s v)) :
    Calls Yabn.prog 55 #[.pointer (some ⟨S, 0, none⟩)] w (RetItR ts s S ta tc v w) := by
  have hSl := h.out.blk.lt
  have hsd : Hid (Side S w.heap.size v) := ⟨hSl, fun hh => by have := h.out.own_lt _ hh; omega⟩
  have hb0 : Hid (Blk (w.alloc (.cells #[.int .i64 0, .int .i64 0] 89)) w.heap.size 89 [.int .i64 0, .int .i64 0]) := Blk.new w _ _
  have h0 : Hid (PrsR (w.alloc (.cells #[.int .i64 0, .int .i64 0] 89)) S ta tc ts s v) := h.out.ext ((Ext.refl w).alloc _)
  have f0 : Hid (Fr S v v w (w.alloc (.cells #[.int .i64 0, .int .i64 0] 89))) := Fr.of_ext ((Ext.refl w).alloc _)
  have hsz : Hid (w.heap.size < (w.alloc (.cells #[.int .i64 0, .int .i64 0] 89)).heap.size) := by show w.heap.size < _; simp
  obtain ⟨k, hk⟩ : ∃ k, Hid (pk ts s.pos = k) := ⟨_, rfl⟩
  go_enter Yabn.func55, Yabn.ntmps55
  go_wp2_with fail
  generalize (w.alloc (.cells #[.int .i64 0, .int .i64 0] 89)) = X at *
  refine (R.peek S ta tc ts s v k hk X h0).mono ?_
  rintro e w3 ⟨rfl, x3⟩
  have h3 := hide (h0.out.ext x3)
  have hb3 := hide (hb0.out.ext x3)
  have f3 : Hid (Fr S v v w w3) := f0.out.trans (Fr.of_ext x3)
  have hz3 : Hid (w.heap.size < w3.heap.size) := Nat.lt_of_lt_of_le hsz.out x3.size
  clear x3 h0 hb0 f0 hsz h
  by_cases h9 : k = 9
  · subst h9
    as_aux_lemma =>
      have ha0 : Hid (9 ≤ pk ts s.pos ∧ pk ts s.pos ≤ 12) := by rw [hk.out]; exact ⟨by omega, by omega⟩
      have hlt := pk_lt hk.out (by omega)
      obtain ⟨k1', hk1⟩ : ∃ k, Hid (pk ts s.adv.pos = k) := ⟨_, rfl⟩
      have k1 := h3.out.c1
      have fz := h3.out.fz 1
      have hl := h3.out.len
      have hA : Hid (PrsR (w3.setCell ⟨S, 1, none⟩ (.int .i64 ((s.pos : Int) + 1))) S ta tc ts s.adv v) := h3.out.adv hlt
      have hAf : Hid (Fr S v v w3 (w3.setCell ⟨S, 1, none⟩ (.int .i64 ((s.pos : Int) + 1)))) := Fr.set _ _ _
      replace hb3 := hide (hsd.out.blk hAf.out hb3.out)
      replace f3 := hide (f3.out.trans hAf.out)
      replace hz3 := hide (Nat.lt_of_lt_of_le hz3.out hAf.out.but.size)
      go_wp2_with fail
      generalize (w3.setCell ⟨S, 1, none⟩ (.int .i64 ((s.pos : Int) + 1))) = w4 at *
      replace h3 := hA
      clear hA hAf k1 fz
      by_cases hk15 : ¬ k1' = 15
      · have hz := hide (It.agL ha0.out (by rw [hk1.out]; exact hk15))
        refine (R.expect_no S ta tc ts s.adv v 15 k1' w4 h3 hk1 hk15).mono ?_
        rintro e w6 ⟨rfl, b6, f6⟩
        have F6 := hide (f3.out.trans f6)
        have hb6 := hide (hsd.out.blk f6 hb3.out)
        have k4 := b6.c4
        replace b6 := hide b6
        clear f6 h3
        go_wp2_with (refine wpList_storeB (vs := [.int .i64 0, .int .i64 0]) rfl rfl (by rfl) (by rfl) hb6.out size_item rfl (by simp [Value.oneCell']) ?_; intro w9 hb9 hgr9; replace hgr9 := hide hgr9; replace hb9 := hide hb9)
        refine bodyPost_ret (results_cell1 rfl (by rfl) hb9.out Yabn.underlying89 size_item) rfl ?_
        exact .inl ⟨hz.out, ⟨_, _, rfl⟩, b6.out.new hgr9.out (by omega), F6.out.drop.new hgr9.out (Nat.le_refl _)⟩
      have hk15 : k1' = 15 := by omega
      subst hk15
      have hlt1 := pk_lt hk1.out (by decide)
      refine (R.expect_ok S ta tc ts s.adv v 15 w4 h3 hk1 hlt1).mono ?_
      rintro e w6 ⟨rfl, h6, f6⟩
      replace hb3 := hide (hsd.out.blk f6 hb3.out)
      replace f3 := hide (f3.out.trans f6)
      replace hz3 := hide (Nat.lt_of_lt_of_le hz3.out f6.but.size)
      clear h3 f6 hlt
      have h3 := hide h6
      have k4 := h6.c4
      clear h6
      go_wp2_with fail
      clear k4
      have hst : Hid (¬ (pk ts s.pos = 12 ∧ pk ts s.adv.adv.pos = 18)) := by rw [hk.out]; exact fun hh => absurd hh.1 (by decide)
      refine (R.exprAll ts S ta tc s.adv.adv v w6 h3).mono ?_
      rintro e w7 (⟨hp, ⟨y, rfl⟩, hb, hf⟩ | ⟨y, s5, v5, hp, rfl, h5, hf⟩)
      · have hz := hide (It.exN ha0.out hk1.out hst.out hp)
        have f5 := hide (f3.out.trans hf)
        have hb5 := hide (hsd.out.blk hf hb3.out)
        have sd5 := hide (hsd.out.step hf hz3.out)
        replace hb := hide hb
        clear hp hf
        go_wp2_with fail
        refine (R.expect_bad S (.slice none 0 0) 16 w7 hb).mono ?_
        rintro e w8 ⟨rfl, b8, f8⟩
        have F8 := hide (f5.out.trans f8)
        have hb8 := hide (sd5.out.blk f8 hb5.out)
        replace b8 := hide b8
        clear f8 f5 hb hb5
        go_wp2_with (refine wpList_storeB (vs := [.int .i64 1, .int .i64 y]) rfl rfl (by rfl) (by rfl) hb8.out size_item rfl (by simp [Value.oneCell']) ?_; intro w9 hb9 hgr9; replace hgr9 := hide hgr9; replace hb9 := hide hb9)
        refine bodyPost_ret (results_cell1 rfl (by rfl) hb9.out Yabn.underlying89 size_item) rfl ?_
        exact .inl ⟨hz.out, ⟨_, _, rfl⟩, b8.out.new hgr9.out (by omega), F8.out.drop.new hgr9.out (Nat.le_refl _)⟩
      · have hgp0 := hp.grow.2.1 (by omega)
        simp only [PS.adv] at hgp0
        have f5 := hide (f3.out.trans hf)
        have hb5 := hide (hsd.out.blk hf hb3.out)
        have sd5 := hide (hsd.out.step hf hz3.out)
        have hz5 := hide (Nat.lt_of_lt_of_le hz3.out hf.but.size)
        replace h5 := hide h5
        replace hp := hide hp
        obtain ⟨k5, hk5⟩ : ∃ k, Hid (pk ts s5.pos = k) := ⟨_, rfl⟩
        clear hf h3 f3 hb3 hz3 hsd
        go_wp2_with fail
        by_cases hk16 : k5 = 16
        · subst hk16
          have hlt5 := pk_lt hk5.out (by decide)
          have hz0 := It.exS ha0.out hk1.out hst.out hp.out hk5.out
          rw [hk.out] at hz0
          have hz := hide hz0
          have hgp : Hid (s.pos < s5.adv.pos) := by show s.pos < s5.pos + 1; omega
          clear hz0
          refine (R.expect_ok S ta tc ts s5 v5 16 w7 h5 hk5 hlt5).mono ?_
          rintro e w8 ⟨rfl, h8, f8⟩
          have F8 := hide (f5.out.trans f8)
          have hb8 := hide (sd5.out.blk f8 hb5.out)
          replace h8 := hide h8
          clear f8 f5 h5 hb5
          go_wp2_with (refine wpList_storeB (vs := [.int .i64 1, .int .i64 y]) rfl rfl (by rfl) (by rfl) hb8.out size_item rfl (by simp [Value.oneCell']) ?_; intro w9 hb9 hgr9; replace hgr9 := hide hgr9; replace hb9 := hide hb9)
          refine bodyPost_ret (results_cell1 rfl (by rfl) hb9.out Yabn.underlying89 size_item) rfl ?_
          exact .inr ⟨_, _, _, _, hz.out, rfl, h8.out.new hgr9.out sd5.out, F8.out.new hgr9.out (Nat.le_refl _), hgp.out⟩
        · have hz := hide (It.exP ha0.out hk1.out hst.out hp.out (by rw [hk5.out]; exact hk16))
          refine (R.expect_no S ta tc ts s5 v5 16 k5 w7 h5 hk5 hk16).mono ?_
          rintro e w8 ⟨rfl, b8, f8⟩
          have F8 := hide (f5.out.trans f8)
          have hb8 := hide (sd5.out.blk f8 hb5.out)
          replace b8 := hide b8
          clear f8 f5 h5 hb5
          go_wp2_with (refine wpList_storeB (vs := [.int .i64 1, .int .i64 y]) rfl rfl (by rfl) (by rfl) hb8.out size_item rfl (by simp [Value.oneCell']) ?_; intro w9 hb9 hgr9; replace hgr9 := hide hgr9; replace hb9 := hide hb9)
          refine bodyPost_ret (results_cell1 rfl (by rfl) hb9.out Yabn.underlying89 size_item) rfl ?_
          exact .inl ⟨hz.out, ⟨_, _, rfl⟩, b8.out.new hgr9.out (by omega), F8.out.drop.new hgr9.out (Nat.le_refl _)⟩
  · by_cases h10 : k = 10
    · subst h10
      clear h9
      as_aux_lemma =>
        have ha0 : Hid (9 ≤ pk ts s.pos ∧ pk ts s.pos ≤ 12) := by rw [hk.out]; exact ⟨by omega, by omega⟩
        have hlt := pk_lt hk.out (by omega)
        obtain ⟨k1', hk1⟩ : ∃ k, Hid (pk ts s.adv.pos = k) := ⟨_, rfl⟩
        have k1 := h3.out.c1
        have fz := h3.out.fz 1
        have hl := h3.out.len
        have hA : Hid (PrsR (w3.setCell ⟨S, 1, none⟩ (.int .i64 ((s.pos : Int) + 1))) S ta tc ts s.adv v) := h3.out.adv hlt
        have hAf : Hid (Fr S v v w3 (w3.setCell ⟨S, 1, none⟩ (.int .i64 ((s.pos : Int) + 1)))) := Fr.set _ _ _
        replace hb3 := hide (hsd.out.blk hAf.out hb3.out)
        replace f3 := hide (f3.out.trans hAf.out)
        replace hz3 := hide (Nat.lt_of_lt_of_le hz3.out hAf.out.but.size)
        go_wp2_with fail
        generalize (w3.setCell ⟨S, 1, none⟩ (.int .i64 ((s.pos : Int) + 1))) = w4 at *
        replace h3 := hA
        clear hA hAf k1 fz
        by_cases hk15 : ¬ k1' = 15
        · have hz := hide (It.agL ha0.out (by rw [hk1.out]; exact hk15))
          refine (R.expect_no S ta tc ts s.adv v 15 k1' w4 h3 hk1 hk15).mono ?_
          rintro e w6 ⟨rfl, b6, f6⟩
          have F6 := hide (f3.out.trans f6)
          have hb6 := hide (hsd.out.blk f6 hb3.out)
          have k4 := b6.c4
          replace b6 := hide b6
          clear f6 h3
          go_wp2_with (refine wpList_storeB (vs := [.int .i64 0, .int .i64 0]) rfl rfl (by rfl) (by rfl) hb6.out size_item rfl (by simp [Value.oneCell']) ?_; intro w9 hb9 hgr9; replace hgr9 := hide hgr9; replace hb9 := hide hb9)
          refine bodyPost_ret (results_cell1 rfl (by rfl) hb9.out Yabn.underlying89 size_item) rfl ?_
          exact .inl ⟨hz.out, ⟨_, _, rfl⟩, b6.out.new hgr9.out (by omega), F6.out.drop.new hgr9.out (Nat.le_refl _)⟩
        have hk15 : k1' = 15 := by omega
        subst hk15
        have hlt1 := pk_lt hk1.out (by decide)
        refine (R.expect_ok S ta tc ts s.adv v 15 w4 h3 hk1 hlt1).mono ?_
        rintro e w6 ⟨rfl, h6, f6⟩
        replace hb3 := hide (hsd.out.blk f6 hb3.out)
        replace f3 := hide (f3.out.trans f6)
        replace hz3 := hide (Nat.lt_of_lt_of_le hz3.out f6.but.size)
        clear h3 f6 hlt
        have h3 := hide h6
        have k4 := h6.c4
        clear h6
        go_wp2_with fail
        clear k4
        have hst : Hid (¬ (pk ts s.pos = 12 ∧ pk ts s.adv.adv.pos = 18)) := by rw [hk.out]; exact fun hh => absurd hh.1 (by decide)
        refine (R.exprAll ts S ta tc s.adv.adv v w6 h3).mono ?_
        rintro e w7 (⟨hp, ⟨y, rfl⟩, hb, hf⟩ | ⟨y, s5, v5, hp, rfl, h5, hf⟩)
        · have hz := hide (It.exN ha0.out hk1.out hst.out hp)
          have f5 := hide (f3.out.trans hf)
          have hb5 := hide (hsd.out.blk hf hb3.out)
          have sd5 := hide (hsd.out.step hf hz3.out)
          replace hb := hide hb
          clear hp hf
          go_wp2_with fail
          refine (R.expect_bad S (.slice none 0 0) 16 w7 hb).mono ?_
          rintro e w8 ⟨rfl, b8, f8⟩
          have F8 := hide (f5.out.trans f8)
          have hb8 := hide (sd5.out.blk f8 hb5.out)
          replace b8 := hide b8
          clear f8 f5 hb hb5
          go_wp2_with (refine wpList_storeB (vs := [.int .i64 2, .int .i64 y]) rfl rfl (by rfl) (by rfl) hb8.out size_item rfl (by simp [Value.oneCell']) ?_; intro w9 hb9 hgr9; replace hgr9 := hide hgr9; replace hb9 := hide hb9)
          refine bodyPost_ret (results_cell1 rfl (by rfl) hb9.out Yabn.underlying89 size_item) rfl ?_
          exact .inl ⟨hz.out, ⟨_, _, rfl⟩, b8.out.new hgr9.out (by omega), F8.out.drop.new hgr9.out (Nat.le_refl _)⟩
        · have hgp0 := hp.grow.2.1 (by omega)
          simp only [PS.adv] at hgp0
          have f5 := hide (f3.out.trans hf)
          have hb5 := hide (hsd.out.blk hf hb3.out)
          have sd5 := hide (hsd.out.step hf hz3.out)
          have hz5 := hide (Nat.lt_of_lt_of_le hz3.out hf.but.size)
          replace h5 := hide h5
          replace hp := hide hp
          obtain ⟨k5, hk5⟩ : ∃ k, Hid (pk ts s5.pos = k) := ⟨_, rfl⟩
          clear hf h3 f3 hb3 hz3 hsd
          go_wp2_with fail
          by_cases hk16 : k5 = 16
          · subst hk16
            have hlt5 := pk_lt hk5.out (by decide)
            have hz0 := It.exS ha0.out hk1.out hst.out hp.out hk5.out
            rw [hk.out] at hz0
            have hz := hide hz0
            have hgp : Hid (s.pos < s5.adv.pos) := by show s.pos < s5.pos + 1; omega
            clear hz0
            refine (R.expect_ok S ta tc ts s5 v5 16 w7 h5 hk5 hlt5).mono ?_
            rintro e w8 ⟨rfl, h8, f8⟩
            have F8 := hide (f5.out.trans f8)
            have hb8 := hide (sd5.out.blk f8 hb5.out)
            replace h8 := hide h8
            clear f8 f5 h5 hb5
            go_wp2_with (refine wpList_storeB (vs := [.int .i64 2, .int .i64 y]) rfl rfl (by rfl) (by rfl) hb8.out size_item rfl (by simp [Value.oneCell']) ?_; intro w9 hb9 hgr9; replace hgr9 := hide hgr9; replace hb9 := hide hb9)
            refine bodyPost_ret (results_cell1 rfl (by rfl) hb9.out Yabn.underlying89 size_item) rfl ?_
            exact .inr ⟨_, _, _, _, hz.out, rfl, h8.out.new hgr9.out sd5.out, F8.out.new hgr9.out (Nat.le_refl _), hgp.out⟩
          · have hz := hide (It.exP ha0.out hk1.out hst.out hp.out (by rw [hk5.out]; exact hk16))
            refine (R.expect_no S ta tc ts s5 v5 16 k5 w7 h5 hk5 hk16).mono ?_
            rintro e w8 ⟨rfl, b8, f8⟩
            have F8 := hide (f5.out.trans f8)
            have hb8 := hide (sd5.out.blk f8 hb5.out)
            replace b8 := hide b8
            clear f8 f5 h5 hb5
            go_wp2_with (refine wpList_storeB (vs := [.int .i64 2, .int .i64 y]) rfl rfl (by rfl) (by rfl) hb8.out size_item rfl (by simp [Value.oneCell']) ?_; intro w9 hb9 hgr9; replace hgr9 := hide hgr9; replace hb9 := hide hb9)
            refine bodyPost_ret (results_cell1 rfl (by rfl) hb9.out Yabn.underlying89 size_item) rfl ?_
            exact .inl ⟨hz.out, ⟨_, _, rfl⟩, b8.out.new hgr9.out (by omega), F8.out.drop.new hgr9.out (Nat.le_refl _)⟩
    · by_cases h11 : k = 11
      · subst h11
        clear h9 h10
        as_aux_lemma =>
          have ha0 : Hid (9 ≤ pk ts s.pos ∧ pk ts s.pos ≤ 12) := by rw [hk.out]; exact ⟨by omega, by omega⟩
          have hlt := pk_lt hk.out (by omega)
          obtain ⟨k1', hk1⟩ : ∃ k, Hid (pk ts s.adv.pos = k) := ⟨_, rfl⟩
          have k1 := h3.out.c1
          have fz := h3.out.fz 1
          have hl := h3.out.len
          have hA : Hid (PrsR (w3.setCell ⟨S, 1, none⟩ (.int .i64 ((s.pos : Int) + 1))) S ta tc ts s.adv v) := h3.out.adv hlt
          have hAf : Hid (Fr S v v w3 (w3.setCell ⟨S, 1, none⟩ (.int .i64 ((s.pos : Int) + 1)))) := Fr.set _ _ _
          replace hb3 := hide (hsd.out.blk hAf.out hb3.out)
          replace f3 := hide (f3.out.trans hAf.out)
          replace hz3 := hide (Nat.lt_of_lt_of_le hz3.out hAf.out.but.size)
          go_wp2_with fail
          generalize (w3.setCell ⟨S, 1, none⟩ (.int .i64 ((s.pos : Int) + 1))) = w4 at *
          replace h3 := hA
          clear hA hAf k1 fz
          by_cases hk15 : ¬ k1' = 15
          · have hz := hide (It.agL ha0.out (by rw [hk1.out]; exact hk15))
            refine (R.expect_no S ta tc ts s.adv v 15 k1' w4 h3 hk1 hk15).mono ?_
            rintro e w6 ⟨rfl, b6, f6⟩
            have F6 := hide (f3.out.trans f6)
            have hb6 := hide (hsd.out.blk f6 hb3.out)
            have k4 := b6.c4
            replace b6 := hide b6
            clear f6 h3
            go_wp2_with (refine wpList_storeB (vs := [.int .i64 0, .int .i64 0]) rfl rfl (by rfl) (by rfl) hb6.out size_item rfl (by simp [Value.oneCell']) ?_; intro w9 hb9 hgr9; replace hgr9 := hide hgr9; replace hb9 := hide hb9)
            refine bodyPost_ret (results_cell1 rfl (by rfl) hb9.out Yabn.underlying89 size_item) rfl ?_
            exact .inl ⟨hz.out, ⟨_, _, rfl⟩, b6.out.new hgr9.out (by omega), F6.out.drop.new hgr9.out (Nat.le_refl _)⟩
          have hk15 : k1' = 15 := by omega
          subst hk15
          have hlt1 := pk_lt hk1.out (by decide)
          refine (R.expect_ok S ta tc ts s.adv v 15 w4 h3 hk1 hlt1).mono ?_
          rintro e w6 ⟨rfl, h6, f6⟩
          replace hb3 := hide (hsd.out.blk f6 hb3.out)
          replace f3 := hide (f3.out.trans f6)
          replace hz3 := hide (Nat.lt_of_lt_of_le hz3.out f6.but.size)
          clear h3 f6 hlt
          have h3 := hide h6
          have k4 := h6.c4
          clear h6
          go_wp2_with fail
          clear k4
          have hst : Hid (¬ (pk ts s.pos = 12 ∧ pk ts s.adv.adv.pos = 18)) := by rw [hk.out]; exact fun hh => absurd hh.1 (by decide)
          refine (R.exprAll ts S ta tc s.adv.adv v w6 h3).mono ?_
          rintro e w7 (⟨hp, ⟨y, rfl⟩, hb, hf⟩ | ⟨y, s5, v5, hp, rfl, h5, hf⟩)
          · have hz := hide (It.exN ha0.out hk1.out hst.out hp)
            have f5 := hide (f3.out.trans hf)
            have hb5 := hide (hsd.out.blk hf hb3.out)
            have sd5 := hide (hsd.out.step hf hz3.out)
            replace hb := hide hb
            clear hp hf
            go_wp2_with fail
            refine (R.expect_bad S (.slice none 0 0) 16 w7 hb).mono ?_
            rintro e w8 ⟨rfl, b8, f8⟩
            have F8 := hide (f5.out.trans f8)
            have hb8 := hide (sd5.out.blk f8 hb5.out)
            replace b8 := hide b8
            clear f8 f5 hb hb5
            go_wp2_with (refine wpList_storeB (vs := [.int .i64 3, .int .i64 y]) rfl rfl (by rfl) (by rfl) hb8.out size_item rfl (by simp [Value.oneCell']) ?_; intro w9 hb9 hgr9; replace hgr9 := hide hgr9; replace hb9 := hide hb9)
            refine bodyPost_ret (results_cell1 rfl (by rfl) hb9.out Yabn.underlying89 size_item) rfl ?_
            exact .inl ⟨hz.out, ⟨_, _, rfl⟩, b8.out.new hgr9.out (by omega), F8.out.drop.new hgr9.out (Nat.le_refl _)⟩
          · have hgp0 := hp.grow.2.1 (by omega)
            simp only [PS.adv] at hgp0
            have f5 := hide (f3.out.trans hf)
            have hb5 := hide (hsd.out.blk hf hb3.out)
            have sd5 := hide (hsd.out.step hf hz3.out)
            have hz5 := hide (Nat.lt_of_lt_of_le hz3.out hf.but.size)
            replace h5 := hide h5
            replace hp := hide hp
            obtain ⟨k5, hk5⟩ : ∃ k, Hid (pk ts s5.pos = k) := ⟨_, rfl⟩
            clear hf h3 f3 hb3 hz3 hsd
            go_wp2_with fail
            by_cases hk16 : k5 = 16
            · subst hk16
              have hlt5 := pk_lt hk5.out (by decide)
              have hz0 := It.exS ha0.out hk1.out hst.out hp.out hk5.out
              rw [hk.out] at hz0
              have hz := hide hz0
              have hgp : Hid (s.pos < s5.adv.pos) := by show s.pos < s5.pos + 1; omega
              clear hz0
              refine (R.expect_ok S ta tc ts s5 v5 16 w7 h5 hk5 hlt5).mono ?_
              rintro e w8 ⟨rfl, h8, f8⟩
              have F8 := hide (f5.out.trans f8)
              have hb8 := hide (sd5.out.blk f8 hb5.out)
              replace h8 := hide h8
              clear f8 f5 h5 hb5
              go_wp2_with (refine wpList_storeB (vs := [.int .i64 3, .int .i64 y]) rfl rfl (by rfl) (by rfl) hb8.out size_item rfl (by simp [Value.oneCell']) ?_; intro w9 hb9 hgr9; replace hgr9 := hide hgr9; replace hb9 := hide hb9)
              refine bodyPost_ret (results_cell1 rfl (by rfl) hb9.out Yabn.underlying89 size_item) rfl ?_
              exact .inr ⟨_, _, _, _, hz.out, rfl, h8.out.new hgr9.out sd5.out, F8.out.new hgr9.out (Nat.le_refl _), hgp.out⟩
            · have hz := hide (It.exP ha0.out hk1.out hst.out hp.out (by rw [hk5.out]; exact hk16))
              refine (R.expect_no S ta tc ts s5 v5 16 k5 w7 h5 hk5 hk16).mono ?_
              rintro e w8 ⟨rfl, b8, f8⟩
              have F8 := hide (f5.out.trans f8)
              have hb8 := hide (sd5.out.blk f8 hb5.out)
              replace b8 := hide b8
              clear f8 f5 h5 hb5
              go_wp2_with (refine wpList_storeB (vs := [.int .i64 3, .int .i64 y]) rfl rfl (by rfl) (by rfl) hb8.out size_item rfl (by simp [Value.oneCell']) ?_; intro w9 hb9 hgr9; replace hgr9 := hide hgr9; replace hb9 := hide hb9)
              refine bodyPost_ret (results_cell1 rfl (by rfl) hb9.out Yabn.underlying89 size_item) rfl ?_
              exact .inl ⟨hz.out, ⟨_, _, rfl⟩, b8.out.new hgr9.out (by omega), F8.out.drop.new hgr9.out (Nat.le_refl _)⟩
      · by_cases h12 : k = 12
        · subst h12
          clear h9 h10 h11
          as_aux_lemma =>
            have ha0 : Hid (9 ≤ pk ts s.pos ∧ pk ts s.pos ≤ 12) := by rw [hk.out]; exact ⟨by omega, by omega⟩
            have hlt := pk_lt hk.out (by omega)
            obtain ⟨k1', hk1⟩ : ∃ k, Hid (pk ts s.adv.pos = k) := ⟨_, rfl⟩
            have k1 := h3.out.c1
            have fz := h3.out.fz 1
            have hl := h3.out.len
            have hA : Hid (PrsR (w3.setCell ⟨S, 1, none⟩ (.int .i64 ((s.pos : Int) + 1))) S ta tc ts s.adv v) := h3.out.adv hlt
            have hAf : Hid (Fr S v v w3 (w3.setCell ⟨S, 1, none⟩ (.int .i64 ((s.pos : Int) + 1)))) := Fr.set _ _ _
            replace hb3 := hide (hsd.out.blk hAf.out hb3.out)
            replace f3 := hide (f3.out.trans hAf.out)
            replace hz3 := hide (Nat.lt_of_lt_of_le hz3.out hAf.out.but.size)
            go_wp2_with fail
            generalize (w3.setCell ⟨S, 1, none⟩ (.int .i64 ((s.pos : Int) + 1))) = w4 at *
            replace h3 := hA
            clear hA hAf k1 fz
            by_cases hk15 : ¬ k1' = 15
            · have hz := hide (It.agL ha0.out (by rw [hk1.out]; exact hk15))
              refine (R.expect_no S ta tc ts s.adv v 15 k1' w4 h3 hk1 hk15).mono ?_
              rintro e w6 ⟨rfl, b6, f6⟩
              have F6 := hide (f3.out.trans f6)
              have hb6 := hide (hsd.out.blk f6 hb3.out)
              have k4 := b6.c4
              replace b6 := hide b6
              clear f6 h3
              go_wp2_with (refine wpList_storeB (vs := [.int .i64 0, .int .i64 0]) rfl rfl (by rfl) (by rfl) hb6.out size_item rfl (by simp [Value.oneCell']) ?_; intro w9 hb9 hgr9; replace hgr9 := hide hgr9; replace hb9 := hide hb9)
              refine bodyPost_ret (results_cell1 rfl (by rfl) hb9.out Yabn.underlying89 size_item) rfl ?_
              exact .inl ⟨hz.out, ⟨_, _, rfl⟩, b6.out.new hgr9.out (by omega), F6.out.drop.new hgr9.out (Nat.le_refl _)⟩
            have hk15 : k1' = 15 := by omega
            subst hk15
            have hlt1 := pk_lt hk1.out (by decide)
            refine (R.expect_ok S ta tc ts s.adv v 15 w4 h3 hk1 hlt1).mono ?_
            rintro e w6 ⟨rfl, h6, f6⟩
            replace hb3 := hide (hsd.out.blk f6 hb3.out)
            replace f3 := hide (f3.out.trans f6)
            replace hz3 := hide (Nat.lt_of_lt_of_le hz3.out f6.but.size)
            clear h3 f6 hlt
            have h3 := hide h6
            have k4 := h6.c4
            clear h6
            go_wp2_with fail
            clear k4
            obtain ⟨k2', hk2⟩ : ∃ k, Hid (pk ts s.adv.adv.pos = k) := ⟨_, rfl⟩
            refine (R.peek S ta tc ts s.adv.adv v k2' hk2 w6 h3).mono ?_
            rintro e w5 ⟨rfl, x3⟩
            replace h3 := hide (h3.out.ext x3)
            replace hb3 := hide (hb3.out.ext x3)
            replace f3 : Hid (Fr S v v w w5) := f3.out.trans (Fr.of_ext x3)
            replace hz3 := hide (Nat.lt_of_lt_of_le hz3.out x3.size)
            clear x3
            by_cases hk18 : k2' = 18
            · subst hk18
              have hst : Hid (pk ts s.pos = 12 ∧ pk ts s.adv.adv.pos = 18) := ⟨hk.out, hk2.out⟩
              have hlt := pk_lt hk2.out (by decide)
              obtain ⟨k3', hk3⟩ : ∃ k, Hid (pk ts s.adv.adv.adv.pos = k) := ⟨_, rfl⟩
              have k1 := h3.out.c1
              have fz := h3.out.fz 1
              have hl := h3.out.len
              have hA : Hid (PrsR (w5.setCell ⟨S, 1, none⟩ (.int .i64 ((s.adv.adv.pos : Int) + 1))) S ta tc ts s.adv.adv.adv v) := h3.out.adv hlt
              have hAf : Hid (Fr S v v w5 (w5.setCell ⟨S, 1, none⟩ (.int .i64 ((s.adv.adv.pos : Int) + 1)))) := Fr.set _ _ _
              replace hb3 := hide (hsd.out.blk hAf.out hb3.out)
              replace f3 := hide (f3.out.trans hAf.out)
              replace hz3 := hide (Nat.lt_of_lt_of_le hz3.out hAf.out.but.size)
              go_wp2_with fail
              generalize (w5.setCell ⟨S, 1, none⟩ (.int .i64 ((s.adv.adv.pos : Int) + 1))) = w8 at *
              replace h3 := hA
              clear hA hAf k1 fz
              by_cases hk16 : k3' = 16
              · subst hk16
                have hz := hide (It.stS ha0.out hk1.out hst.out hk3.out)
                have hlt3 := pk_lt hk3.out (by decide)
                have hgp : Hid (s.pos < s.adv.adv.adv.adv.pos) := by show s.pos < s.pos + 1 + 1 + 1 + 1; omega
                refine (R.expect_ok S ta tc ts s.adv.adv.adv v 16 w8 h3 hk3 hlt3).mono ?_
                rintro e w7 ⟨rfl, h8, f8⟩
                have F8 := hide (f3.out.trans f8)
                have hb8 := hide (hsd.out.blk f8 hb3.out)
                replace h8 := hide h8
                clear f8 f3 h3 hb3
                go_wp2_with (refine wpList_storeB (vs := [.int .i64 5, .int .i64 (-1)]) rfl rfl (by rfl) (by rfl) hb8.out size_item rfl (by simp [Value.oneCell']) ?_; intro w9 hb9 hgr9; replace hgr9 := hide hgr9; replace hb9 := hide hb9)
                refine bodyPost_ret (results_cell1 rfl (by rfl) hb9.out Yabn.underlying89 size_item) rfl ?_
                exact .inr ⟨_, _, _, _, hz.out, rfl, h8.out.new hgr9.out hsd.out, F8.out.new hgr9.out (Nat.le_refl _), hgp.out⟩
              · have hz := hide (It.stN ha0.out hk1.out hst.out (by rw [hk3.out]; exact hk16))
                refine (R.expect_no S ta tc ts s.adv.adv.adv v 16 k3' w8 h3 hk3 hk16).mono ?_
                rintro e w7 ⟨rfl, b8, f8⟩
                have F8 := hide (f3.out.trans f8)
                have hb8 := hide (hsd.out.blk f8 hb3.out)
                replace b8 := hide b8
                clear f8 f3 h3 hb3
                go_wp2_with (refine wpList_storeB (vs := [.int .i64 5, .int .i64 (-1)]) rfl rfl (by rfl) (by rfl) hb8.out size_item rfl (by simp [Value.oneCell']) ?_; intro w9 hb9 hgr9; replace hgr9 := hide hgr9; replace hb9 := hide hb9)
                refine bodyPost_ret (results_cell1 rfl (by rfl) hb9.out Yabn.underlying89 size_item) rfl ?_
                exact .inl ⟨hz.out, ⟨_, _, rfl⟩, b8.out.new hgr9.out (by omega), F8.out.drop.new hgr9.out (Nat.le_refl _)⟩
            · have hk18' : (k2' == 18) = false := by simpa using hk18
              have hst : Hid (¬ (pk ts s.pos = 12 ∧ pk ts s.adv.adv.pos = 18)) := by rw [hk2.out]; exact fun hh => hk18 hh.2
              go_wp2_with fail
              refine (R.exprAll ts S ta tc s.adv.adv v w5 h3).mono ?_
              rintro e w7 (⟨hp, ⟨y, rfl⟩, hb, hf⟩ | ⟨y, s5, v5, hp, rfl, h5, hf⟩)
              · have hz := hide (It.exN ha0.out hk1.out hst.out hp)
                have f5 := hide (f3.out.trans hf)
                have hb5 := hide (hsd.out.blk hf hb3.out)
                have sd5 := hide (hsd.out.step hf hz3.out)
                replace hb := hide hb
                clear hp hf
                go_wp2_with fail
                refine (R.expect_bad S (.slice none 0 0) 16 w7 hb).mono ?_
                rintro e w8 ⟨rfl, b8, f8⟩
                have F8 := hide (f5.out.trans f8)
                have hb8 := hide (sd5.out.blk f8 hb5.out)
                replace b8 := hide b8
                clear f8 f5 hb hb5
                go_wp2_with (refine wpList_storeB (vs := [.int .i64 4, .int .i64 y]) rfl rfl (by rfl) (by rfl) hb8.out size_item rfl (by simp [Value.oneCell']) ?_; intro w9 hb9 hgr9; replace hgr9 := hide hgr9; replace hb9 := hide hb9)
                refine bodyPost_ret (results_cell1 rfl (by rfl) hb9.out Yabn.underlying89 size_item) rfl ?_
                exact .inl ⟨hz.out, ⟨_, _, rfl⟩, b8.out.new hgr9.out (by omega), F8.out.drop.new hgr9.out (Nat.le_refl _)⟩
              · have hgp0 := hp.grow.2.1 (by omega)
                simp only [PS.adv] at hgp0
                have f5 := hide (f3.out.trans hf)
                have hb5 := hide (hsd.out.blk hf hb3.out)
                have sd5 := hide (hsd.out.step hf hz3.out)
                have hz5 := hide (Nat.lt_of_lt_of_le hz3.out hf.but.size)
                replace h5 := hide h5
                replace hp := hide hp
                obtain ⟨k5, hk5⟩ : ∃ k, Hid (pk ts s5.pos = k) := ⟨_, rfl⟩
                clear hf h3 f3 hb3 hz3 hsd
                go_wp2_with fail
                by_cases hk16 : k5 = 16
                · subst hk16
                  have hlt5 := pk_lt hk5.out (by decide)
                  have hz0 := It.exS ha0.out hk1.out hst.out hp.out hk5.out
                  rw [hk.out] at hz0
                  have hz := hide hz0
                  have hgp : Hid (s.pos < s5.adv.pos) := by show s.pos < s5.pos + 1; omega
                  clear hz0
                  refine (R.expect_ok S ta tc ts s5 v5 16 w7 h5 hk5 hlt5).mono ?_
                  rintro e w8 ⟨rfl, h8, f8⟩
                  have F8 := hide (f5.out.trans f8)
                  have hb8 := hide (sd5.out.blk f8 hb5.out)
                  replace h8 := hide h8
                  clear f8 f5 h5 hb5
                  go_wp2_with (refine wpList_storeB (vs := [.int .i64 4, .int .i64 y]) rfl rfl (by rfl) (by rfl) hb8.out size_item rfl (by simp [Value.oneCell']) ?_; intro w9 hb9 hgr9; replace hgr9 := hide hgr9; replace hb9 := hide hb9)
                  refine bodyPost_ret (results_cell1 rfl (by rfl) hb9.out Yabn.underlying89 size_item) rfl ?_
                  exact .inr ⟨_, _, _, _, hz.out, rfl, h8.out.new hgr9.out sd5.out, F8.out.new hgr9.out (Nat.le_refl _), hgp.out⟩
                · have hz := hide (It.exP ha0.out hk1.out hst.out hp.out (by rw [hk5.out]; exact hk16))
                  refine (R.expect_no S ta tc ts s5 v5 16 k5 w7 h5 hk5 hk16).mono ?_
                  rintro e w8 ⟨rfl, b8, f8⟩
                  have F8 := hide (f5.out.trans f8)
                  have hb8 := hide (sd5.out.blk f8 hb5.out)
                  replace b8 := hide b8
                  clear f8 f5 h5 hb5
                  go_wp2_with (refine wpList_storeB (vs := [.int .i64 4, .int .i64 y]) rfl rfl (by rfl) (by rfl) hb8.out size_item rfl (by simp [Value.oneCell']) ?_; intro w9 hb9 hgr9; replace hgr9 := hide hgr9; replace hb9 := hide hb9)
                  refine bodyPost_ret (results_cell1 rfl (by rfl) hb9.out Yabn.underlying89 size_item) rfl ?_
                  exact .inl ⟨hz.out, ⟨_, _, rfl⟩, b8.out.new hgr9.out (by omega), F8.out.drop.new hgr9.out (Nat.le_refl _)⟩
        · have ha0 : Hid (¬ (9 ≤ pk ts s.pos ∧ pk ts s.pos ≤ 12)) := by rw [hk.out]; show ¬ _; omega
          have e9 : (k == 9) = false := by simpa using h9
          have e10 : (k == 10) = false := by simpa using h10
          have e11 : (k == 11) = false := by simpa using h11
          have e12 : (k == 12) = false := by simpa using h12
          clear h9 h10 h11 h12
          go_wp2_with fail
          refine (R.exprAll ts S ta tc s v w3 h3).mono ?_
          rintro e w5 (⟨hp, ⟨y, rfl⟩, hb, hf⟩ | ⟨y, s5, v5, hp, rfl, h5, hf⟩)
          · have hz := hide (It.plN ha0.out hp)
            have f5 := hide (f3.out.trans hf)
            have hb5 := hide (hsd.out.blk hf hb3.out)
            replace hb := hide hb
            clear hp hf
            go_wp2_with (refine wpList_storeB (vs := [.int .i64 0, .int .i64 y]) rfl rfl (by rfl) (by rfl) hb5.out size_item rfl (by simp [Value.oneCell']) ?_; intro w9 hb9 hgr9; replace hgr9 := hide hgr9; replace hb9 := hide hb9)
            refine bodyPost_ret (results_cell1 rfl (by rfl) hb9.out Yabn.underlying89 size_item) rfl ?_
            exact .inl ⟨hz.out, ⟨_, _, rfl⟩, hb.out.new hgr9.out (by omega), f5.out.drop.new hgr9.out (Nat.le_refl _)⟩
          · have hz := hide (It.plS ha0.out hp)
            have hgp : Hid (s.pos < s5.pos) := hp.grow.2.1 (by omega)
            have f5 := hide (f3.out.trans hf)
            have hb5 := hide (hsd.out.blk hf hb3.out)
            have sd5 := hide (hsd.out.step hf hz3.out)
            replace h5 := hide h5
            clear hp hf
            go_wp2_with (refine wpList_storeB (vs := [.int .i64 0, .int .i64 y]) rfl rfl (by rfl) (by rfl) hb5.out size_item rfl (by simp [Value.oneCell']) ?_; intro w9 hb9 hgr9; replace hgr9 := hide hgr9; replace hb9 := hide hb9)
            refine bodyPost_ret (results_cell1 rfl (by rfl) hb9.out Yabn.underlying89 size_item) rfl ?_
            exact .inr ⟨_, _, _, _, hz.out, rfl, h5.out.new hgr9.out sd5.out, f5.out.new hgr9.out (Nat.le_refl _), hgp.out⟩
end Go.Proofs.YbyabwGreat
