/- Walk: item of impl's parser -/
import Derived.Test.YbyabwGreatPrsL
import Derived.Test.YbyabwGreatParseQ
namespace Go.Proofs.YbyabwGreat
open Go.RowKit
set_option maxRecDepth 100000
set_option linter.unusedVariables false

section
variable {T : TypeId} {tl : List Value} {w w' w1 X : World} {S D : Nat} {ta : Option Addr} {tc : Nat} {ts : List (Int × Int)} {s : PS} {v v1 : Value}
theorem PrsAt.but {Q : Nat → Prop} (h : PrsAt T tl w S ta tc ts s v) (hb : But Q w w') (h1 : ¬ Q S) (h2 : ∀ k, v.ownBlock = some k → ¬ Q k) (h3 : ∀ p, ta = some p → ¬ Q p.block) : PrsAt T tl w' S ta tc ts s v :=
  ⟨hb.blk h.blk h1, h.nodes.butS hb h2, h.toks.butS hb h3, h.tb, h.le, h.len, h.ndl, h.dep⟩
theorem PrsAt.own_lt (h : PrsAt T tl w S ta tc ts s v) : ∀ k, v.ownBlock = some k → k < w.heap.size := fun k hk => (World.ownsRow.lt h.nodes.2 k hk).2
/-- A block besides the parser's. -/
structure Side (S D : Nat) (v : Value) : Prop where
  s : S < D
  v : v.ownBlock ≠ some D
theorem Side.step (h : Side S D v) (hf : Fr S v v1 X w1) (hD : D < X.heap.size) : Side S D v1 := ⟨h.s, fun hh => by
  rcases hf.own D hh with h1 | h1
  · exact h.v h1
  · omega⟩
theorem Side.blk {e : TypeId} {vs : List Value} (h : Side S D v) (hf : Fr S v v1 X w1) (hb : Blk X D e vs) : Blk w1 D e vs := hf.but.blk hb (fun hh => by
  rcases hh with hh | hh
  · have := h.s; omega
  · exact h.v hh)
theorem Side.row {base : Nat} {e : TypeId} {size : Nat} {u : Value} {n : Nat} {xs : List Value} (hs : ∀ k, u.ownBlock = some k → Side S k v) (hf : Fr S v v1 X w1) (ho : X.ownsRow base e size u n xs) : w1.ownsRow base e size u n xs := hf.but.row ho (fun k hk hh => by
  have h := hs k hk
  rcases hh with hh | hh
  · have := h.s; omega
  · exact h.v hh)
theorem Fr.drop' (h : Fr S v v1 w w') : Fr S v (.slice none 0 0) w w' := ⟨h.but, fun q hq => by cases hq⟩
theorem Fr.new (h : Fr S v v1 w w1) (hg : w1.grownBy w' (some D)) (hD : w.heap.size ≤ D) : Fr S v v1 w w' := by
  refine ⟨⟨hg.os.trans h.but.os, hg.tape.trans h.but.tape, hg.output.trans h.but.output, Nat.le_trans h.but.size hg.size, fun k hk hn => ?_⟩, h.own⟩
  exact (hg.block k (Nat.lt_of_lt_of_le hk h.but.size) (by simp; omega)).trans (h.but.block k hk hn)
theorem PrsAt.new (h : PrsAt T tl w1 S ta tc ts s v) (hg : w1.grownBy w' (some D)) (hs : Side S D v) : PrsAt T tl w' S ta tc ts s v := by
  have h1 := hs.s
  refine h.but (But.of_grown (S := fun q => q = D) hg (fun q hq => by cases hq; rfl)) (by omega) (fun k hk hh => hs.v (hh ▸ hk)) (fun p hp => ?_)
  have := h.tb p hp
  omega
end
def RetItI (ts : List (Int × Int)) (s : PS) (S : Nat) (ta : Option Addr) (tc : Nat) (v : Value) (w : World) : Ending → World → Prop := fun en w' =>
  (It ts s none ∧ en = .returned (.tuple #[.agg #[.int .i64 0, .int .i64 0], .bool false]) ∧ Fr S v (.slice none 0 0) w w') ∨
  (∃ a x s' v', It ts s (some ((a, x), s')) ∧ en = .returned (.tuple #[.agg #[.int .i64 a, .int .i64 x], .bool true]) ∧ PrsI w' S ta tc ts s' v' ∧ Fr S v v' w w' ∧ s.pos < s'.pos)
theorem size_item : (Yabn.prog.info? 89).map (·.size) = some 2 := by kernel_rfl

set_option maxHeartbeats 8000000 in
theorem I.item (ts : List (Int × Int)) (S : Nat) (ta : Option Addr) (tc : Nat) (s : PS) (v : Value) (w : World) (h : Hid (PrsI w S ta tc ts s v)) :
    Calls Yabn.prog 36 #[.pointer (some ⟨S, 0, none⟩)] w (RetItI ts s S ta tc v w) := by
  have hSl := h.out.blk.lt
  have hsd : Hid (Side S w.heap.size v) := ⟨hSl, fun hh => by have := h.out.own_lt _ hh; omega⟩
  have hb0 : Hid (Blk (w.alloc (.cells #[.int .i64 0, .int .i64 0] 89)) w.heap.size 89 [.int .i64 0, .int .i64 0]) := Blk.new w _ _
  have h0 : Hid (PrsI (w.alloc (.cells #[.int .i64 0, .int .i64 0] 89)) S ta tc ts s v) := h.out.ext ((Ext.refl w).alloc _)
  have f0 : Hid (Fr S v v w (w.alloc (.cells #[.int .i64 0, .int .i64 0] 89))) := Fr.of_ext ((Ext.refl w).alloc _)
  have hsz : Hid (w.heap.size < (w.alloc (.cells #[.int .i64 0, .int .i64 0] 89)).heap.size) := by show w.heap.size < _; simp
  obtain ⟨k, hk⟩ : ∃ k, Hid (pk ts s.pos = k) := ⟨_, rfl⟩
  go_enter Yabn.func36, Yabn.ntmps36
  go_wp2_with fail
  generalize (w.alloc (.cells #[.int .i64 0, .int .i64 0] 89)) = X at *
  refine (I.peek S ta tc ts s v k hk X h0).mono ?_
  rintro e w3 ⟨rfl, x3⟩
  have h3 := hide (h0.out.ext x3)
  have hb3 := hide (hb0.out.ext x3)
  have f3 : Hid (Fr S v v w w3) := f0.out.trans (Fr.of_ext x3)
  have hz3 : Hid (w.heap.size < w3.heap.size) := Nat.lt_of_lt_of_le hsz.out x3.size
  clear x3 h0 hb0 f0 hsz h
  by_cases ha : 9 ≤ k ∧ k ≤ 12
  · have ha0 : Hid (9 ≤ pk ts s.pos ∧ pk ts s.pos ≤ 12) := by rw [hk.out]; exact ha
    obtain ⟨h9, h12⟩ := ha
    have hlt := pk_lt hk.out (by omega)
    obtain ⟨k1', hk1⟩ : ∃ k, Hid (pk ts s.adv.pos = k) := ⟨_, rfl⟩
    have k1 := h3.out.c1
    have fz := h3.out.fz 1
    have hl := h3.out.len
    have hA : Hid (PrsI (w3.setCell ⟨S, 1, none⟩ (.int .i64 ((s.pos : Int) + 1))) S ta tc ts s.adv v) := h3.out.adv hlt
    have hAf : Hid (Fr S v v w3 (w3.setCell ⟨S, 1, none⟩ (.int .i64 ((s.pos : Int) + 1)))) := Fr.set _ _ _
    replace hb3 := hide (hsd.out.blk hAf.out hb3.out)
    replace f3 := hide (f3.out.trans hAf.out)
    replace hz3 := hide (Nat.lt_of_lt_of_le hz3.out hAf.out.but.size)
    go_wp2_with fail
    generalize (w3.setCell ⟨S, 1, none⟩ (.int .i64 ((s.pos : Int) + 1))) = w4 at *
    replace h3 := hA
    clear hA hAf k1 fz
    refine (I.peek S ta tc ts s.adv v k1' hk1 w4 h3).mono ?_
    rintro e w6 ⟨rfl, x3⟩
    replace h3 := hide (h3.out.ext x3)
    replace hb3 := hide (hb3.out.ext x3)
    replace f3 : Hid (Fr S v v w w6) := f3.out.trans (Fr.of_ext x3)
    replace hz3 := hide (Nat.lt_of_lt_of_le hz3.out x3.size)
    clear x3 hlt
    by_cases hk15 : k1' = 15
    · subst hk15
      have hlt := pk_lt hk1.out (by decide)
      by_cases hk12 : k = 12
      · subst hk12
        clear h9 h12
        obtain ⟨k2', hk2⟩ : ∃ k, Hid (pk ts s.adv.adv.pos = k) := ⟨_, rfl⟩
        have k1 := h3.out.c1
        have fz := h3.out.fz 1
        have hl := h3.out.len
        have hA : Hid (PrsI (w6.setCell ⟨S, 1, none⟩ (.int .i64 ((s.adv.pos : Int) + 1))) S ta tc ts s.adv.adv v) := h3.out.adv hlt
        have hAf : Hid (Fr S v v w6 (w6.setCell ⟨S, 1, none⟩ (.int .i64 ((s.adv.pos : Int) + 1)))) := Fr.set _ _ _
        replace hb3 := hide (hsd.out.blk hAf.out hb3.out)
        replace f3 := hide (f3.out.trans hAf.out)
        replace hz3 := hide (Nat.lt_of_lt_of_le hz3.out hAf.out.but.size)
        go_wp2_with fail
        generalize (w6.setCell ⟨S, 1, none⟩ (.int .i64 ((s.adv.pos : Int) + 1))) = w7 at *
        replace h3 := hA
        clear hA hAf k1 fz
        refine (I.peek S ta tc ts s.adv.adv v k2' hk2 w7 h3).mono ?_
        rintro e w5 ⟨rfl, x3⟩
        replace h3 := hide (h3.out.ext x3)
        replace hb3 := hide (hb3.out.ext x3)
        replace f3 : Hid (Fr S v v w w5) := f3.out.trans (Fr.of_ext x3)
        replace hz3 := hide (Nat.lt_of_lt_of_le hz3.out x3.size)
        clear x3 hlt
        by_cases hk18 : k2' = 18
        · subst hk18
          have hst : Hid (pk ts s.pos = 12 ∧ pk ts s.adv.adv.pos = 18) := ⟨hk.out, hk2.out⟩
          have hlt := pk_lt hk2.out (by decide)
          obtain ⟨k3', hk3⟩ : ∃ k, Hid (pk ts s.adv.adv.adv.pos = k) := ⟨_, rfl⟩
          have k1 := h3.out.c1
          have fz := h3.out.fz 1
          have hl := h3.out.len
          have hA : Hid (PrsI (w5.setCell ⟨S, 1, none⟩ (.int .i64 ((s.adv.adv.pos : Int) + 1))) S ta tc ts s.adv.adv.adv v) := h3.out.adv hlt
          have hAf : Hid (Fr S v v w5 (w5.setCell ⟨S, 1, none⟩ (.int .i64 ((s.adv.adv.pos : Int) + 1)))) := Fr.set _ _ _
          replace hb3 := hide (hsd.out.blk hAf.out hb3.out)
          replace f3 := hide (f3.out.trans hAf.out)
          replace hz3 := hide (Nat.lt_of_lt_of_le hz3.out hAf.out.but.size)
          go_wp2_with fail
          generalize (w5.setCell ⟨S, 1, none⟩ (.int .i64 ((s.adv.adv.pos : Int) + 1))) = w8 at *
          replace h3 := hA
          clear hA hAf k1 fz
          refine (I.peek S ta tc ts s.adv.adv.adv v k3' hk3 w8 h3).mono ?_
          rintro e w9 ⟨rfl, x3⟩
          replace h3 := hide (h3.out.ext x3)
          replace hb3 := hide (hb3.out.ext x3)
          replace f3 : Hid (Fr S v v w w9) := f3.out.trans (Fr.of_ext x3)
          clear x3 hlt hz3
          by_cases hk16 : k3' = 16
          · subst hk16
            have hz := hide (It.stS ha0.out hk1.out hst.out hk3.out)
            have hlt := pk_lt hk3.out (by decide)
            have hgp : Hid (s.pos < s.adv.adv.adv.adv.pos) := by show s.pos < s.pos + 1 + 1 + 1 + 1; omega
            have k1 := h3.out.c1
            have fz := h3.out.fz 1
            have hl := h3.out.len
            have hA : Hid (PrsI (w9.setCell ⟨S, 1, none⟩ (.int .i64 ((s.adv.adv.adv.pos : Int) + 1))) S ta tc ts s.adv.adv.adv.adv v) := h3.out.adv hlt
            have hAf : Hid (Fr S v v w9 (w9.setCell ⟨S, 1, none⟩ (.int .i64 ((s.adv.adv.adv.pos : Int) + 1)))) := Fr.set _ _ _
            replace hb3 := hide (hsd.out.blk hAf.out hb3.out)
            replace f3 := hide (f3.out.trans hAf.out)
            clear h3
            go_wp2_with (refine wpList_storeB (vs := [.int .i64 5, .int .i64 (-1)]) rfl rfl (by rfl) (by rfl) hb3.out size_item rfl (by simp [Value.oneCell']) ?_; intro w9 hb9 hgr9; replace hgr9 := hide hgr9; replace hb9 := hide hb9)
            refine bodyPost_ret (results_cell2 rfl (by rfl) hb9.out Yabn.underlying89 size_item) rfl ?_
            exact .inr ⟨_, _, _, _, hz.out, rfl, hA.out.new hgr9.out hsd.out, f3.out.new hgr9.out (Nat.le_refl _), hgp.out⟩
          · have hk16' : (k3' != 16) = true := by simpa using hk16
            have hz := hide (It.stN ha0.out hk1.out hst.out (by rw [hk3.out]; exact hk16))
            go_wp2_with (refine wpList_storeB (vs := [.int .i64 0, .int .i64 0]) rfl rfl (by rfl) (by rfl) hb3.out size_item rfl (by simp [Value.oneCell']) ?_; intro w9 hb9 hgr9; replace hgr9 := hide hgr9; replace hb9 := hide hb9)
            refine bodyPost_ret (results_cell2 rfl (by rfl) hb9.out Yabn.underlying89 size_item) rfl ?_
            exact .inl ⟨hz.out, rfl, f3.out.drop'.new hgr9.out (Nat.le_refl _)⟩
        · have hk18' : (k2' == 18) = false := by simpa using hk18
          have hst : Hid (¬ (pk ts s.pos = 12 ∧ pk ts s.adv.adv.pos = 18)) := by rw [hk2.out]; exact fun hh => hk18 hh.2
          go_wp2_with fail
          · refine (I.exprAll ts S ta tc s.adv.adv v w5 h3).mono ?_
            rintro e w7 (⟨hp, rfl, hf⟩ | ⟨y, s5, v5, hp, rfl, h5, hf⟩)
            · have hz := hide (It.exN ha0.out hk1.out hst.out hp)
              have f5 := hide (f3.out.trans hf)
              have hb5 := hide (hsd.out.blk hf hb3.out)
              clear hp hf
              go_wp2_with (refine wpList_storeB (vs := [.int .i64 0, .int .i64 0]) rfl rfl (by rfl) (by rfl) hb5.out size_item rfl (by simp [Value.oneCell']) ?_; intro w9 hb9 hgr9; replace hgr9 := hide hgr9; replace hb9 := hide hb9)
              refine bodyPost_ret (results_cell2 rfl (by rfl) hb9.out Yabn.underlying89 size_item) rfl ?_
              exact .inl ⟨hz.out, rfl, f5.out.drop'.new hgr9.out (Nat.le_refl _)⟩
            · have hgp0 := hp.grow.2.1 (by omega)
              simp only [PS.adv] at hgp0
              have f5 := hide (f3.out.trans hf)
              have hb5 := hide (hsd.out.blk hf hb3.out)
              have sd5 := hide (hsd.out.step hf hz3.out)
              have hz5 := hide (Nat.lt_of_lt_of_le hz3.out hf.but.size)
              replace h5 := hide h5
              replace hp := hide hp
              obtain ⟨k5, hk5⟩ : ∃ k, Hid (pk ts s5.pos = k) := ⟨_, rfl⟩
              clear hf h3 f3 hb3 hz3 hsd
              go_wp2_with fail
              refine (I.peek S ta tc ts s5 v5 k5 hk5 w7 h5).mono ?_
              rintro e w8 ⟨rfl, x8⟩
              have h3 := hide (h5.out.ext x8)
              have hb3 := hide (hb5.out.ext x8)
              have f3 : Hid (Fr S v v5 w w8) := f5.out.trans (Fr.of_ext x8)
              have hz3 := hide (Nat.lt_of_lt_of_le hz5.out x8.size)
              have hsd := sd5
              clear x8 h5 hb5 f5 hz5 sd5
              by_cases hk16 : k5 = 16
              · subst hk16
                have hlt := pk_lt hk5.out (by decide)
                have hz0 := It.exS ha0.out hk1.out hst.out hp.out hk5.out
                rw [hk.out] at hz0
                have hz := hide hz0
                have hgp : Hid (s.pos < s5.adv.pos) := by show s.pos < s5.pos + 1; omega
                clear hz0
                have k1 := h3.out.c1
                have fz := h3.out.fz 1
                have hl := h3.out.len
                have hA : Hid (PrsI (w8.setCell ⟨S, 1, none⟩ (.int .i64 ((s5.pos : Int) + 1))) S ta tc ts s5.adv v5) := h3.out.adv hlt
                have hAf : Hid (Fr S v5 v5 w8 (w8.setCell ⟨S, 1, none⟩ (.int .i64 ((s5.pos : Int) + 1)))) := Fr.set _ _ _
                replace hb3 := hide (hsd.out.blk hAf.out hb3.out)
                replace f3 := hide (f3.out.trans hAf.out)
                clear h3
                go_wp2_with (refine wpList_storeB (vs := [.int .i64 4, .int .i64 y]) rfl rfl (by rfl) (by rfl) hb3.out size_item rfl (by simp [Value.oneCell']) ?_; intro w9 hb9 hgr9; replace hgr9 := hide hgr9; replace hb9 := hide hb9)
                refine bodyPost_ret (results_cell2 rfl (by rfl) hb9.out Yabn.underlying89 size_item) rfl ?_
                exact .inr ⟨_, _, _, _, hz.out, rfl, hA.out.new hgr9.out hsd.out, f3.out.new hgr9.out (Nat.le_refl _), hgp.out⟩
              · have hk16' : (k5 != 16) = true := by simpa using hk16
                have hz := hide (It.exP ha0.out hk1.out hst.out hp.out (by rw [hk5.out]; exact hk16))
                go_wp2_with (refine wpList_storeB (vs := [.int .i64 0, .int .i64 0]) rfl rfl (by rfl) (by rfl) hb3.out size_item rfl (by simp [Value.oneCell']) ?_; intro w9 hb9 hgr9; replace hgr9 := hide hgr9; replace hb9 := hide hb9)
                refine bodyPost_ret (results_cell2 rfl (by rfl) hb9.out Yabn.underlying89 size_item) rfl ?_
                exact .inl ⟨hz.out, rfl, f3.out.drop'.new hgr9.out (Nat.le_refl _)⟩
      · have hk12' : (k == 12) = false := by simpa using hk12
        have hst : Hid (¬ (pk ts s.pos = 12 ∧ pk ts s.adv.adv.pos = 18)) := by rw [hk.out]; exact fun hh => hk12 hh.1
        have k1 := h3.out.c1
        have fz := h3.out.fz 1
        have hl := h3.out.len
        have hA : Hid (PrsI (w6.setCell ⟨S, 1, none⟩ (.int .i64 ((s.adv.pos : Int) + 1))) S ta tc ts s.adv.adv v) := h3.out.adv hlt
        have hAf : Hid (Fr S v v w6 (w6.setCell ⟨S, 1, none⟩ (.int .i64 ((s.adv.pos : Int) + 1)))) := Fr.set _ _ _
        replace hb3 := hide (hsd.out.blk hAf.out hb3.out)
        replace f3 := hide (f3.out.trans hAf.out)
        replace hz3 := hide (Nat.lt_of_lt_of_le hz3.out hAf.out.but.size)
        go_wp2_with fail
        generalize (w6.setCell ⟨S, 1, none⟩ (.int .i64 ((s.adv.pos : Int) + 1))) = w5 at *
        replace h3 := hA
        clear hA hAf k1 fz
        · refine (I.exprAll ts S ta tc s.adv.adv v w5 h3).mono ?_
          rintro e w7 (⟨hp, rfl, hf⟩ | ⟨y, s5, v5, hp, rfl, h5, hf⟩)
          · have hz := hide (It.exN ha0.out hk1.out hst.out hp)
            have f5 := hide (f3.out.trans hf)
            have hb5 := hide (hsd.out.blk hf hb3.out)
            clear hp hf
            go_wp2_with (refine wpList_storeB (vs := [.int .i64 0, .int .i64 0]) rfl rfl (by rfl) (by rfl) hb5.out size_item rfl (by simp [Value.oneCell']) ?_; intro w9 hb9 hgr9; replace hgr9 := hide hgr9; replace hb9 := hide hb9)
            refine bodyPost_ret (results_cell2 rfl (by rfl) hb9.out Yabn.underlying89 size_item) rfl ?_
            exact .inl ⟨hz.out, rfl, f5.out.drop'.new hgr9.out (Nat.le_refl _)⟩
          · have hgp0 := hp.grow.2.1 (by omega)
            simp only [PS.adv] at hgp0
            have f5 := hide (f3.out.trans hf)
            have hb5 := hide (hsd.out.blk hf hb3.out)
            have sd5 := hide (hsd.out.step hf hz3.out)
            have hz5 := hide (Nat.lt_of_lt_of_le hz3.out hf.but.size)
            replace h5 := hide h5
            replace hp := hide hp
            obtain ⟨k5, hk5⟩ : ∃ k, Hid (pk ts s5.pos = k) := ⟨_, rfl⟩
            clear hf h3 f3 hb3 hz3 hsd
            go_wp2_with fail
            refine (I.peek S ta tc ts s5 v5 k5 hk5 w7 h5).mono ?_
            rintro e w8 ⟨rfl, x8⟩
            have h3 := hide (h5.out.ext x8)
            have hb3 := hide (hb5.out.ext x8)
            have f3 : Hid (Fr S v v5 w w8) := f5.out.trans (Fr.of_ext x8)
            have hz3 := hide (Nat.lt_of_lt_of_le hz5.out x8.size)
            have hsd := sd5
            clear x8 h5 hb5 f5 hz5 sd5
            by_cases hk16 : k5 = 16
            · subst hk16
              have hlt := pk_lt hk5.out (by decide)
              have hz0 := It.exS ha0.out hk1.out hst.out hp.out hk5.out
              rw [hk.out] at hz0
              have hz := hide hz0
              have hgp : Hid (s.pos < s5.adv.pos) := by show s.pos < s5.pos + 1; omega
              clear hz0
              have k1 := h3.out.c1
              have fz := h3.out.fz 1
              have hl := h3.out.len
              have hA : Hid (PrsI (w8.setCell ⟨S, 1, none⟩ (.int .i64 ((s5.pos : Int) + 1))) S ta tc ts s5.adv v5) := h3.out.adv hlt
              have hAf : Hid (Fr S v5 v5 w8 (w8.setCell ⟨S, 1, none⟩ (.int .i64 ((s5.pos : Int) + 1)))) := Fr.set _ _ _
              replace hb3 := hide (hsd.out.blk hAf.out hb3.out)
              replace f3 := hide (f3.out.trans hAf.out)
              clear h3
              go_wp2_with (refine wpList_storeB (vs := [.int .i64 (k - 8), .int .i64 y]) rfl rfl (by rfl) (by rfl) hb3.out size_item rfl (by simp [Value.oneCell']) ?_; intro w9 hb9 hgr9; replace hgr9 := hide hgr9; replace hb9 := hide hb9)
              refine bodyPost_ret (results_cell2 rfl (by rfl) hb9.out Yabn.underlying89 size_item) rfl ?_
              exact .inr ⟨_, _, _, _, hz.out, rfl, hA.out.new hgr9.out hsd.out, f3.out.new hgr9.out (Nat.le_refl _), hgp.out⟩
            · have hk16' : (k5 != 16) = true := by simpa using hk16
              have hz := hide (It.exP ha0.out hk1.out hst.out hp.out (by rw [hk5.out]; exact hk16))
              go_wp2_with (refine wpList_storeB (vs := [.int .i64 0, .int .i64 0]) rfl rfl (by rfl) (by rfl) hb3.out size_item rfl (by simp [Value.oneCell']) ?_; intro w9 hb9 hgr9; replace hgr9 := hide hgr9; replace hb9 := hide hb9)
              refine bodyPost_ret (results_cell2 rfl (by rfl) hb9.out Yabn.underlying89 size_item) rfl ?_
              exact .inl ⟨hz.out, rfl, f3.out.drop'.new hgr9.out (Nat.le_refl _)⟩
    · have hk15' : (k1' != 15) = true := by simpa using hk15
      have hz := hide (It.agL ha0.out (by rw [hk1.out]; exact hk15))
      go_wp2_with (refine wpList_storeB (vs := [.int .i64 0, .int .i64 0]) rfl rfl (by rfl) (by rfl) hb3.out size_item rfl (by simp [Value.oneCell']) ?_; intro w9 hb9 hgr9; replace hgr9 := hide hgr9; replace hb9 := hide hb9)
      refine bodyPost_ret (results_cell2 rfl (by rfl) hb9.out Yabn.underlying89 size_item) rfl ?_
      exact .inl ⟨hz.out, rfl, f3.out.drop'.new hgr9.out (Nat.le_refl _)⟩
  · have ha0 : Hid (¬ (9 ≤ pk ts s.pos ∧ pk ts s.pos ≤ 12)) := by rw [hk.out]; exact ha
    have hd : ((decide (9 ≤ k)) && (decide (k ≤ 12))) = false := by
      by_cases h9 : 9 ≤ k
      · have : ¬ k ≤ 12 := fun hh => ha ⟨h9, hh⟩
        simp [this]
      · simp [h9]
    by_cases h9 : 9 ≤ k
    · have h12 : ¬ k ≤ 12 := fun hh => ha ⟨h9, hh⟩
      clear hd ha
      go_wp2_with fail
      refine (I.exprAll ts S ta tc s v w3 h3).mono ?_
      rintro e w5 (⟨hp, rfl, hf⟩ | ⟨y, s5, v5, hp, rfl, h5, hf⟩)
      · have hz := hide (It.plN ha0.out hp)
        have f5 := hide (f3.out.trans hf)
        have hb5 := hide (hsd.out.blk hf hb3.out)
        clear hp hf
        go_wp2_with (refine wpList_storeB (vs := [.int .i64 0, .int .i64 0]) rfl rfl (by rfl) (by rfl) hb5.out size_item rfl (by simp [Value.oneCell']) ?_; intro w9 hb9 hgr9; replace hgr9 := hide hgr9; replace hb9 := hide hb9)
        refine bodyPost_ret (results_cell2 rfl (by rfl) hb9.out Yabn.underlying89 size_item) rfl ?_
        exact .inl ⟨hz.out, rfl, f5.out.drop'.new hgr9.out (Nat.le_refl _)⟩
      · have hz := hide (It.plS ha0.out hp)
        have hgp : Hid (s.pos < s5.pos) := hp.grow.2.1 (by omega)
        have f5 := hide (f3.out.trans hf)
        have hb5 := hide (hsd.out.blk hf hb3.out)
        have sd5 := hide (hsd.out.step hf hz3.out)
        replace h5 := hide h5
        clear hp hf
        go_wp2_with (refine wpList_storeB (vs := [.int .i64 0, .int .i64 y]) rfl rfl (by rfl) (by rfl) hb5.out size_item rfl (by simp [Value.oneCell']) ?_; intro w9 hb9 hgr9; replace hgr9 := hide hgr9; replace hb9 := hide hb9)
        refine bodyPost_ret (results_cell2 rfl (by rfl) hb9.out Yabn.underlying89 size_item) rfl ?_
        exact .inr ⟨_, _, _, _, hz.out, rfl, h5.out.new hgr9.out sd5.out, f5.out.new hgr9.out (Nat.le_refl _), hgp.out⟩
    · clear hd ha
      go_wp2_with fail
      refine (I.exprAll ts S ta tc s v w3 h3).mono ?_
      rintro e w5 (⟨hp, rfl, hf⟩ | ⟨y, s5, v5, hp, rfl, h5, hf⟩)
      · have hz := hide (It.plN ha0.out hp)
        have f5 := hide (f3.out.trans hf)
        have hb5 := hide (hsd.out.blk hf hb3.out)
        clear hp hf
        go_wp2_with (refine wpList_storeB (vs := [.int .i64 0, .int .i64 0]) rfl rfl (by rfl) (by rfl) hb5.out size_item rfl (by simp [Value.oneCell']) ?_; intro w9 hb9 hgr9; replace hgr9 := hide hgr9; replace hb9 := hide hb9)
        refine bodyPost_ret (results_cell2 rfl (by rfl) hb9.out Yabn.underlying89 size_item) rfl ?_
        exact .inl ⟨hz.out, rfl, f5.out.drop'.new hgr9.out (Nat.le_refl _)⟩
      · have hz := hide (It.plS ha0.out hp)
        have hgp : Hid (s.pos < s5.pos) := hp.grow.2.1 (by omega)
        have f5 := hide (f3.out.trans hf)
        have hb5 := hide (hsd.out.blk hf hb3.out)
        have sd5 := hide (hsd.out.step hf hz3.out)
        replace h5 := hide h5
        clear hp hf
        go_wp2_with (refine wpList_storeB (vs := [.int .i64 0, .int .i64 y]) rfl rfl (by rfl) (by rfl) hb5.out size_item rfl (by simp [Value.oneCell']) ?_; intro w9 hb9 hgr9; replace hgr9 := hide hgr9; replace hb9 := hide hb9)
        refine bodyPost_ret (results_cell2 rfl (by rfl) hb9.out Yabn.underlying89 size_item) rfl ?_
        exact .inr ⟨_, _, _, _, hz.out, rfl, h5.out.new hgr9.out sd5.out, f5.out.new hgr9.out (Nat.le_refl _), hgp.out⟩
end Go.Proofs.YbyabwGreat
