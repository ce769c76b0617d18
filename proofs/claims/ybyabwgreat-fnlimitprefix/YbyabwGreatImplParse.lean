/- Walk: impl.Parse -/
import Derived.Test.YbyabwGreatPrsQ
import Derived.Test.YbyabwGreatLex4
namespace Go.Proofs.YbyabwGreat
open Go.RowKit
set_option maxRecDepth 100000
set_option linter.unusedVariables false

set_option maxHeartbeats 32000000 in
theorem Parse (x : ByteArray) (w : World) : Calls Yabn.prog 17 #[.string x] w (RetQ x w) := by
  have hb0 : Hid (Blk (w.alloc (.cells #[.slice none 0 0, .slice none 0 0, .int .i64 0, .slice none 0 0, .int .i64 0] 53)) w.heap.size 53 qz) := Blk.new w _ _
  have x0 : Hid (Ext w (w.alloc (.cells #[.slice none 0 0, .slice none 0 0, .int .i64 0, .slice none 0 0, .int .i64 0] 53))) := (Ext.refl w).alloc _
  have z0 : Hid (w.heap.size < (w.alloc (.cells #[.slice none 0 0, .slice none 0 0, .int .i64 0, .slice none 0 0, .int .i64 0] 53)).heap.size) := by show w.heap.size < _; simp
  obtain ⟨R, hR⟩ : ∃ R, Hid (tokens x = R) := ⟨_, rfl⟩
  go_enter Yabn.func17, Yabn.ntmps17
  go_wp2_with fail
  generalize (w.alloc (.cells #[.slice none 0 0, .slice none 0 0, .int .i64 0, .slice none 0 0, .int .i64 0] 53)) = X0 at *
  refine (TokenizeAll x R hR.out X0).mono ?_
  rintro e w1 ⟨x1, ⟨rfl, rfl⟩ | ⟨ts, ta, tc, rfl, rfl, hlen, own⟩⟩
  · have hz : Hid (Pq x none) := .inl ⟨hR.out, rfl⟩
    have hb1 := hide (hb0.out.ext x1)
    have ex1 : Hid (Ext w w1) := x0.out.trans x1
    clear x1 hb0 x0
    go_wp2_with (refine wpList_storeB (vs := qz) rfl rfl (by rfl) (by rfl) hb1.out size_query rfl qz_one ?_; intro w99 hb99 hgr99; replace hgr99 := hide hgr99; replace hb99 := hide hb99)
    refine bodyPost_ret (results_cell2 rfl (by rfl) hb99.out Yabn.underlying53 size_query) rfl ?_
    exact ⟨ex1.out.setNew hgr99.out, .inl ⟨hz.out, rfl⟩⟩
  · have hlow : Hid (w.heap.size < w1.heap.size) := Nat.lt_of_lt_of_le z0.out x1.size
    have hP : Hid (PI 87 [] w (w1.alloc (.cells #[.slice ta ts.length tc, .int .i64 0, .slice none 0 0, .int .i64 0] 87)) w1.heap.size ta tc ts ⟨0, [], 0⟩ (.slice none 0 0)) := by
      refine ⟨⟨Blk.new w1 _ _, OwnN.nil _ _ _, own.pairs.ext ((Ext.refl w1).alloc _), fun p hp => ?_, Nat.zero_le _, hlen, Nat.zero_le _, Nat.zero_le _⟩, (hb0.out.ext x1).alloc _, (x0.out.trans x1).alloc _, hlow.out⟩
      obtain ⟨a', c', e', h'⟩ := own.form
      injection e' with e1 e2 e3
      rcases h' with ⟨h1, _⟩ | ⟨g, h1⟩
      · rw [e1, h1] at hp; cases hp
      · rw [e1, h1] at hp
        cases hp
        have := own
        rw [e1, h1] at this
        exact this.lt.2
    have hgo0 : Hid (∀ r, Q0 ts r → Pq x r) := fun r hr => .inr ⟨ts, hR.out, hr⟩
    have hI : Hid (OwnP (w1.alloc (.cells #[.slice ta ts.length tc, .int .i64 0, .slice none 0 0, .int .i64 0] 87)) (w1.heap.size + 1) 89 (.slice none 0 0) []) := OwnP.nil _ _ _
    have hG : Hid (OwnI (w1.alloc (.cells #[.slice ta ts.length tc, .int .i64 0, .slice none 0 0, .int .i64 0] 87)) (w1.heap.size + 1) 3 (.slice none 0 0) []) := OwnI.nil _ _ _
    clear own x1 hb0 x0 hlen z0
    obtain ⟨k0, hk0⟩ : ∃ k, Hid (pk ts (⟨0, [], 0⟩ : PS).pos = k) := ⟨_, rfl⟩
    go_wp2_with fail
    generalize (w1.alloc (.cells #[.slice ta ts.length tc, .int .i64 0, .slice none 0 0, .int .i64 0] 87)) = W2 at *
    refine (I.peek w1.heap.size ta tc ts ⟨0, [], 0⟩ (.slice none 0 0) k0 hk0 W2 hP.out.prs).mono ?_
    rintro e W3 ⟨rfl, x3⟩
    replace hP := hide (hP.out.ext x3)
    replace hI := hide (hI.out.ext x3)
    replace hG := hide (hG.out.ext x3)
    clear x3
    by_cases h1 : ¬ k0 = 1
    · have h1' : (k0 != 1) = true := by simpa using h1
      have hz := hide (hgo0.out _ (Q0.no (by rw [show pk ts 0 = k0 from hk0.out]; exact h1)))
      have hb9 : Hid (Blk W3 w.heap.size 53 qz) := hP.out.blk
      have ex9 : Hid (Ext w W3) := hP.out.ex
      clear hP
      go_wp2_with (refine wpList_storeB (vs := qz) rfl rfl (by rfl) (by rfl) hb9.out size_query rfl qz_one ?_; intro w99 hb99 hgr99; replace hgr99 := hide hgr99; replace hb99 := hide hb99)
      refine bodyPost_ret (results_cell2 rfl (by rfl) hb99.out Yabn.underlying53 size_query) rfl ?_
      exact ⟨ex9.out.setNew hgr99.out, .inl ⟨hz.out, rfl⟩⟩
    have h1 : k0 = 1 := by omega
    subst h1
    have hlt := pk_lt hk0.out (by decide)
    have hq1 : Hid (∀ r, Q1 ts [] ⟨1, [], 0⟩ r → Pq x r) := fun r hr => hgo0.out r (Q0.yes hk0.out hr)
    clear hgo0 hlow
    have k1 := hP.out.prs.c1
    have fz := hP.out.prs.fz 1
    have hA : Hid (PI 87 [] w (W3.setCell ⟨w1.heap.size, 1, none⟩ (.int .i64 1)) w1.heap.size ta tc ts ⟨1, [], 0⟩ (.slice none 0 0)) := hP.out.adv hlt
    have hAf : Hid (Fr w1.heap.size (.slice none 0 0) (.slice none 0 0) W3 (W3.setCell ⟨w1.heap.size, 1, none⟩ (.int .i64 1))) := Fr.set _ _ _
    replace hI := hide (hI.out.frN hP.out.prs hAf.out (Nat.le_refl _) (by decide))
    replace hG := hide (hG.out.frN hP.out.prs hAf.out (Nat.le_refl _) (by decide))
    go_wp2_with fail
    generalize (W3.setCell ⟨w1.heap.size, 1, none⟩ (.int .i64 1)) = W4 at *
    replace hP := hA
    have hla : Hid (([] : List (Int × Int)).length ≤ (1 : Nat)) := by show 0 ≤ 1; omega
    clear hA hAf k1 fz hk0 hlt
    refine (I.item ts w1.heap.size ta tc (⟨1, [], 0⟩ : PS) (.slice none 0 0) W4 hP.out.prs).mono ?_
    rintro e w5 (⟨hit, rfl, hf⟩ | ⟨a, y, s5, v5, hit, rfl, h5, hf, hgp⟩)
    · have hz := hide (hq1.out _ (Q1.no hit))
      have hb9 := hide (hP.out.keep hf).1
      have ex9 := hide (hP.out.keep hf).2
      clear hf hit hP
      go_wp2_with (first
        | (refine wpList_storeB (vs := [.int .i64 0, .int .i64 0]) rfl rfl (by rfl) (by rfl) (Blk.new w5 _ _) size_item rfl (by simp [Value.oneCell']) ?_; intro w6 hb6 hgr6; have x6 : Hid (Ext w5 w6) := ((Ext.refl w5).alloc _).grown hgr6 (fun k hk => by cases hk; exact Nat.le_refl _); replace hb9 := hide (hb9.out.ext x6.out); replace ex9 : Hid (Ext w w6) := ex9.out.trans x6.out; clear hb6 hgr6 x6)
        | (refine wpList_storeB (vs := qz) rfl rfl (by rfl) (by rfl) hb9.out size_query rfl qz_one ?_; intro w99 hb99 hgr99; replace hgr99 := hide hgr99; replace hb99 := hide hb99))
      refine bodyPost_ret (results_cell2 rfl (by rfl) hb99.out Yabn.underlying53 size_query) rfl ?_
      exact ⟨ex9.out.setNew hgr99.out, .inl ⟨hz.out, rfl⟩⟩
    replace hI := hide (hI.out.frN hP.out.prs hf (Nat.le_refl _) (by decide))
    replace hG := hide (hG.out.frN hP.out.prs hf (Nat.le_refl _) (by decide))
    replace hP := hide (hP.out.fr hf h5)
    have hqA : Hid (pk ts s5.pos = 17 → ∀ r, Q1 ts (([] : List (Int × Int)) ++ [(a, y)]) s5.adv r → Pq x r) := fun h0 r hr => hq1.out r (.more hit h0 hr)
    have hqB : Hid (pk ts s5.pos ≠ 17 → ∀ r, Q2 ts (([] : List (Int × Int)) ++ [(a, y)]) s5 r → Pq x r) := fun h0 r hr => hq1.out r (.last hit h0 hr)
    have hln : Hid ((([] : List (Int × Int))).length < 2 ^ 39) := by have := hla.out; have h2 : 1 < s5.pos := hgp; have := hP.out.prs.le; have := hP.out.prs.len; show (([] : List (Int × Int))).length < 2 ^ 39; omega
    have hla5 : Hid ((([] : List (Int × Int)) ++ [(a, y)]).length ≤ s5.pos) := by have := hla.out; have h2 : 1 < s5.pos := hgp; show (([] : List (Int × Int)) ++ [(a, y)]).length ≤ s5.pos; simp only [List.length_append, List.length_singleton]; omega
    have hap : Hid (Apart (.slice none 0 0) v5) := apart_types hI.out hP.out.prs.nodes.2 (by decide)
    have hSl : Hid (w1.heap.size < w5.heap.size) := hP.out.prs.blk.lt
    clear hq1 hf hit h5 hla
    go_wp2_with (first
      | (refine wpList_storeB (vs := [.int .i64 a, .int .i64 y]) rfl rfl (by rfl) (by rfl) (Blk.new w5 _ _) size_item rfl (by simp [Value.oneCell']) ?_; intro w6 hb6 hgr6; have x6 : Hid (Ext w5 w6) := ((Ext.refl w5).alloc _).grown hgr6 (fun k hk => by cases hk; exact Nat.le_refl _); have m0 := hb6.box 0 _ rfl; have m1 := hb6.box 1 _ rfl; replace hP := hide (hP.out.ext x6.out); replace hI := hide (hI.out.ext x6.out); replace hG := hide (hG.out.ext x6.out); replace hSl := hide (Nat.lt_of_lt_of_le hSl.out x6.out.size); clear hb6 hgr6 x6)
      | (at_builtin; refine app_item rfl rfl (w1.heap.size + 1) (by have := hSl.out; simp; omega) (.slice none 0 0) ([] : List (Int × Int)) a y rfl (OwnP.alloc hI.out _) w6.heap.size 1 (by rfl) (heap_alloc_new w6 _) hln.out ?_; intro g cap w7 O7 hgr7 hor7 hlt7; have hG7 := hide (OwnI.but (hG.out.alloc (.cells #[.int .i64 a, .int .i64 y] 89)) hgr7 (apart_types hG.out hI.out (by decide))); replace hP := hide (hP.out.app ((Ext.refl w6).alloc (.cells #[.int .i64 a, .int .i64 y] 89)) hgr7 (fun k hk => hI.out.block k hk) hap.out); clear hI hG; have hG := hG7; clear hG7; have hI := hide O7; clear O7 hgr7 hor7 hlt7 m0 m1 hSl))
    clear hap hln
    go_loopw [7] (fun vi wr => ∃ (its : List (Int × Int)) (s2 : PS) (v2 : Value), Hid (its.length ≤ s2.pos ∧ 1 ≤ its.length) ∧ Hid (pk ts s2.pos = 17 → ∀ r, Q1 ts its s2.adv r → Pq x r) ∧ Hid (pk ts s2.pos ≠ 17 → ∀ r, Q2 ts its s2 r → Pq x r) ∧ Hid (PI 87 [] w wr w1.heap.size ta tc ts s2 v2) ∧ Hid (OwnP wr (w1.heap.size + 1) 89 vi its) ∧ Hid (OwnI wr (w1.heap.size + 1) 3 (.slice none 0 0) [])) (fun _ wr => ts.length - posAt wr w1.heap.size)
    case atStart => exact ⟨[(a, y)], s5, v5, ⟨hla5.out, by simp⟩, hqA, hqB, hP, hI, hG⟩
    clear hla5 hqA hqB hP hI hG
    obtain ⟨its, s2, v2, hla, hqA, hqB, hP, hI, hG⟩ := hrel
    have hpW := hide hP.out.prs.posAt
    obtain ⟨k, hk⟩ : ∃ k, Hid (pk ts s2.pos = k) := ⟨_, rfl⟩
    go_wp2_with fail
    refine (I.peek w1.heap.size ta tc ts s2 v2 k hk wr hP.out.prs).mono ?_
    rintro e w8 ⟨rfl, x3⟩
    replace hP := hide (hP.out.ext x3)
    replace hI := hide (hI.out.ext x3)
    replace hG := hide (hG.out.ext x3)
    clear x3
    by_cases hk17 : k = 17
    · subst hk17
      have hlt := pk_lt hk.out (by decide)
      have hq1 := hide (hqA.out hk.out)
      clear hqA hqB
      replace hla : Hid (its.length ≤ s2.adv.pos) := Nat.le_succ_of_le hla.out.1
      have hp2 : Hid (s2.adv.pos = s2.pos + 1) := rfl
      have k1 := hP.out.prs.c1
      have fz := hP.out.prs.fz 1
      have hl := hP.out.prs.len
      have hA : Hid (PI 87 [] w (w8.setCell ⟨w1.heap.size, 1, none⟩ (.int .i64 ((s2.pos : Int) + 1))) w1.heap.size ta tc ts s2.adv v2) := hP.out.adv hlt
      have hAf : Hid (Fr w1.heap.size v2 v2 w8 (w8.setCell ⟨w1.heap.size, 1, none⟩ (.int .i64 ((s2.pos : Int) + 1)))) := Fr.set _ _ _
      replace hI := hide (hI.out.frN hP.out.prs hAf.out (Nat.le_refl _) (by decide))
      replace hG := hide (hG.out.frN hP.out.prs hAf.out (Nat.le_refl _) (by decide))
      go_wp2_with fail
      generalize (w8.setCell ⟨w1.heap.size, 1, none⟩ (.int .i64 ((s2.pos : Int) + 1))) = w9 at *
      replace hP := hA
      clear hA hAf k1 fz
      refine (I.item ts w1.heap.size ta tc s2.adv v2 w9 hP.out.prs).mono ?_
      rintro e w10 (⟨hit, rfl, hf⟩ | ⟨a, y, s5, v5, hit, rfl, h5, hf, hgp⟩)
      · have hz := hide (hq1.out _ (Q1.no hit))
        have hb9 := hide (hP.out.keep hf).1
        have ex9 := hide (hP.out.keep hf).2
        clear hf hit hP
        go_wp2_with (first
          | (refine wpList_storeB (vs := [.int .i64 0, .int .i64 0]) rfl rfl (by rfl) (by rfl) (Blk.new w10 _ _) size_item rfl (by simp [Value.oneCell']) ?_; intro w6 hb6 hgr6; have x6 : Hid (Ext w10 w6) := ((Ext.refl w10).alloc _).grown hgr6 (fun k hk => by cases hk; exact Nat.le_refl _); replace hb9 := hide (hb9.out.ext x6.out); replace ex9 : Hid (Ext w w6) := ex9.out.trans x6.out; clear hb6 hgr6 x6)
          | (refine wpList_storeB (vs := qz) rfl rfl (by rfl) (by rfl) hb9.out size_query rfl qz_one ?_; intro w99 hb99 hgr99; replace hgr99 := hide hgr99; replace hb99 := hide hb99))
        refine bodyPost_ret (results_cell2 rfl (by rfl) hb99.out Yabn.underlying53 size_query) rfl ?_
        exact ⟨ex9.out.setNew hgr99.out, .inl ⟨hz.out, rfl⟩⟩
      replace hI := hide (hI.out.frN hP.out.prs hf (Nat.le_refl _) (by decide))
      replace hG := hide (hG.out.frN hP.out.prs hf (Nat.le_refl _) (by decide))
      replace hP := hide (hP.out.fr hf h5)
      have hqA : Hid (pk ts s5.pos = 17 → ∀ r, Q1 ts (its ++ [(a, y)]) s5.adv r → Pq x r) := fun h0 r hr => hq1.out r (.more hit h0 hr)
      have hqB : Hid (pk ts s5.pos ≠ 17 → ∀ r, Q2 ts (its ++ [(a, y)]) s5 r → Pq x r) := fun h0 r hr => hq1.out r (.last hit h0 hr)
      have hln : Hid ((its).length < 2 ^ 39) := by have := hla.out; have h2 : s2.adv.pos < s5.pos := hgp; have := hP.out.prs.le; have := hP.out.prs.len; show (its).length < 2 ^ 39; omega
      have hla5 : Hid ((its ++ [(a, y)]).length ≤ s5.pos) := by have := hla.out; have h2 : s2.adv.pos < s5.pos := hgp; show (its ++ [(a, y)]).length ≤ s5.pos; simp only [List.length_append, List.length_singleton]; omega
      have hap : Hid (Apart u7 v5) := apart_types hI.out hP.out.prs.nodes.2 (by decide)
      have hSl : Hid (w1.heap.size < w10.heap.size) := hP.out.prs.blk.lt
      clear hq1 hf hit h5 hla
      go_wp2_with (first
        | (refine wpList_storeB (vs := [.int .i64 a, .int .i64 y]) rfl rfl (by rfl) (by rfl) (Blk.new w10 _ _) size_item rfl (by simp [Value.oneCell']) ?_; intro w6 hb6 hgr6; have x6 : Hid (Ext w10 w6) := ((Ext.refl w10).alloc _).grown hgr6 (fun k hk => by cases hk; exact Nat.le_refl _); have m0 := hb6.box 0 _ rfl; have m1 := hb6.box 1 _ rfl; replace hP := hide (hP.out.ext x6.out); replace hI := hide (hI.out.ext x6.out); replace hG := hide (hG.out.ext x6.out); replace hSl := hide (Nat.lt_of_lt_of_le hSl.out x6.out.size); clear hb6 hgr6 x6)
        | (at_builtin; refine app_item rfl rfl (w1.heap.size + 1) (by have := hSl.out; simp; omega) u7 its a y rfl (OwnP.alloc hI.out _) w6.heap.size 1 (by rfl) (heap_alloc_new w6 _) hln.out ?_; intro g cap w11 O7 hgr7 hor7 hlt7; have hG7 := hide (OwnI.but (hG.out.alloc (.cells #[.int .i64 a, .int .i64 y] 89)) hgr7 (apart_types hG.out hI.out (by decide))); replace hP := hide (hP.out.app ((Ext.refl w6).alloc (.cells #[.int .i64 a, .int .i64 y] 89)) hgr7 (fun k hk => hI.out.block k hk) hap.out); clear hI hG; have hG := hG7; clear hG7; have hI := hide O7; clear O7 hgr7 hor7 hlt7 m0 m1 hSl))
      clear hap hln
      have hp6 := hide hP.out.prs.posAt
      have hle6 := hide hP.out.prs.le
      go_roundw
      case rel => exact ⟨its ++ [(a, y)], s5, v5, ⟨hla5.out, by simp⟩, hqA.out, hqB.out, hP.out, hI.out, hG.out⟩
      case measure =>
        have h6 := hle6.out
        have h7 := hp2.out
        rw [hp6.out, hpW.out]
        omega
    · have hk17' : (k == 17) = false := by simpa using hk17
      have hq2 := hide (hqB.out (by rw [hk.out]; exact hk17))
      clear hqA hqB hpW
      obtain ⟨k2, hk2⟩ : ∃ k, Hid (pk ts s2.pos = k) := ⟨_, rfl⟩
      go_wp2_with fail
      refine (I.peek w1.heap.size ta tc ts s2 v2 k2 hk2 w8 hP.out.prs).mono ?_
      rintro e w12 ⟨rfl, x3⟩
      replace hP := hide (hP.out.ext x3)
      replace hI := hide (hI.out.ext x3)
      replace hG := hide (hG.out.ext x3)
      clear x3
      by_cases h22 : k2 = 2
      · subst h22
        have hlt := pk_lt hk2.out (by decide)
        have k1 := hP.out.prs.c1
        have fz := hP.out.prs.fz 1
        have hl := hP.out.prs.len
        have hA : Hid (PI 87 [] w (w12.setCell ⟨w1.heap.size, 1, none⟩ (.int .i64 ((s2.pos : Int) + 1))) w1.heap.size ta tc ts s2.adv v2) := hP.out.adv hlt
        have hAf : Hid (Fr w1.heap.size v2 v2 w12 (w12.setCell ⟨w1.heap.size, 1, none⟩ (.int .i64 ((s2.pos : Int) + 1)))) := Fr.set _ _ _
        replace hI := hide (hI.out.frN hP.out.prs hAf.out (Nat.le_refl _) (by decide))
        replace hG := hide (hG.out.frN hP.out.prs hAf.out (Nat.le_refl _) (by decide))
        go_wp2_with fail
        generalize (w12.setCell ⟨w1.heap.size, 1, none⟩ (.int .i64 ((s2.pos : Int) + 1))) = w13 at *
        replace hP := hA
        clear hA hAf k1 fz
        refine (I.exprAll ts w1.heap.size ta tc s2.adv v2 w13 hP.out.prs).mono ?_
        rintro e w14 (⟨hp, rfl, hf⟩ | ⟨wh, s3, v3, hp, rfl, h3, hf⟩)
        · have hz := hide (hq2.out _ (Q2.bad hk2.out hp))
          have hb9 := hide (hP.out.keep hf).1
          have ex9 := hide (hP.out.keep hf).2
          clear hf hp hP
          go_wp2_with (refine wpList_storeB (vs := qz) rfl rfl (by rfl) (by rfl) hb9.out size_query rfl qz_one ?_; intro w99 hb99 hgr99; replace hgr99 := hide hgr99; replace hb99 := hide hb99)
          refine bodyPost_ret (results_cell2 rfl (by rfl) hb99.out Yabn.underlying53 size_query) rfl ?_
          exact ⟨ex9.out.setNew hgr99.out, .inl ⟨hz.out, rfl⟩⟩
        · replace hI := hide (hI.out.frN hP.out.prs hf (Nat.le_refl _) (by decide))
          replace hG := hide (hG.out.frN hP.out.prs hf (Nat.le_refl _) (by decide))
          replace hP := hide (hP.out.fr hf h3)
          have hq3 : Hid (∀ r, Q3 ts its wh s3 r → Pq x r) := fun r hr => hq2.out r (.yes hk2.out hp hr)
          replace hla : Hid (its.length ≤ s3.pos ∧ 1 ≤ its.length) := by
            have h1 := hp.grow.1
            have h2 := hla.out
            simp only [PS.adv] at h1
            exact ⟨by omega, h2.2⟩
          clear hf h3 hp hq2 hlt
          obtain ⟨k3, hk3⟩ : ∃ k, Hid (pk ts s3.pos = k) := ⟨_, rfl⟩
          go_wp2_with fail
          refine (I.peek w1.heap.size ta tc ts s3 v3 k3 hk3 w14 hP.out.prs).mono ?_
          rintro e wg1 ⟨rfl, x3⟩
          replace hP := hide (hP.out.ext x3)
          replace hI := hide (hI.out.ext x3)
          replace hG := hide (hG.out.ext x3)
          clear x3
          by_cases h33 : k3 = 3
          · subst h33
            have hlt := pk_lt hk3.out (by decide)
            obtain ⟨k4, hk4⟩ : ∃ k, Hid (pk ts s3.adv.pos = k) := ⟨_, rfl⟩
            have k1 := hP.out.prs.c1
            have fz := hP.out.prs.fz 1
            have hl := hP.out.prs.len
            have hA : Hid (PI 87 [] w (wg1.setCell ⟨w1.heap.size, 1, none⟩ (.int .i64 ((s3.pos : Int) + 1))) w1.heap.size ta tc ts s3.adv v3) := hP.out.adv hlt
            have hAf : Hid (Fr w1.heap.size v3 v3 wg1 (wg1.setCell ⟨w1.heap.size, 1, none⟩ (.int .i64 ((s3.pos : Int) + 1)))) := Fr.set _ _ _
            replace hI := hide (hI.out.frN hP.out.prs hAf.out (Nat.le_refl _) (by decide))
            replace hG := hide (hG.out.frN hP.out.prs hAf.out (Nat.le_refl _) (by decide))
            go_wp2_with fail
            generalize (wg1.setCell ⟨w1.heap.size, 1, none⟩ (.int .i64 ((s3.pos : Int) + 1))) = wg2 at *
            replace hP := hA
            clear hA hAf k1 fz
            refine (I.peek w1.heap.size ta tc ts s3.adv v3 k4 hk4 wg2 hP.out.prs).mono ?_
            rintro e wg3 ⟨rfl, x3⟩
            replace hP := hide (hP.out.ext x3)
            replace hI := hide (hI.out.ext x3)
            replace hG := hide (hG.out.ext x3)
            clear x3
            clear hlt
            by_cases h44 : ¬ k4 = 4
            · have h4' : (k4 != 4) = true := by simpa using h44
              have hz : Hid (Pq x none) := hq3.out _ (.bad hk3.out (by rw [hk4.out]; exact h44))
              have hb9 : Hid (Blk wg3 w.heap.size 53 qz) := hP.out.blk
              have ex9 : Hid (Ext w wg3) := hP.out.ex
              clear hP
              go_wp2_with (refine wpList_storeB (vs := qz) rfl rfl (by rfl) (by rfl) hb9.out size_query rfl qz_one ?_; intro w99 hb99 hgr99; replace hgr99 := hide hgr99; replace hb99 := hide hb99)
              refine bodyPost_ret (results_cell2 rfl (by rfl) hb99.out Yabn.underlying53 size_query) rfl ?_
              exact ⟨ex9.out.setNew hgr99.out, .inl ⟨hz.out, rfl⟩⟩
            have h44 : k4 = 4 := by omega
            subst h44
            have hlt := pk_lt hk4.out (by decide)
            have hqg : Hid (∀ r, G3 ts its wh [] s3.adv.adv r → Pq x r) := fun r hr => hq3.out r (.yes hk3.out hk4.out hr)
            clear hq3
            obtain ⟨k5, hk5⟩ : ∃ k, Hid (pk ts s3.adv.adv.pos = k) := ⟨_, rfl⟩
            have k1 := hP.out.prs.c1
            have fz := hP.out.prs.fz 1
            have hl := hP.out.prs.len
            have hA : Hid (PI 87 [] w (wg3.setCell ⟨w1.heap.size, 1, none⟩ (.int .i64 ((s3.adv.pos : Int) + 1))) w1.heap.size ta tc ts s3.adv.adv v3) := hP.out.adv hlt
            have hAf : Hid (Fr w1.heap.size v3 v3 wg3 (wg3.setCell ⟨w1.heap.size, 1, none⟩ (.int .i64 ((s3.adv.pos : Int) + 1)))) := Fr.set _ _ _
            replace hI := hide (hI.out.frN hP.out.prs hAf.out (Nat.le_refl _) (by decide))
            replace hG := hide (hG.out.frN hP.out.prs hAf.out (Nat.le_refl _) (by decide))
            go_wp2_with fail
            generalize (wg3.setCell ⟨w1.heap.size, 1, none⟩ (.int .i64 ((s3.adv.pos : Int) + 1))) = wg4 at *
            replace hP := hA
            clear hA hAf k1 fz
            refine (I.peek w1.heap.size ta tc ts s3.adv.adv v3 k5 hk5 wg4 hP.out.prs).mono ?_
            rintro e wg5 ⟨rfl, x3⟩
            replace hP := hide (hP.out.ext x3)
            replace hI := hide (hI.out.ext x3)
            replace hG := hide (hG.out.ext x3)
            clear x3
            clear hlt
            by_cases h513 : ¬ k5 = 13
            · have h5' : (k5 != 13) = true := by simpa using h513
              have hz : Hid (Pq x none) := hqg.out _ (.bad (by rw [hk5.out]; exact h513))
              have hb9 : Hid (Blk wg5 w.heap.size 53 qz) := hP.out.blk
              have ex9 : Hid (Ext w wg5) := hP.out.ex
              clear hP
              go_wp2_with (refine wpList_storeB (vs := qz) rfl rfl (by rfl) (by rfl) hb9.out size_query rfl qz_one ?_; intro w99 hb99 hgr99; replace hgr99 := hide hgr99; replace hb99 := hide hb99)
              refine bodyPost_ret (results_cell2 rfl (by rfl) hb99.out Yabn.underlying53 size_query) rfl ?_
              exact ⟨ex9.out.setNew hgr99.out, .inl ⟨hz.out, rfl⟩⟩
            have h513 : k5 = 13 := by omega
            subst h513
            have hlt := pk_lt hk5.out (by decide)
            have hlg : Hid (([] : List Int).length ≤ s3.adv.adv.pos) := Nat.zero_le _
            replace hla : Hid (its.length ≤ s3.adv.adv.pos ∧ 1 ≤ its.length) := ⟨Nat.le_succ_of_le (Nat.le_succ_of_le hla.out.1), hla.out.2⟩
            obtain ⟨b, off, hta, g1⟩ := hP.out.prs.tok hlt
            have hlt' : (s3.adv.adv.pos : Int) < ts.length := by omega
            have k0 := hP.out.prs.c0
            rw [hta] at k0
            replace hta := hide hta
            have k1 := hP.out.prs.c1
            have fz := hP.out.prs.fz 1
            have hl := hP.out.prs.len
            have hqA : Hid (pk ts s3.adv.adv.adv.pos = 17 → ∀ r, G3 ts its wh (([] : List Int) ++ [nu ts s3.adv.adv.pos]) s3.adv.adv.adv.adv r → Pq x r) := fun h0 r hr => hqg.out r (.more hk5.out h0 hr)
            have hqB : Hid (pk ts s3.adv.adv.adv.pos ≠ 17 → Pq x (q4 ts its wh (([] : List Int) ++ [nu ts s3.adv.adv.pos]) s3.adv.adv.adv)) := fun h0 => hqg.out _ (.last hk5.out h0)
            have hlg7 : Hid ((([] : List Int) ++ [nu ts s3.adv.adv.pos]).length ≤ s3.adv.adv.adv.pos ∧ its.length ≤ s3.adv.adv.adv.pos ∧ 1 ≤ its.length) := by
              have h1 := hla.out
              have h2 := hlg.out
              refine ⟨?_, ?_, h1.2⟩
              · simp only [List.length_append, List.length_singleton, PS.adv] at h2 ⊢; omega
              · simp only [PS.adv] at h1 ⊢; omega
            have hln : Hid ((([] : List Int)).length < 2 ^ 39) := by have := hlg.out; show (([] : List Int)).length < 2 ^ 39; simp only [PS.adv] at this hlt; omega
            generalize nu ts s3.adv.adv.pos = yc at *
            have hap : Hid (Apart (.slice none (([] : List Int)).length 0) v3) := apart_types hG.out hP.out.prs.nodes.2 (by decide)
            have hapI : Hid (Apart u7 (.slice none (([] : List Int)).length 0)) := apart_types hI.out hG.out (by decide)
            have hSl : Hid (w1.heap.size < wg5.heap.size) := hP.out.prs.blk.lt
            clear hqg
            go_wp2
            refine Dr.region_text (by kernel_rfl) ?_
            go_wp2_with (at_builtin; refine app_int rfl rfl (w1.heap.size + 1) (by have := hSl.out; simp; omega) (.slice none (([] : List Int)).length 0) ([] : List Int) yc rfl (OwnI.alloc hG.out _) wg5.heap.size 1 (by rfl) (heap_alloc_new wg5 _) hln.out ?_; intro gg capg wg7 O7 hgr7 hor7 hlt7; have hI7 := hide (OwnP.but ((hI.out.alloc (.cells #[.int .i64 yc] 3)).drew) hgr7 hapI.out); replace hP := hide (hP.out.app (((Ext.refl wg5).alloc (.cells #[.int .i64 yc] 3)).drew) hgr7 (fun k hk => hG.out.block k hk) hap.out); clear hI hG; have hI := hI7; clear hI7; have hG := hide O7; clear O7 hgr7 hor7 hlt7 k0 k1 fz g1)
            refine ⟨by rfl, ?_⟩
            have k1 := hP.out.prs.c1
            have fz := hP.out.prs.fz 1
            have hA : Hid (PI 87 [] w (wg7.setCell ⟨w1.heap.size, 1, none⟩ (.int .i64 ((s3.adv.adv.pos : Int) + 1))) w1.heap.size ta tc ts s3.adv.adv.adv v3) := hP.out.adv hlt
            have hAf : Hid (Fr w1.heap.size v3 v3 wg7 (wg7.setCell ⟨w1.heap.size, 1, none⟩ (.int .i64 ((s3.adv.adv.pos : Int) + 1)))) := Fr.set _ _ _
            replace hI := hide (hI.out.frN hP.out.prs hAf.out (Nat.le_refl _) (by decide))
            replace hG := hide (hG.out.frN hP.out.prs hAf.out (Nat.le_refl _) (by decide))
            clear hP hAf hap hapI hSl hln hlt'
            go_wp2
            clear k1 fz
            go_loopw [14] (fun vg wq => ∃ (gr : List Int) (s6 : PS) (ga : Option Addr) (gc : Nat), vg = .slice ga gr.length gc ∧ Hid (gr.length ≤ s6.pos ∧ its.length ≤ s6.pos ∧ 1 ≤ its.length) ∧ Hid (pk ts s6.pos = 17 → ∀ r, G3 ts its wh gr s6.adv r → Pq x r) ∧ Hid (pk ts s6.pos ≠ 17 → Pq x (q4 ts its wh gr s6)) ∧ Hid (PI 87 [] w wq w1.heap.size ta tc ts s6 v3) ∧ Hid (OwnP wq (w1.heap.size + 1) 89 u7 its) ∧ Hid (OwnI wq (w1.heap.size + 1) 3 (.slice ga gr.length gc) gr)) (fun _ wq => ts.length - posAt wq w1.heap.size)
            case atStart => exact ⟨_, _, _, _, rfl, hlg7, hqA, hqB, hA, hI, hG⟩
            clear hlg7 hqA hqB hA hI hG hla hlg hlt
            obtain ⟨gr, s6, ga, gc, rfl, hlg7, hqA, hqB, hP, hI, hG⟩ := hrel
            have hpW := hide hP.out.prs.posAt
            obtain ⟨k8, hk8⟩ : ∃ k, Hid (pk ts s6.pos = k) := ⟨_, rfl⟩
            go_wp2_with fail
            refine (I.peek w1.heap.size ta tc ts s6 v3 k8 hk8 wr hP.out.prs).mono ?_
            rintro e wh1 ⟨rfl, x3⟩
            replace hP := hide (hP.out.ext x3)
            replace hI := hide (hI.out.ext x3)
            replace hG := hide (hG.out.ext x3)
            clear x3
            by_cases h817 : k8 = 17
            · subst h817
              have hlt := pk_lt hk8.out (by decide)
              have hqg := hide (hqA.out hk8.out)
              clear hqA hqB
              have hla : Hid (its.length ≤ s6.adv.pos ∧ 1 ≤ its.length) := ⟨Nat.le_succ_of_le hlg7.out.2.1, hlg7.out.2.2⟩
              have hlg : Hid (gr.length ≤ s6.adv.pos) := Nat.le_succ_of_le hlg7.out.1
              clear hlg7
              obtain ⟨k9, hk9⟩ : ∃ k, Hid (pk ts s6.adv.pos = k) := ⟨_, rfl⟩
              have k1 := hP.out.prs.c1
              have fz := hP.out.prs.fz 1
              have hl := hP.out.prs.len
              have hA : Hid (PI 87 [] w (wh1.setCell ⟨w1.heap.size, 1, none⟩ (.int .i64 ((s6.pos : Int) + 1))) w1.heap.size ta tc ts s6.adv v3) := hP.out.adv hlt
              have hAf : Hid (Fr w1.heap.size v3 v3 wh1 (wh1.setCell ⟨w1.heap.size, 1, none⟩ (.int .i64 ((s6.pos : Int) + 1)))) := Fr.set _ _ _
              replace hI := hide (hI.out.frN hP.out.prs hAf.out (Nat.le_refl _) (by decide))
              replace hG := hide (hG.out.frN hP.out.prs hAf.out (Nat.le_refl _) (by decide))
              go_wp2_with fail
              generalize (wh1.setCell ⟨w1.heap.size, 1, none⟩ (.int .i64 ((s6.pos : Int) + 1))) = wh2 at *
              replace hP := hA
              clear hA hAf k1 fz
              refine (I.peek w1.heap.size ta tc ts s6.adv v3 k9 hk9 wh2 hP.out.prs).mono ?_
              rintro e wh3 ⟨rfl, x3⟩
              replace hP := hide (hP.out.ext x3)
              replace hI := hide (hI.out.ext x3)
              replace hG := hide (hG.out.ext x3)
              clear x3
              by_cases h913 : ¬ k9 = 13
              · have h9' : (k9 != 13) = true := by simpa using h913
                have hz : Hid (Pq x none) := hqg.out _ (.bad (by rw [hk9.out]; exact h913))
                have hb9 : Hid (Blk wh3 w.heap.size 53 qz) := hP.out.blk
                have ex9 : Hid (Ext w wh3) := hP.out.ex
                clear hP
                go_wp2_with (refine wpList_storeB (vs := qz) rfl rfl (by rfl) (by rfl) hb9.out size_query rfl qz_one ?_; intro w99 hb99 hgr99; replace hgr99 := hide hgr99; replace hb99 := hide hb99)
                refine bodyPost_ret (results_cell2 rfl (by rfl) hb99.out Yabn.underlying53 size_query) rfl ?_
                exact ⟨ex9.out.setNew hgr99.out, .inl ⟨hz.out, rfl⟩⟩
              have h913 : k9 = 13 := by omega
              subst h913
              have hp2 : Hid (s6.adv.adv.pos = s6.pos + 2) := rfl
              clear hlt
              have hlt := pk_lt hk9.out (by decide)
              obtain ⟨b, off, hta, g1⟩ := hP.out.prs.tok hlt
              have hlt' : (s6.adv.pos : Int) < ts.length := by omega
              have k0 := hP.out.prs.c0
              rw [hta] at k0
              replace hta := hide hta
              have k1 := hP.out.prs.c1
              have fz := hP.out.prs.fz 1
              have hl := hP.out.prs.len
              have hqA : Hid (pk ts s6.adv.adv.pos = 17 → ∀ r, G3 ts its wh (gr ++ [nu ts s6.adv.pos]) s6.adv.adv.adv r → Pq x r) := fun h0 r hr => hqg.out r (.more hk9.out h0 hr)
              have hqB : Hid (pk ts s6.adv.adv.pos ≠ 17 → Pq x (q4 ts its wh (gr ++ [nu ts s6.adv.pos]) s6.adv.adv)) := fun h0 => hqg.out _ (.last hk9.out h0)
              have hlg7 : Hid ((gr ++ [nu ts s6.adv.pos]).length ≤ s6.adv.adv.pos ∧ its.length ≤ s6.adv.adv.pos ∧ 1 ≤ its.length) := by
                have h1 := hla.out
                have h2 := hlg.out
                refine ⟨?_, ?_, h1.2⟩
                · simp only [List.length_append, List.length_singleton, PS.adv] at h2 ⊢; omega
                · simp only [PS.adv] at h1 ⊢; omega
              have hln : Hid ((gr).length < 2 ^ 39) := by have := hlg.out; show (gr).length < 2 ^ 39; simp only [PS.adv] at this hlt; omega
              generalize nu ts s6.adv.pos = yc at *
              have hap : Hid (Apart (.slice ga (gr).length gc) v3) := apart_types hG.out hP.out.prs.nodes.2 (by decide)
              have hapI : Hid (Apart u7 (.slice ga (gr).length gc)) := apart_types hI.out hG.out (by decide)
              have hSl : Hid (w1.heap.size < wh3.heap.size) := hP.out.prs.blk.lt
              clear hqg
              go_wp2
              refine Dr.region_text (by kernel_rfl) ?_
              go_wp2_with (at_builtin; refine app_int rfl rfl (w1.heap.size + 1) (by have := hSl.out; simp; omega) (.slice ga (gr).length gc) gr yc rfl (OwnI.alloc hG.out _) wh3.heap.size 1 (by rfl) (heap_alloc_new wh3 _) hln.out ?_; intro gg capg wh7 O7 hgr7 hor7 hlt7; have hI7 := hide (OwnP.but ((hI.out.alloc (.cells #[.int .i64 yc] 3)).drew) hgr7 hapI.out); replace hP := hide (hP.out.app (((Ext.refl wh3).alloc (.cells #[.int .i64 yc] 3)).drew) hgr7 (fun k hk => hG.out.block k hk) hap.out); clear hI hG; have hI := hI7; clear hI7; have hG := hide O7; clear O7 hgr7 hor7 hlt7 k0 k1 fz g1)
              refine ⟨by rfl, ?_⟩
              have k1 := hP.out.prs.c1
              have fz := hP.out.prs.fz 1
              have hA : Hid (PI 87 [] w (wh7.setCell ⟨w1.heap.size, 1, none⟩ (.int .i64 ((s6.adv.pos : Int) + 1))) w1.heap.size ta tc ts s6.adv.adv v3) := hP.out.adv hlt
              have hAf : Hid (Fr w1.heap.size v3 v3 wh7 (wh7.setCell ⟨w1.heap.size, 1, none⟩ (.int .i64 ((s6.adv.pos : Int) + 1)))) := Fr.set _ _ _
              replace hI := hide (hI.out.frN hP.out.prs hAf.out (Nat.le_refl _) (by decide))
              replace hG := hide (hG.out.frN hP.out.prs hAf.out (Nat.le_refl _) (by decide))
              clear hP hAf hap hapI hSl hln hlt'
              go_wp2
              clear k1 fz
              have hp6 := hide hA.out.prs.posAt
              have hle6 := hide hA.out.prs.le
              go_roundw
              case rel => exact ⟨gr ++ [yc], s6.adv.adv, some ⟨gg, 0, none⟩, capg, by simp, hlg7.out, hqA.out, hqB.out, hA.out, hI.out, by rw [List.length_append]; exact hG.out⟩
              case measure =>
                have h6 := hle6.out
                have h7 := hp2.out
                rw [hp6.out, hpW.out]
                omega
            · have h817' : (k8 == 17) = false := by simpa using h817
              have hq4 := hide (hqB.out (by rw [hk8.out]; exact h817))
              have hla : Hid (its.length ≤ s6.pos ∧ 1 ≤ its.length) := ⟨hlg7.out.2.1, hlg7.out.2.2⟩
              have hlg : Hid (gr.length ≤ s6.pos) := hlg7.out.1
              clear hqA hqB hpW hlg7
              obtain ⟨k6, hk6⟩ : ∃ k, Hid (pk ts s6.pos = k) := ⟨_, rfl⟩
              go_wp2_with fail
              refine (I.peek w1.heap.size ta tc ts s6 v3 k6 hk6 wh1 hP.out.prs).mono ?_
              rintro e wl1 ⟨rfl, x3⟩
              replace hP := hide (hP.out.ext x3)
              replace hI := hide (hI.out.ext x3)
              replace hG := hide (hG.out.ext x3)
              clear x3
              by_cases h65 : k6 = 5
              · subst h65
                have hlt := pk_lt hk6.out (by decide)
                obtain ⟨k7, hk7⟩ : ∃ k, Hid (pk ts s6.adv.pos = k) := ⟨_, rfl⟩
                have k1 := hP.out.prs.c1
                have fz := hP.out.prs.fz 1
                have hl := hP.out.prs.len
                have hA : Hid (PI 87 [] w (wl1.setCell ⟨w1.heap.size, 1, none⟩ (.int .i64 ((s6.pos : Int) + 1))) w1.heap.size ta tc ts s6.adv v3) := hP.out.adv hlt
                have hAf : Hid (Fr w1.heap.size v3 v3 wl1 (wl1.setCell ⟨w1.heap.size, 1, none⟩ (.int .i64 ((s6.pos : Int) + 1)))) := Fr.set _ _ _
                replace hI := hide (hI.out.frN hP.out.prs hAf.out (Nat.le_refl _) (by decide))
                replace hG := hide (hG.out.frN hP.out.prs hAf.out (Nat.le_refl _) (by decide))
                go_wp2_with fail
                generalize (wl1.setCell ⟨w1.heap.size, 1, none⟩ (.int .i64 ((s6.pos : Int) + 1))) = wl2 at *
                replace hP := hA
                clear hA hAf k1 fz
                refine (I.peek w1.heap.size ta tc ts s6.adv v3 k7 hk7 wl2 hP.out.prs).mono ?_
                rintro e wl3 ⟨rfl, x3⟩
                replace hP := hide (hP.out.ext x3)
                replace hI := hide (hI.out.ext x3)
                replace hG := hide (hG.out.ext x3)
                clear x3
                clear hlt
                by_cases h714 : ¬ k7 = 14
                · have h7' : (k7 != 14) = true := by simpa using h714
                  have hz : Hid (Pq x none) := by have := hq4.out; rw [q4_bad hk6.out (by rw [hk7.out]; exact h714)] at this; exact this
                  have hb9 : Hid (Blk wl3 w.heap.size 53 qz) := hP.out.blk
                  have ex9 : Hid (Ext w wl3) := hP.out.ex
                  clear hP
                  go_wp2_with (refine wpList_storeB (vs := qz) rfl rfl (by rfl) (by rfl) hb9.out size_query rfl qz_one ?_; intro w99 hb99 hgr99; replace hgr99 := hide hgr99; replace hb99 := hide hb99)
                  refine bodyPost_ret (results_cell2 rfl (by rfl) hb99.out Yabn.underlying53 size_query) rfl ?_
                  exact ⟨ex9.out.setNew hgr99.out, .inl ⟨hz.out, rfl⟩⟩
                have h714 : k7 = 14 := by omega
                subst h714
                have hlt := pk_lt hk7.out (by decide)
                have hq5 : Hid (Pq x (q5 ts its wh gr (nu ts s6.adv.pos) s6.adv.adv)) := by have := hq4.out; rw [q4_yes hk6.out hk7.out] at this; exact this
                replace hlg : Hid ((gr).length ≤ s6.adv.adv.pos) := Nat.le_succ_of_le (Nat.le_succ_of_le hlg.out)
                replace hla : Hid (its.length ≤ s6.adv.adv.pos ∧ 1 ≤ its.length) := ⟨Nat.le_succ_of_le (Nat.le_succ_of_le hla.out.1), hla.out.2⟩
                obtain ⟨b, off, hta, g1⟩ := hP.out.prs.tok hlt
                have hlt' : (s6.adv.pos : Int) < ts.length := by omega
                have k0 := hP.out.prs.c0
                rw [hta] at k0
                replace hta := hide hta
                have k1 := hP.out.prs.c1
                have fz := hP.out.prs.fz 1
                have hl := hP.out.prs.len
                have hA : Hid (PI 87 [] w (wl3.setCell ⟨w1.heap.size, 1, none⟩ (.int .i64 ((s6.adv.pos : Int) + 1))) w1.heap.size ta tc ts s6.adv.adv v3) := hP.out.adv hlt
                have hAf : Hid (Fr w1.heap.size v3 v3 wl3 (wl3.setCell ⟨w1.heap.size, 1, none⟩ (.int .i64 ((s6.adv.pos : Int) + 1)))) := Fr.set _ _ _
                replace hI := hide (hI.out.frN hP.out.prs hAf.out (Nat.le_refl _) (by decide))
                replace hG := hide (hG.out.frN hP.out.prs hAf.out (Nat.le_refl _) (by decide))
                generalize nu ts s6.adv.pos = li at *
                clear hq4
                go_wp2
                refine Dr.region_text (by kernel_rfl) ?_
                go_wp2
                refine ⟨by rfl, ?_⟩
                have hX : Hid (Ext (wl3.setCell ⟨w1.heap.size, 1, none⟩ (.int .i64 ((s6.adv.pos : Int) + 1))) (wl3.setCell ⟨w1.heap.size, 1, none⟩ (.int .i64 ((s6.adv.pos : Int) + 1))).drew) := (Ext.refl _).drew
                have k2 := hP.out.prs.c2
                clear hP
                have hP := hide (hA.out.ext hX.out)
                replace hI := hide (hI.out.ext hX.out)
                replace hG := hide (hG.out.ext hX.out)
                have hpe : Hid (((s6.adv.adv.pos : Nat) : Int) = (s6.adv.pos : Int) + 1) := rfl
                clear hA hAf hX
                by_cases hend : ¬ s6.adv.adv.pos = ts.length
                · have hne : (((s6.adv.pos : Int) + 1) != (ts.length : Int)) = true := by simp only [bne_iff_ne, ne_eq]; have h0 := hpe.out; omega
                  have hz : Hid (Pq x none) := by have := hq5.out; unfold q5 at this; rw [if_neg hend] at this; exact this
                  have hb9 : Hid (Blk (wl3.setCell ⟨w1.heap.size, 1, none⟩ (.int .i64 ((s6.adv.pos : Int) + 1))).drew w.heap.size 53 qz) := hP.out.blk
                  have ex9 : Hid (Ext w (wl3.setCell ⟨w1.heap.size, 1, none⟩ (.int .i64 ((s6.adv.pos : Int) + 1))).drew) := hP.out.ex
                  clear hP
                  go_wp2_with (refine wpList_storeB (vs := qz) rfl rfl (by rfl) (by rfl) hb9.out size_query rfl qz_one ?_; intro w99 hb99 hgr99; replace hgr99 := hide hgr99; replace hb99 := hide hb99)
                  refine bodyPost_ret (results_cell2 rfl (by rfl) hb99.out Yabn.underlying53 size_query) rfl ?_
                  exact ⟨ex9.out.setNew hgr99.out, .inl ⟨hz.out, rfl⟩⟩
                have hend : s6.adv.adv.pos = ts.length := Classical.byContradiction hend
                have hne : (((s6.adv.pos : Int) + 1) != (ts.length : Int)) = false := by simp only [bne_eq_false_iff_eq]; have h0 := hpe.out; omega
                have hz : Hid (Pq x (some ⟨its, s6.adv.adv.nd, wh, gr, li⟩)) := by have := hq5.out; unfold q5 at this; rw [if_pos hend] at this; exact this
                replace hend := hide hend
                obtain ⟨ia, ic, hvi, _⟩ := hI.out.form
                obtain ⟨na, nc, hvn, _⟩ := hP.out.prs.nodes.form
                subst hvi
                rw [hvn] at k2
                replace hvn := hide hvn
                have hb9 : Hid (Blk (wl3.setCell ⟨w1.heap.size, 1, none⟩ (.int .i64 ((s6.adv.pos : Int) + 1))).drew w.heap.size 53 qz) := hP.out.blk
                have ex9 : Hid (Ext w (wl3.setCell ⟨w1.heap.size, 1, none⟩ (.int .i64 ((s6.adv.pos : Int) + 1))).drew) := hP.out.ex
                have hlow : Hid (w.heap.size < w1.heap.size + 1) := Nat.lt_succ_of_lt hP.out.low
                have hN : Hid (OwnN (wl3.setCell ⟨w1.heap.size, 1, none⟩ (.int .i64 ((s6.adv.pos : Int) + 1))).drew (w1.heap.size + 1) 98 (.slice na s6.adv.adv.nd.length nc) s6.adv.adv.nd) := by have := hP.out.prs.nodes; rw [hvn.out] at this; exact this
                have hG9 : Hid (OwnI (wl3.setCell ⟨w1.heap.size, 1, none⟩ (.int .i64 ((s6.adv.pos : Int) + 1))).drew (w1.heap.size + 1) 3 (.slice ga (gr).length gc) gr) := hG
                have hL : Hid (its.length ≤ 65536 ∧ s6.adv.adv.nd.length ≤ 65536 ∧ (gr).length ≤ 65536 ∧ 1 ≤ its.length) := by
                  have h1 := hla.out
                  have h2 := hlg.out
                  have h3 := hP.out.prs.ndl
                  have h4 := hP.out.prs.le
                  have h5 := hP.out.prs.len
                  exact ⟨by omega, by omega, by omega, by omega⟩
                clear hP hG
                go_wp2_with (refine wpList_storeB (vs := [.slice ia its.length ic, .slice na s6.adv.adv.nd.length nc, .int .i64 wh, .slice ga (gr).length gc, .int .i64 li]) rfl rfl (by rfl) (by rfl) hb9.out size_query rfl (by simp [Value.oneCell']) ?_; intro w99 hb99 hgr99; replace hgr99 := hide hgr99; replace hb99 := hide hb99)
                refine bodyPost_ret (results_cell2 rfl (by rfl) hb99.out Yabn.underlying53 size_query) rfl ?_
                have hl9 := hlow.out
                exact ⟨ex9.out.setNew hgr99.out, .inr ⟨_, ia, na, ga, ic, nc, gc, hz.out, rfl, (hI.out.kept hgr99.out hl9).mono (by omega), (OwnV.kept hN.out hgr99.out hl9).mono (by omega), (hG9.out.kept hgr99.out hl9).mono (by omega), hL.out.1, hL.out.2.1, hL.out.2.2.1, hL.out.2.2.2⟩⟩
              · have h65' : (k6 == 5) = false := by simpa using h65
                have hq5 : Hid (Pq x (q5 ts its wh gr (-1) s6)) := by have := hq4.out; rw [q4_no (by rw [hk6.out]; exact h65)] at this; exact this
                clear hq4
                have k1 := hP.out.prs.c1
                have k2 := hP.out.prs.c2
                have hpe : Hid (((s6.pos : Nat) : Int) = (s6.pos : Int)) := rfl
                by_cases hend : ¬ s6.pos = ts.length
                · have hne : ((s6.pos : Int) != (ts.length : Int)) = true := by simp only [bne_iff_ne, ne_eq]; have h0 := hpe.out; omega
                  have hz : Hid (Pq x none) := by have := hq5.out; unfold q5 at this; rw [if_neg hend] at this; exact this
                  have hb9 : Hid (Blk wl1 w.heap.size 53 qz) := hP.out.blk
                  have ex9 : Hid (Ext w wl1) := hP.out.ex
                  clear hP
                  go_wp2_with (refine wpList_storeB (vs := qz) rfl rfl (by rfl) (by rfl) hb9.out size_query rfl qz_one ?_; intro w99 hb99 hgr99; replace hgr99 := hide hgr99; replace hb99 := hide hb99)
                  refine bodyPost_ret (results_cell2 rfl (by rfl) hb99.out Yabn.underlying53 size_query) rfl ?_
                  exact ⟨ex9.out.setNew hgr99.out, .inl ⟨hz.out, rfl⟩⟩
                have hend : s6.pos = ts.length := Classical.byContradiction hend
                have hne : ((s6.pos : Int) != (ts.length : Int)) = false := by simp only [bne_eq_false_iff_eq]; have h0 := hpe.out; omega
                have hz : Hid (Pq x (some ⟨its, s6.nd, wh, gr, (-1)⟩)) := by have := hq5.out; unfold q5 at this; rw [if_pos hend] at this; exact this
                replace hend := hide hend
                obtain ⟨ia, ic, hvi, _⟩ := hI.out.form
                obtain ⟨na, nc, hvn, _⟩ := hP.out.prs.nodes.form
                subst hvi
                rw [hvn] at k2
                replace hvn := hide hvn
                have hb9 : Hid (Blk wl1 w.heap.size 53 qz) := hP.out.blk
                have ex9 : Hid (Ext w wl1) := hP.out.ex
                have hlow : Hid (w.heap.size < w1.heap.size + 1) := Nat.lt_succ_of_lt hP.out.low
                have hN : Hid (OwnN wl1 (w1.heap.size + 1) 98 (.slice na s6.nd.length nc) s6.nd) := by have := hP.out.prs.nodes; rw [hvn.out] at this; exact this
                have hG9 : Hid (OwnI wl1 (w1.heap.size + 1) 3 (.slice ga (gr).length gc) gr) := hG
                have hL : Hid (its.length ≤ 65536 ∧ s6.nd.length ≤ 65536 ∧ (gr).length ≤ 65536 ∧ 1 ≤ its.length) := by
                  have h1 := hla.out
                  have h2 := hlg.out
                  have h3 := hP.out.prs.ndl
                  have h4 := hP.out.prs.le
                  have h5 := hP.out.prs.len
                  exact ⟨by omega, by omega, by omega, by omega⟩
                clear hP hG
                go_wp2_with (refine wpList_storeB (vs := [.slice ia its.length ic, .slice na s6.nd.length nc, .int .i64 wh, .slice ga (gr).length gc, .int .i64 (-1)]) rfl rfl (by rfl) (by rfl) hb9.out size_query rfl (by simp [Value.oneCell']) ?_; intro w99 hb99 hgr99; replace hgr99 := hide hgr99; replace hb99 := hide hb99)
                refine bodyPost_ret (results_cell2 rfl (by rfl) hb99.out Yabn.underlying53 size_query) rfl ?_
                have hl9 := hlow.out
                exact ⟨ex9.out.setNew hgr99.out, .inr ⟨_, ia, na, ga, ic, nc, gc, hz.out, rfl, (hI.out.kept hgr99.out hl9).mono (by omega), (OwnV.kept hN.out hgr99.out hl9).mono (by omega), (hG9.out.kept hgr99.out hl9).mono (by omega), hL.out.1, hL.out.2.1, hL.out.2.2.1, hL.out.2.2.2⟩⟩
          · have h33' : (k3 == 3) = false := by simpa using h33
            have hq4 : Hid (Pq x (q4 ts its wh [] s3)) := hq3.out _ (.no (by rw [hk3.out]; exact h33))
            clear hq3
            have hlg : Hid (([] : List Int).length ≤ s3.pos) := Nat.zero_le _
            obtain ⟨k6, hk6⟩ : ∃ k, Hid (pk ts s3.pos = k) := ⟨_, rfl⟩
            go_wp2_with fail
            refine (I.peek w1.heap.size ta tc ts s3 v3 k6 hk6 wg1 hP.out.prs).mono ?_
            rintro e wl1 ⟨rfl, x3⟩
            replace hP := hide (hP.out.ext x3)
            replace hI := hide (hI.out.ext x3)
            replace hG := hide (hG.out.ext x3)
            clear x3
            by_cases h65 : k6 = 5
            · subst h65
              have hlt := pk_lt hk6.out (by decide)
              obtain ⟨k7, hk7⟩ : ∃ k, Hid (pk ts s3.adv.pos = k) := ⟨_, rfl⟩
              have k1 := hP.out.prs.c1
              have fz := hP.out.prs.fz 1
              have hl := hP.out.prs.len
              have hA : Hid (PI 87 [] w (wl1.setCell ⟨w1.heap.size, 1, none⟩ (.int .i64 ((s3.pos : Int) + 1))) w1.heap.size ta tc ts s3.adv v3) := hP.out.adv hlt
              have hAf : Hid (Fr w1.heap.size v3 v3 wl1 (wl1.setCell ⟨w1.heap.size, 1, none⟩ (.int .i64 ((s3.pos : Int) + 1)))) := Fr.set _ _ _
              replace hI := hide (hI.out.frN hP.out.prs hAf.out (Nat.le_refl _) (by decide))
              replace hG := hide (hG.out.frN hP.out.prs hAf.out (Nat.le_refl _) (by decide))
              go_wp2_with fail
              generalize (wl1.setCell ⟨w1.heap.size, 1, none⟩ (.int .i64 ((s3.pos : Int) + 1))) = wl2 at *
              replace hP := hA
              clear hA hAf k1 fz
              refine (I.peek w1.heap.size ta tc ts s3.adv v3 k7 hk7 wl2 hP.out.prs).mono ?_
              rintro e wl3 ⟨rfl, x3⟩
              replace hP := hide (hP.out.ext x3)
              replace hI := hide (hI.out.ext x3)
              replace hG := hide (hG.out.ext x3)
              clear x3
              clear hlt
              by_cases h714 : ¬ k7 = 14
              · have h7' : (k7 != 14) = true := by simpa using h714
                have hz : Hid (Pq x none) := by have := hq4.out; rw [q4_bad hk6.out (by rw [hk7.out]; exact h714)] at this; exact this
                have hb9 : Hid (Blk wl3 w.heap.size 53 qz) := hP.out.blk
                have ex9 : Hid (Ext w wl3) := hP.out.ex
                clear hP
                go_wp2_with (refine wpList_storeB (vs := qz) rfl rfl (by rfl) (by rfl) hb9.out size_query rfl qz_one ?_; intro w99 hb99 hgr99; replace hgr99 := hide hgr99; replace hb99 := hide hb99)
                refine bodyPost_ret (results_cell2 rfl (by rfl) hb99.out Yabn.underlying53 size_query) rfl ?_
                exact ⟨ex9.out.setNew hgr99.out, .inl ⟨hz.out, rfl⟩⟩
              have h714 : k7 = 14 := by omega
              subst h714
              have hlt := pk_lt hk7.out (by decide)
              have hq5 : Hid (Pq x (q5 ts its wh ([] : List Int) (nu ts s3.adv.pos) s3.adv.adv)) := by have := hq4.out; rw [q4_yes hk6.out hk7.out] at this; exact this
              replace hlg : Hid ((([] : List Int)).length ≤ s3.adv.adv.pos) := Nat.le_succ_of_le (Nat.le_succ_of_le hlg.out)
              replace hla : Hid (its.length ≤ s3.adv.adv.pos ∧ 1 ≤ its.length) := ⟨Nat.le_succ_of_le (Nat.le_succ_of_le hla.out.1), hla.out.2⟩
              obtain ⟨b, off, hta, g1⟩ := hP.out.prs.tok hlt
              have hlt' : (s3.adv.pos : Int) < ts.length := by omega
              have k0 := hP.out.prs.c0
              rw [hta] at k0
              replace hta := hide hta
              have k1 := hP.out.prs.c1
              have fz := hP.out.prs.fz 1
              have hl := hP.out.prs.len
              have hA : Hid (PI 87 [] w (wl3.setCell ⟨w1.heap.size, 1, none⟩ (.int .i64 ((s3.adv.pos : Int) + 1))) w1.heap.size ta tc ts s3.adv.adv v3) := hP.out.adv hlt
              have hAf : Hid (Fr w1.heap.size v3 v3 wl3 (wl3.setCell ⟨w1.heap.size, 1, none⟩ (.int .i64 ((s3.adv.pos : Int) + 1)))) := Fr.set _ _ _
              replace hI := hide (hI.out.frN hP.out.prs hAf.out (Nat.le_refl _) (by decide))
              replace hG := hide (hG.out.frN hP.out.prs hAf.out (Nat.le_refl _) (by decide))
              generalize nu ts s3.adv.pos = li at *
              clear hq4
              go_wp2
              refine Dr.region_text (by kernel_rfl) ?_
              go_wp2
              refine ⟨by rfl, ?_⟩
              have hX : Hid (Ext (wl3.setCell ⟨w1.heap.size, 1, none⟩ (.int .i64 ((s3.adv.pos : Int) + 1))) (wl3.setCell ⟨w1.heap.size, 1, none⟩ (.int .i64 ((s3.adv.pos : Int) + 1))).drew) := (Ext.refl _).drew
              have k2 := hP.out.prs.c2
              clear hP
              have hP := hide (hA.out.ext hX.out)
              replace hI := hide (hI.out.ext hX.out)
              replace hG := hide (hG.out.ext hX.out)
              have hpe : Hid (((s3.adv.adv.pos : Nat) : Int) = (s3.adv.pos : Int) + 1) := rfl
              clear hA hAf hX
              by_cases hend : ¬ s3.adv.adv.pos = ts.length
              · have hne : (((s3.adv.pos : Int) + 1) != (ts.length : Int)) = true := by simp only [bne_iff_ne, ne_eq]; have h0 := hpe.out; omega
                have hz : Hid (Pq x none) := by have := hq5.out; unfold q5 at this; rw [if_neg hend] at this; exact this
                have hb9 : Hid (Blk (wl3.setCell ⟨w1.heap.size, 1, none⟩ (.int .i64 ((s3.adv.pos : Int) + 1))).drew w.heap.size 53 qz) := hP.out.blk
                have ex9 : Hid (Ext w (wl3.setCell ⟨w1.heap.size, 1, none⟩ (.int .i64 ((s3.adv.pos : Int) + 1))).drew) := hP.out.ex
                clear hP
                go_wp2_with (refine wpList_storeB (vs := qz) rfl rfl (by rfl) (by rfl) hb9.out size_query rfl qz_one ?_; intro w99 hb99 hgr99; replace hgr99 := hide hgr99; replace hb99 := hide hb99)
                refine bodyPost_ret (results_cell2 rfl (by rfl) hb99.out Yabn.underlying53 size_query) rfl ?_
                exact ⟨ex9.out.setNew hgr99.out, .inl ⟨hz.out, rfl⟩⟩
              have hend : s3.adv.adv.pos = ts.length := Classical.byContradiction hend
              have hne : (((s3.adv.pos : Int) + 1) != (ts.length : Int)) = false := by simp only [bne_eq_false_iff_eq]; have h0 := hpe.out; omega
              have hz : Hid (Pq x (some ⟨its, s3.adv.adv.nd, wh, ([] : List Int), li⟩)) := by have := hq5.out; unfold q5 at this; rw [if_pos hend] at this; exact this
              replace hend := hide hend
              obtain ⟨ia, ic, hvi, _⟩ := hI.out.form
              obtain ⟨na, nc, hvn, _⟩ := hP.out.prs.nodes.form
              subst hvi
              rw [hvn] at k2
              replace hvn := hide hvn
              have hb9 : Hid (Blk (wl3.setCell ⟨w1.heap.size, 1, none⟩ (.int .i64 ((s3.adv.pos : Int) + 1))).drew w.heap.size 53 qz) := hP.out.blk
              have ex9 : Hid (Ext w (wl3.setCell ⟨w1.heap.size, 1, none⟩ (.int .i64 ((s3.adv.pos : Int) + 1))).drew) := hP.out.ex
              have hlow : Hid (w.heap.size < w1.heap.size + 1) := Nat.lt_succ_of_lt hP.out.low
              have hN : Hid (OwnN (wl3.setCell ⟨w1.heap.size, 1, none⟩ (.int .i64 ((s3.adv.pos : Int) + 1))).drew (w1.heap.size + 1) 98 (.slice na s3.adv.adv.nd.length nc) s3.adv.adv.nd) := by have := hP.out.prs.nodes; rw [hvn.out] at this; exact this
              have hG9 : Hid (OwnI (wl3.setCell ⟨w1.heap.size, 1, none⟩ (.int .i64 ((s3.adv.pos : Int) + 1))).drew (w1.heap.size + 1) 3 (.slice none (([] : List Int)).length 0) ([] : List Int)) := hG
              have hL : Hid (its.length ≤ 65536 ∧ s3.adv.adv.nd.length ≤ 65536 ∧ (([] : List Int)).length ≤ 65536 ∧ 1 ≤ its.length) := by
                have h1 := hla.out
                have h2 := hlg.out
                have h3 := hP.out.prs.ndl
                have h4 := hP.out.prs.le
                have h5 := hP.out.prs.len
                exact ⟨by omega, by omega, by omega, by omega⟩
              clear hP hG
              go_wp2_with (refine wpList_storeB (vs := [.slice ia its.length ic, .slice na s3.adv.adv.nd.length nc, .int .i64 wh, .slice none (([] : List Int)).length 0, .int .i64 li]) rfl rfl (by rfl) (by rfl) hb9.out size_query rfl (by simp [Value.oneCell']) ?_; intro w99 hb99 hgr99; replace hgr99 := hide hgr99; replace hb99 := hide hb99)
              refine bodyPost_ret (results_cell2 rfl (by rfl) hb99.out Yabn.underlying53 size_query) rfl ?_
              have hl9 := hlow.out
              exact ⟨ex9.out.setNew hgr99.out, .inr ⟨_, ia, na, none, ic, nc, 0, hz.out, rfl, (hI.out.kept hgr99.out hl9).mono (by omega), (OwnV.kept hN.out hgr99.out hl9).mono (by omega), (hG9.out.kept hgr99.out hl9).mono (by omega), hL.out.1, hL.out.2.1, hL.out.2.2.1, hL.out.2.2.2⟩⟩
            · have h65' : (k6 == 5) = false := by simpa using h65
              have hq5 : Hid (Pq x (q5 ts its wh ([] : List Int) (-1) s3)) := by have := hq4.out; rw [q4_no (by rw [hk6.out]; exact h65)] at this; exact this
              clear hq4
              have k1 := hP.out.prs.c1
              have k2 := hP.out.prs.c2
              have hpe : Hid (((s3.pos : Nat) : Int) = (s3.pos : Int)) := rfl
              by_cases hend : ¬ s3.pos = ts.length
              · have hne : ((s3.pos : Int) != (ts.length : Int)) = true := by simp only [bne_iff_ne, ne_eq]; have h0 := hpe.out; omega
                have hz : Hid (Pq x none) := by have := hq5.out; unfold q5 at this; rw [if_neg hend] at this; exact this
                have hb9 : Hid (Blk wl1 w.heap.size 53 qz) := hP.out.blk
                have ex9 : Hid (Ext w wl1) := hP.out.ex
                clear hP
                go_wp2_with (refine wpList_storeB (vs := qz) rfl rfl (by rfl) (by rfl) hb9.out size_query rfl qz_one ?_; intro w99 hb99 hgr99; replace hgr99 := hide hgr99; replace hb99 := hide hb99)
                refine bodyPost_ret (results_cell2 rfl (by rfl) hb99.out Yabn.underlying53 size_query) rfl ?_
                exact ⟨ex9.out.setNew hgr99.out, .inl ⟨hz.out, rfl⟩⟩
              have hend : s3.pos = ts.length := Classical.byContradiction hend
              have hne : ((s3.pos : Int) != (ts.length : Int)) = false := by simp only [bne_eq_false_iff_eq]; have h0 := hpe.out; omega
              have hz : Hid (Pq x (some ⟨its, s3.nd, wh, ([] : List Int), (-1)⟩)) := by have := hq5.out; unfold q5 at this; rw [if_pos hend] at this; exact this
              replace hend := hide hend
              obtain ⟨ia, ic, hvi, _⟩ := hI.out.form
              obtain ⟨na, nc, hvn, _⟩ := hP.out.prs.nodes.form
              subst hvi
              rw [hvn] at k2
              replace hvn := hide hvn
              have hb9 : Hid (Blk wl1 w.heap.size 53 qz) := hP.out.blk
              have ex9 : Hid (Ext w wl1) := hP.out.ex
              have hlow : Hid (w.heap.size < w1.heap.size + 1) := Nat.lt_succ_of_lt hP.out.low
              have hN : Hid (OwnN wl1 (w1.heap.size + 1) 98 (.slice na s3.nd.length nc) s3.nd) := by have := hP.out.prs.nodes; rw [hvn.out] at this; exact this
              have hG9 : Hid (OwnI wl1 (w1.heap.size + 1) 3 (.slice none (([] : List Int)).length 0) ([] : List Int)) := hG
              have hL : Hid (its.length ≤ 65536 ∧ s3.nd.length ≤ 65536 ∧ (([] : List Int)).length ≤ 65536 ∧ 1 ≤ its.length) := by
                have h1 := hla.out
                have h2 := hlg.out
                have h3 := hP.out.prs.ndl
                have h4 := hP.out.prs.le
                have h5 := hP.out.prs.len
                exact ⟨by omega, by omega, by omega, by omega⟩
              clear hP hG
              go_wp2_with (refine wpList_storeB (vs := [.slice ia its.length ic, .slice na s3.nd.length nc, .int .i64 wh, .slice none (([] : List Int)).length 0, .int .i64 (-1)]) rfl rfl (by rfl) (by rfl) hb9.out size_query rfl (by simp [Value.oneCell']) ?_; intro w99 hb99 hgr99; replace hgr99 := hide hgr99; replace hb99 := hide hb99)
              refine bodyPost_ret (results_cell2 rfl (by rfl) hb99.out Yabn.underlying53 size_query) rfl ?_
              have hl9 := hlow.out
              exact ⟨ex9.out.setNew hgr99.out, .inr ⟨_, ia, na, none, ic, nc, 0, hz.out, rfl, (hI.out.kept hgr99.out hl9).mono (by omega), (OwnV.kept hN.out hgr99.out hl9).mono (by omega), (hG9.out.kept hgr99.out hl9).mono (by omega), hL.out.1, hL.out.2.1, hL.out.2.2.1, hL.out.2.2.2⟩⟩
      · have h22' : (k2 == 2) = false := by simpa using h22
        have hq3 : Hid (∀ r, Q3 ts its (-1) s2 r → Pq x r) := fun r hr => hq2.out r (.no (by rw [hk2.out]; exact h22) hr)
        clear hq2
        obtain ⟨k3, hk3⟩ : ∃ k, Hid (pk ts s2.pos = k) := ⟨_, rfl⟩
        go_wp2_with fail
        refine (I.peek w1.heap.size ta tc ts s2 v2 k3 hk3 w12 hP.out.prs).mono ?_
        rintro e wg1 ⟨rfl, x3⟩
        replace hP := hide (hP.out.ext x3)
        replace hI := hide (hI.out.ext x3)
        replace hG := hide (hG.out.ext x3)
        clear x3
        by_cases h33 : k3 = 3
        · subst h33
          have hlt := pk_lt hk3.out (by decide)
          obtain ⟨k4, hk4⟩ : ∃ k, Hid (pk ts s2.adv.pos = k) := ⟨_, rfl⟩
          have k1 := hP.out.prs.c1
          have fz := hP.out.prs.fz 1
          have hl := hP.out.prs.len
          have hA : Hid (PI 87 [] w (wg1.setCell ⟨w1.heap.size, 1, none⟩ (.int .i64 ((s2.pos : Int) + 1))) w1.heap.size ta tc ts s2.adv v2) := hP.out.adv hlt
          have hAf : Hid (Fr w1.heap.size v2 v2 wg1 (wg1.setCell ⟨w1.heap.size, 1, none⟩ (.int .i64 ((s2.pos : Int) + 1)))) := Fr.set _ _ _
          replace hI := hide (hI.out.frN hP.out.prs hAf.out (Nat.le_refl _) (by decide))
          replace hG := hide (hG.out.frN hP.out.prs hAf.out (Nat.le_refl _) (by decide))
          go_wp2_with fail
          generalize (wg1.setCell ⟨w1.heap.size, 1, none⟩ (.int .i64 ((s2.pos : Int) + 1))) = wg2 at *
          replace hP := hA
          clear hA hAf k1 fz
          refine (I.peek w1.heap.size ta tc ts s2.adv v2 k4 hk4 wg2 hP.out.prs).mono ?_
          rintro e wg3 ⟨rfl, x3⟩
          replace hP := hide (hP.out.ext x3)
          replace hI := hide (hI.out.ext x3)
          replace hG := hide (hG.out.ext x3)
          clear x3
          clear hlt
          by_cases h44 : ¬ k4 = 4
          · have h4' : (k4 != 4) = true := by simpa using h44
            have hz : Hid (Pq x none) := hq3.out _ (.bad hk3.out (by rw [hk4.out]; exact h44))
            have hb9 : Hid (Blk wg3 w.heap.size 53 qz) := hP.out.blk
            have ex9 : Hid (Ext w wg3) := hP.out.ex
            clear hP
            go_wp2_with (refine wpList_storeB (vs := qz) rfl rfl (by rfl) (by rfl) hb9.out size_query rfl qz_one ?_; intro w99 hb99 hgr99; replace hgr99 := hide hgr99; replace hb99 := hide hb99)
            refine bodyPost_ret (results_cell2 rfl (by rfl) hb99.out Yabn.underlying53 size_query) rfl ?_
            exact ⟨ex9.out.setNew hgr99.out, .inl ⟨hz.out, rfl⟩⟩
          have h44 : k4 = 4 := by omega
          subst h44
          have hlt := pk_lt hk4.out (by decide)
          have hqg : Hid (∀ r, G3 ts its (-1) [] s2.adv.adv r → Pq x r) := fun r hr => hq3.out r (.yes hk3.out hk4.out hr)
          clear hq3
          obtain ⟨k5, hk5⟩ : ∃ k, Hid (pk ts s2.adv.adv.pos = k) := ⟨_, rfl⟩
          have k1 := hP.out.prs.c1
          have fz := hP.out.prs.fz 1
          have hl := hP.out.prs.len
          have hA : Hid (PI 87 [] w (wg3.setCell ⟨w1.heap.size, 1, none⟩ (.int .i64 ((s2.adv.pos : Int) + 1))) w1.heap.size ta tc ts s2.adv.adv v2) := hP.out.adv hlt
          have hAf : Hid (Fr w1.heap.size v2 v2 wg3 (wg3.setCell ⟨w1.heap.size, 1, none⟩ (.int .i64 ((s2.adv.pos : Int) + 1)))) := Fr.set _ _ _
          replace hI := hide (hI.out.frN hP.out.prs hAf.out (Nat.le_refl _) (by decide))
          replace hG := hide (hG.out.frN hP.out.prs hAf.out (Nat.le_refl _) (by decide))
          go_wp2_with fail
          generalize (wg3.setCell ⟨w1.heap.size, 1, none⟩ (.int .i64 ((s2.adv.pos : Int) + 1))) = wg4 at *
          replace hP := hA
          clear hA hAf k1 fz
          refine (I.peek w1.heap.size ta tc ts s2.adv.adv v2 k5 hk5 wg4 hP.out.prs).mono ?_
          rintro e wg5 ⟨rfl, x3⟩
          replace hP := hide (hP.out.ext x3)
          replace hI := hide (hI.out.ext x3)
          replace hG := hide (hG.out.ext x3)
          clear x3
          clear hlt
          by_cases h513 : ¬ k5 = 13
          · have h5' : (k5 != 13) = true := by simpa using h513
            have hz : Hid (Pq x none) := hqg.out _ (.bad (by rw [hk5.out]; exact h513))
            have hb9 : Hid (Blk wg5 w.heap.size 53 qz) := hP.out.blk
            have ex9 : Hid (Ext w wg5) := hP.out.ex
            clear hP
            go_wp2_with (refine wpList_storeB (vs := qz) rfl rfl (by rfl) (by rfl) hb9.out size_query rfl qz_one ?_; intro w99 hb99 hgr99; replace hgr99 := hide hgr99; replace hb99 := hide hb99)
            refine bodyPost_ret (results_cell2 rfl (by rfl) hb99.out Yabn.underlying53 size_query) rfl ?_
            exact ⟨ex9.out.setNew hgr99.out, .inl ⟨hz.out, rfl⟩⟩
          have h513 : k5 = 13 := by omega
          subst h513
          have hlt := pk_lt hk5.out (by decide)
          have hlg : Hid (([] : List Int).length ≤ s2.adv.adv.pos) := Nat.zero_le _
          replace hla : Hid (its.length ≤ s2.adv.adv.pos ∧ 1 ≤ its.length) := ⟨Nat.le_succ_of_le (Nat.le_succ_of_le hla.out.1), hla.out.2⟩
          obtain ⟨b, off, hta, g1⟩ := hP.out.prs.tok hlt
          have hlt' : (s2.adv.adv.pos : Int) < ts.length := by omega
          have k0 := hP.out.prs.c0
          rw [hta] at k0
          replace hta := hide hta
          have k1 := hP.out.prs.c1
          have fz := hP.out.prs.fz 1
          have hl := hP.out.prs.len
          have hqA : Hid (pk ts s2.adv.adv.adv.pos = 17 → ∀ r, G3 ts its (-1) (([] : List Int) ++ [nu ts s2.adv.adv.pos]) s2.adv.adv.adv.adv r → Pq x r) := fun h0 r hr => hqg.out r (.more hk5.out h0 hr)
          have hqB : Hid (pk ts s2.adv.adv.adv.pos ≠ 17 → Pq x (q4 ts its (-1) (([] : List Int) ++ [nu ts s2.adv.adv.pos]) s2.adv.adv.adv)) := fun h0 => hqg.out _ (.last hk5.out h0)
          have hlg7 : Hid ((([] : List Int) ++ [nu ts s2.adv.adv.pos]).length ≤ s2.adv.adv.adv.pos ∧ its.length ≤ s2.adv.adv.adv.pos ∧ 1 ≤ its.length) := by
            have h1 := hla.out
            have h2 := hlg.out
            refine ⟨?_, ?_, h1.2⟩
            · simp only [List.length_append, List.length_singleton, PS.adv] at h2 ⊢; omega
            · simp only [PS.adv] at h1 ⊢; omega
          have hln : Hid ((([] : List Int)).length < 2 ^ 39) := by have := hlg.out; show (([] : List Int)).length < 2 ^ 39; simp only [PS.adv] at this hlt; omega
          generalize nu ts s2.adv.adv.pos = yc at *
          have hap : Hid (Apart (.slice none (([] : List Int)).length 0) v2) := apart_types hG.out hP.out.prs.nodes.2 (by decide)
          have hapI : Hid (Apart u7 (.slice none (([] : List Int)).length 0)) := apart_types hI.out hG.out (by decide)
          have hSl : Hid (w1.heap.size < wg5.heap.size) := hP.out.prs.blk.lt
          clear hqg
          go_wp2
          refine Dr.region_text (by kernel_rfl) ?_
          go_wp2_with (at_builtin; refine app_int rfl rfl (w1.heap.size + 1) (by have := hSl.out; simp; omega) (.slice none (([] : List Int)).length 0) ([] : List Int) yc rfl (OwnI.alloc hG.out _) wg5.heap.size 1 (by rfl) (heap_alloc_new wg5 _) hln.out ?_; intro gg capg wg7 O7 hgr7 hor7 hlt7; have hI7 := hide (OwnP.but ((hI.out.alloc (.cells #[.int .i64 yc] 3)).drew) hgr7 hapI.out); replace hP := hide (hP.out.app (((Ext.refl wg5).alloc (.cells #[.int .i64 yc] 3)).drew) hgr7 (fun k hk => hG.out.block k hk) hap.out); clear hI hG; have hI := hI7; clear hI7; have hG := hide O7; clear O7 hgr7 hor7 hlt7 k0 k1 fz g1)
          refine ⟨by rfl, ?_⟩
          have k1 := hP.out.prs.c1
          have fz := hP.out.prs.fz 1
          have hA : Hid (PI 87 [] w (wg7.setCell ⟨w1.heap.size, 1, none⟩ (.int .i64 ((s2.adv.adv.pos : Int) + 1))) w1.heap.size ta tc ts s2.adv.adv.adv v2) := hP.out.adv hlt
          have hAf : Hid (Fr w1.heap.size v2 v2 wg7 (wg7.setCell ⟨w1.heap.size, 1, none⟩ (.int .i64 ((s2.adv.adv.pos : Int) + 1)))) := Fr.set _ _ _
          replace hI := hide (hI.out.frN hP.out.prs hAf.out (Nat.le_refl _) (by decide))
          replace hG := hide (hG.out.frN hP.out.prs hAf.out (Nat.le_refl _) (by decide))
          clear hP hAf hap hapI hSl hln hlt'
          go_wp2
          clear k1 fz
          go_loopw [14] (fun vg wq => ∃ (gr : List Int) (s6 : PS) (ga : Option Addr) (gc : Nat), vg = .slice ga gr.length gc ∧ Hid (gr.length ≤ s6.pos ∧ its.length ≤ s6.pos ∧ 1 ≤ its.length) ∧ Hid (pk ts s6.pos = 17 → ∀ r, G3 ts its (-1) gr s6.adv r → Pq x r) ∧ Hid (pk ts s6.pos ≠ 17 → Pq x (q4 ts its (-1) gr s6)) ∧ Hid (PI 87 [] w wq w1.heap.size ta tc ts s6 v2) ∧ Hid (OwnP wq (w1.heap.size + 1) 89 u7 its) ∧ Hid (OwnI wq (w1.heap.size + 1) 3 (.slice ga gr.length gc) gr)) (fun _ wq => ts.length - posAt wq w1.heap.size)
          case atStart => exact ⟨_, _, _, _, rfl, hlg7, hqA, hqB, hA, hI, hG⟩
          clear hlg7 hqA hqB hA hI hG hla hlg hlt
          obtain ⟨gr, s6, ga, gc, rfl, hlg7, hqA, hqB, hP, hI, hG⟩ := hrel
          have hpW := hide hP.out.prs.posAt
          obtain ⟨k8, hk8⟩ : ∃ k, Hid (pk ts s6.pos = k) := ⟨_, rfl⟩
          go_wp2_with fail
          refine (I.peek w1.heap.size ta tc ts s6 v2 k8 hk8 wr hP.out.prs).mono ?_
          rintro e wh1 ⟨rfl, x3⟩
          replace hP := hide (hP.out.ext x3)
          replace hI := hide (hI.out.ext x3)
          replace hG := hide (hG.out.ext x3)
          clear x3
          by_cases h817 : k8 = 17
          · subst h817
            have hlt := pk_lt hk8.out (by decide)
            have hqg := hide (hqA.out hk8.out)
            clear hqA hqB
            have hla : Hid (its.length ≤ s6.adv.pos ∧ 1 ≤ its.length) := ⟨Nat.le_succ_of_le hlg7.out.2.1, hlg7.out.2.2⟩
            have hlg : Hid (gr.length ≤ s6.adv.pos) := Nat.le_succ_of_le hlg7.out.1
            clear hlg7
            obtain ⟨k9, hk9⟩ : ∃ k, Hid (pk ts s6.adv.pos = k) := ⟨_, rfl⟩
            have k1 := hP.out.prs.c1
            have fz := hP.out.prs.fz 1
            have hl := hP.out.prs.len
            have hA : Hid (PI 87 [] w (wh1.setCell ⟨w1.heap.size, 1, none⟩ (.int .i64 ((s6.pos : Int) + 1))) w1.heap.size ta tc ts s6.adv v2) := hP.out.adv hlt
            have hAf : Hid (Fr w1.heap.size v2 v2 wh1 (wh1.setCell ⟨w1.heap.size, 1, none⟩ (.int .i64 ((s6.pos : Int) + 1)))) := Fr.set _ _ _
            replace hI := hide (hI.out.frN hP.out.prs hAf.out (Nat.le_refl _) (by decide))
            replace hG := hide (hG.out.frN hP.out.prs hAf.out (Nat.le_refl _) (by decide))
            go_wp2_with fail
            generalize (wh1.setCell ⟨w1.heap.size, 1, none⟩ (.int .i64 ((s6.pos : Int) + 1))) = wh2 at *
            replace hP := hA
            clear hA hAf k1 fz
            refine (I.peek w1.heap.size ta tc ts s6.adv v2 k9 hk9 wh2 hP.out.prs).mono ?_
            rintro e wh3 ⟨rfl, x3⟩
            replace hP := hide (hP.out.ext x3)
            replace hI := hide (hI.out.ext x3)
            replace hG := hide (hG.out.ext x3)
            clear x3
            by_cases h913 : ¬ k9 = 13
            · have h9' : (k9 != 13) = true := by simpa using h913
              have hz : Hid (Pq x none) := hqg.out _ (.bad (by rw [hk9.out]; exact h913))
              have hb9 : Hid (Blk wh3 w.heap.size 53 qz) := hP.out.blk
              have ex9 : Hid (Ext w wh3) := hP.out.ex
              clear hP
              go_wp2_with (refine wpList_storeB (vs := qz) rfl rfl (by rfl) (by rfl) hb9.out size_query rfl qz_one ?_; intro w99 hb99 hgr99; replace hgr99 := hide hgr99; replace hb99 := hide hb99)
              refine bodyPost_ret (results_cell2 rfl (by rfl) hb99.out Yabn.underlying53 size_query) rfl ?_
              exact ⟨ex9.out.setNew hgr99.out, .inl ⟨hz.out, rfl⟩⟩
            have h913 : k9 = 13 := by omega
            subst h913
            have hp2 : Hid (s6.adv.adv.pos = s6.pos + 2) := rfl
            clear hlt
            have hlt := pk_lt hk9.out (by decide)
            obtain ⟨b, off, hta, g1⟩ := hP.out.prs.tok hlt
            have hlt' : (s6.adv.pos : Int) < ts.length := by omega
            have k0 := hP.out.prs.c0
            rw [hta] at k0
            replace hta := hide hta
            have k1 := hP.out.prs.c1
            have fz := hP.out.prs.fz 1
            have hl := hP.out.prs.len
            have hqA : Hid (pk ts s6.adv.adv.pos = 17 → ∀ r, G3 ts its (-1) (gr ++ [nu ts s6.adv.pos]) s6.adv.adv.adv r → Pq x r) := fun h0 r hr => hqg.out r (.more hk9.out h0 hr)
            have hqB : Hid (pk ts s6.adv.adv.pos ≠ 17 → Pq x (q4 ts its (-1) (gr ++ [nu ts s6.adv.pos]) s6.adv.adv)) := fun h0 => hqg.out _ (.last hk9.out h0)
            have hlg7 : Hid ((gr ++ [nu ts s6.adv.pos]).length ≤ s6.adv.adv.pos ∧ its.length ≤ s6.adv.adv.pos ∧ 1 ≤ its.length) := by
              have h1 := hla.out
              have h2 := hlg.out
              refine ⟨?_, ?_, h1.2⟩
              · simp only [List.length_append, List.length_singleton, PS.adv] at h2 ⊢; omega
              · simp only [PS.adv] at h1 ⊢; omega
            have hln : Hid ((gr).length < 2 ^ 39) := by have := hlg.out; show (gr).length < 2 ^ 39; simp only [PS.adv] at this hlt; omega
            generalize nu ts s6.adv.pos = yc at *
            have hap : Hid (Apart (.slice ga (gr).length gc) v2) := apart_types hG.out hP.out.prs.nodes.2 (by decide)
            have hapI : Hid (Apart u7 (.slice ga (gr).length gc)) := apart_types hI.out hG.out (by decide)
            have hSl : Hid (w1.heap.size < wh3.heap.size) := hP.out.prs.blk.lt
            clear hqg
            go_wp2
            refine Dr.region_text (by kernel_rfl) ?_
            go_wp2_with (at_builtin; refine app_int rfl rfl (w1.heap.size + 1) (by have := hSl.out; simp; omega) (.slice ga (gr).length gc) gr yc rfl (OwnI.alloc hG.out _) wh3.heap.size 1 (by rfl) (heap_alloc_new wh3 _) hln.out ?_; intro gg capg wh7 O7 hgr7 hor7 hlt7; have hI7 := hide (OwnP.but ((hI.out.alloc (.cells #[.int .i64 yc] 3)).drew) hgr7 hapI.out); replace hP := hide (hP.out.app (((Ext.refl wh3).alloc (.cells #[.int .i64 yc] 3)).drew) hgr7 (fun k hk => hG.out.block k hk) hap.out); clear hI hG; have hI := hI7; clear hI7; have hG := hide O7; clear O7 hgr7 hor7 hlt7 k0 k1 fz g1)
            refine ⟨by rfl, ?_⟩
            have k1 := hP.out.prs.c1
            have fz := hP.out.prs.fz 1
            have hA : Hid (PI 87 [] w (wh7.setCell ⟨w1.heap.size, 1, none⟩ (.int .i64 ((s6.adv.pos : Int) + 1))) w1.heap.size ta tc ts s6.adv.adv v2) := hP.out.adv hlt
            have hAf : Hid (Fr w1.heap.size v2 v2 wh7 (wh7.setCell ⟨w1.heap.size, 1, none⟩ (.int .i64 ((s6.adv.pos : Int) + 1)))) := Fr.set _ _ _
            replace hI := hide (hI.out.frN hP.out.prs hAf.out (Nat.le_refl _) (by decide))
            replace hG := hide (hG.out.frN hP.out.prs hAf.out (Nat.le_refl _) (by decide))
            clear hP hAf hap hapI hSl hln hlt'
            go_wp2
            clear k1 fz
            have hp6 := hide hA.out.prs.posAt
            have hle6 := hide hA.out.prs.le
            go_roundw
            case rel => exact ⟨gr ++ [yc], s6.adv.adv, some ⟨gg, 0, none⟩, capg, by simp, hlg7.out, hqA.out, hqB.out, hA.out, hI.out, by rw [List.length_append]; exact hG.out⟩
            case measure =>
              have h6 := hle6.out
              have h7 := hp2.out
              rw [hp6.out, hpW.out]
              omega
          · have h817' : (k8 == 17) = false := by simpa using h817
            have hq4 := hide (hqB.out (by rw [hk8.out]; exact h817))
            have hla : Hid (its.length ≤ s6.pos ∧ 1 ≤ its.length) := ⟨hlg7.out.2.1, hlg7.out.2.2⟩
            have hlg : Hid (gr.length ≤ s6.pos) := hlg7.out.1
            clear hqA hqB hpW hlg7
            obtain ⟨k6, hk6⟩ : ∃ k, Hid (pk ts s6.pos = k) := ⟨_, rfl⟩
            go_wp2_with fail
            refine (I.peek w1.heap.size ta tc ts s6 v2 k6 hk6 wh1 hP.out.prs).mono ?_
            rintro e wl1 ⟨rfl, x3⟩
            replace hP := hide (hP.out.ext x3)
            replace hI := hide (hI.out.ext x3)
            replace hG := hide (hG.out.ext x3)
            clear x3
            by_cases h65 : k6 = 5
            · subst h65
              have hlt := pk_lt hk6.out (by decide)
              obtain ⟨k7, hk7⟩ : ∃ k, Hid (pk ts s6.adv.pos = k) := ⟨_, rfl⟩
              have k1 := hP.out.prs.c1
              have fz := hP.out.prs.fz 1
              have hl := hP.out.prs.len
              have hA : Hid (PI 87 [] w (wl1.setCell ⟨w1.heap.size, 1, none⟩ (.int .i64 ((s6.pos : Int) + 1))) w1.heap.size ta tc ts s6.adv v2) := hP.out.adv hlt
              have hAf : Hid (Fr w1.heap.size v2 v2 wl1 (wl1.setCell ⟨w1.heap.size, 1, none⟩ (.int .i64 ((s6.pos : Int) + 1)))) := Fr.set _ _ _
              replace hI := hide (hI.out.frN hP.out.prs hAf.out (Nat.le_refl _) (by decide))
              replace hG := hide (hG.out.frN hP.out.prs hAf.out (Nat.le_refl _) (by decide))
              go_wp2_with fail
              generalize (wl1.setCell ⟨w1.heap.size, 1, none⟩ (.int .i64 ((s6.pos : Int) + 1))) = wl2 at *
              replace hP := hA
              clear hA hAf k1 fz
              refine (I.peek w1.heap.size ta tc ts s6.adv v2 k7 hk7 wl2 hP.out.prs).mono ?_
              rintro e wl3 ⟨rfl, x3⟩
              replace hP := hide (hP.out.ext x3)
              replace hI := hide (hI.out.ext x3)
              replace hG := hide (hG.out.ext x3)
              clear x3
              clear hlt
              by_cases h714 : ¬ k7 = 14
              · have h7' : (k7 != 14) = true := by simpa using h714
                have hz : Hid (Pq x none) := by have := hq4.out; rw [q4_bad hk6.out (by rw [hk7.out]; exact h714)] at this; exact this
                have hb9 : Hid (Blk wl3 w.heap.size 53 qz) := hP.out.blk
                have ex9 : Hid (Ext w wl3) := hP.out.ex
                clear hP
                go_wp2_with (refine wpList_storeB (vs := qz) rfl rfl (by rfl) (by rfl) hb9.out size_query rfl qz_one ?_; intro w99 hb99 hgr99; replace hgr99 := hide hgr99; replace hb99 := hide hb99)
                refine bodyPost_ret (results_cell2 rfl (by rfl) hb99.out Yabn.underlying53 size_query) rfl ?_
                exact ⟨ex9.out.setNew hgr99.out, .inl ⟨hz.out, rfl⟩⟩
              have h714 : k7 = 14 := by omega
              subst h714
              have hlt := pk_lt hk7.out (by decide)
              have hq5 : Hid (Pq x (q5 ts its (-1) gr (nu ts s6.adv.pos) s6.adv.adv)) := by have := hq4.out; rw [q4_yes hk6.out hk7.out] at this; exact this
              replace hlg : Hid ((gr).length ≤ s6.adv.adv.pos) := Nat.le_succ_of_le (Nat.le_succ_of_le hlg.out)
              replace hla : Hid (its.length ≤ s6.adv.adv.pos ∧ 1 ≤ its.length) := ⟨Nat.le_succ_of_le (Nat.le_succ_of_le hla.out.1), hla.out.2⟩
              obtain ⟨b, off, hta, g1⟩ := hP.out.prs.tok hlt
              have hlt' : (s6.adv.pos : Int) < ts.length := by omega
              have k0 := hP.out.prs.c0
              rw [hta] at k0
              replace hta := hide hta
              have k1 := hP.out.prs.c1
              have fz := hP.out.prs.fz 1
              have hl := hP.out.prs.len
              have hA : Hid (PI 87 [] w (wl3.setCell ⟨w1.heap.size, 1, none⟩ (.int .i64 ((s6.adv.pos : Int) + 1))) w1.heap.size ta tc ts s6.adv.adv v2) := hP.out.adv hlt
              have hAf : Hid (Fr w1.heap.size v2 v2 wl3 (wl3.setCell ⟨w1.heap.size, 1, none⟩ (.int .i64 ((s6.adv.pos : Int) + 1)))) := Fr.set _ _ _
              replace hI := hide (hI.out.frN hP.out.prs hAf.out (Nat.le_refl _) (by decide))
              replace hG := hide (hG.out.frN hP.out.prs hAf.out (Nat.le_refl _) (by decide))
              generalize nu ts s6.adv.pos = li at *
              clear hq4
              go_wp2
              refine Dr.region_text (by kernel_rfl) ?_
              go_wp2
              refine ⟨by rfl, ?_⟩
              have hX : Hid (Ext (wl3.setCell ⟨w1.heap.size, 1, none⟩ (.int .i64 ((s6.adv.pos : Int) + 1))) (wl3.setCell ⟨w1.heap.size, 1, none⟩ (.int .i64 ((s6.adv.pos : Int) + 1))).drew) := (Ext.refl _).drew
              have k2 := hP.out.prs.c2
              clear hP
              have hP := hide (hA.out.ext hX.out)
              replace hI := hide (hI.out.ext hX.out)
              replace hG := hide (hG.out.ext hX.out)
              have hpe : Hid (((s6.adv.adv.pos : Nat) : Int) = (s6.adv.pos : Int) + 1) := rfl
              clear hA hAf hX
              by_cases hend : ¬ s6.adv.adv.pos = ts.length
              · have hne : (((s6.adv.pos : Int) + 1) != (ts.length : Int)) = true := by simp only [bne_iff_ne, ne_eq]; have h0 := hpe.out; omega
                have hz : Hid (Pq x none) := by have := hq5.out; unfold q5 at this; rw [if_neg hend] at this; exact this
                have hb9 : Hid (Blk (wl3.setCell ⟨w1.heap.size, 1, none⟩ (.int .i64 ((s6.adv.pos : Int) + 1))).drew w.heap.size 53 qz) := hP.out.blk
                have ex9 : Hid (Ext w (wl3.setCell ⟨w1.heap.size, 1, none⟩ (.int .i64 ((s6.adv.pos : Int) + 1))).drew) := hP.out.ex
                clear hP
                go_wp2_with (refine wpList_storeB (vs := qz) rfl rfl (by rfl) (by rfl) hb9.out size_query rfl qz_one ?_; intro w99 hb99 hgr99; replace hgr99 := hide hgr99; replace hb99 := hide hb99)
                refine bodyPost_ret (results_cell2 rfl (by rfl) hb99.out Yabn.underlying53 size_query) rfl ?_
                exact ⟨ex9.out.setNew hgr99.out, .inl ⟨hz.out, rfl⟩⟩
              have hend : s6.adv.adv.pos = ts.length := Classical.byContradiction hend
              have hne : (((s6.adv.pos : Int) + 1) != (ts.length : Int)) = false := by simp only [bne_eq_false_iff_eq]; have h0 := hpe.out; omega
              have hz : Hid (Pq x (some ⟨its, s6.adv.adv.nd, (-1), gr, li⟩)) := by have := hq5.out; unfold q5 at this; rw [if_pos hend] at this; exact this
              replace hend := hide hend
              obtain ⟨ia, ic, hvi, _⟩ := hI.out.form
              obtain ⟨na, nc, hvn, _⟩ := hP.out.prs.nodes.form
              subst hvi
              rw [hvn] at k2
              replace hvn := hide hvn
              have hb9 : Hid (Blk (wl3.setCell ⟨w1.heap.size, 1, none⟩ (.int .i64 ((s6.adv.pos : Int) + 1))).drew w.heap.size 53 qz) := hP.out.blk
              have ex9 : Hid (Ext w (wl3.setCell ⟨w1.heap.size, 1, none⟩ (.int .i64 ((s6.adv.pos : Int) + 1))).drew) := hP.out.ex
              have hlow : Hid (w.heap.size < w1.heap.size + 1) := Nat.lt_succ_of_lt hP.out.low
              have hN : Hid (OwnN (wl3.setCell ⟨w1.heap.size, 1, none⟩ (.int .i64 ((s6.adv.pos : Int) + 1))).drew (w1.heap.size + 1) 98 (.slice na s6.adv.adv.nd.length nc) s6.adv.adv.nd) := by have := hP.out.prs.nodes; rw [hvn.out] at this; exact this
              have hG9 : Hid (OwnI (wl3.setCell ⟨w1.heap.size, 1, none⟩ (.int .i64 ((s6.adv.pos : Int) + 1))).drew (w1.heap.size + 1) 3 (.slice ga (gr).length gc) gr) := hG
              have hL : Hid (its.length ≤ 65536 ∧ s6.adv.adv.nd.length ≤ 65536 ∧ (gr).length ≤ 65536 ∧ 1 ≤ its.length) := by
                have h1 := hla.out
                have h2 := hlg.out
                have h3 := hP.out.prs.ndl
                have h4 := hP.out.prs.le
                have h5 := hP.out.prs.len
                exact ⟨by omega, by omega, by omega, by omega⟩
              clear hP hG
              go_wp2_with (refine wpList_storeB (vs := [.slice ia its.length ic, .slice na s6.adv.adv.nd.length nc, .int .i64 (-1), .slice ga (gr).length gc, .int .i64 li]) rfl rfl (by rfl) (by rfl) hb9.out size_query rfl (by simp [Value.oneCell']) ?_; intro w99 hb99 hgr99; replace hgr99 := hide hgr99; replace hb99 := hide hb99)
              refine bodyPost_ret (results_cell2 rfl (by rfl) hb99.out Yabn.underlying53 size_query) rfl ?_
              have hl9 := hlow.out
              exact ⟨ex9.out.setNew hgr99.out, .inr ⟨_, ia, na, ga, ic, nc, gc, hz.out, rfl, (hI.out.kept hgr99.out hl9).mono (by omega), (OwnV.kept hN.out hgr99.out hl9).mono (by omega), (hG9.out.kept hgr99.out hl9).mono (by omega), hL.out.1, hL.out.2.1, hL.out.2.2.1, hL.out.2.2.2⟩⟩
            · have h65' : (k6 == 5) = false := by simpa using h65
              have hq5 : Hid (Pq x (q5 ts its (-1) gr (-1) s6)) := by have := hq4.out; rw [q4_no (by rw [hk6.out]; exact h65)] at this; exact this
              clear hq4
              have k1 := hP.out.prs.c1
              have k2 := hP.out.prs.c2
              have hpe : Hid (((s6.pos : Nat) : Int) = (s6.pos : Int)) := rfl
              by_cases hend : ¬ s6.pos = ts.length
              · have hne : ((s6.pos : Int) != (ts.length : Int)) = true := by simp only [bne_iff_ne, ne_eq]; have h0 := hpe.out; omega
                have hz : Hid (Pq x none) := by have := hq5.out; unfold q5 at this; rw [if_neg hend] at this; exact this
                have hb9 : Hid (Blk wl1 w.heap.size 53 qz) := hP.out.blk
                have ex9 : Hid (Ext w wl1) := hP.out.ex
                clear hP
                go_wp2_with (refine wpList_storeB (vs := qz) rfl rfl (by rfl) (by rfl) hb9.out size_query rfl qz_one ?_; intro w99 hb99 hgr99; replace hgr99 := hide hgr99; replace hb99 := hide hb99)
                refine bodyPost_ret (results_cell2 rfl (by rfl) hb99.out Yabn.underlying53 size_query) rfl ?_
                exact ⟨ex9.out.setNew hgr99.out, .inl ⟨hz.out, rfl⟩⟩
              have hend : s6.pos = ts.length := Classical.byContradiction hend
              have hne : ((s6.pos : Int) != (ts.length : Int)) = false := by simp only [bne_eq_false_iff_eq]; have h0 := hpe.out; omega
              have hz : Hid (Pq x (some ⟨its, s6.nd, (-1), gr, (-1)⟩)) := by have := hq5.out; unfold q5 at this; rw [if_pos hend] at this; exact this
              replace hend := hide hend
              obtain ⟨ia, ic, hvi, _⟩ := hI.out.form
              obtain ⟨na, nc, hvn, _⟩ := hP.out.prs.nodes.form
              subst hvi
              rw [hvn] at k2
              replace hvn := hide hvn
              have hb9 : Hid (Blk wl1 w.heap.size 53 qz) := hP.out.blk
              have ex9 : Hid (Ext w wl1) := hP.out.ex
              have hlow : Hid (w.heap.size < w1.heap.size + 1) := Nat.lt_succ_of_lt hP.out.low
              have hN : Hid (OwnN wl1 (w1.heap.size + 1) 98 (.slice na s6.nd.length nc) s6.nd) := by have := hP.out.prs.nodes; rw [hvn.out] at this; exact this
              have hG9 : Hid (OwnI wl1 (w1.heap.size + 1) 3 (.slice ga (gr).length gc) gr) := hG
              have hL : Hid (its.length ≤ 65536 ∧ s6.nd.length ≤ 65536 ∧ (gr).length ≤ 65536 ∧ 1 ≤ its.length) := by
                have h1 := hla.out
                have h2 := hlg.out
                have h3 := hP.out.prs.ndl
                have h4 := hP.out.prs.le
                have h5 := hP.out.prs.len
                exact ⟨by omega, by omega, by omega, by omega⟩
              clear hP hG
              go_wp2_with (refine wpList_storeB (vs := [.slice ia its.length ic, .slice na s6.nd.length nc, .int .i64 (-1), .slice ga (gr).length gc, .int .i64 (-1)]) rfl rfl (by rfl) (by rfl) hb9.out size_query rfl (by simp [Value.oneCell']) ?_; intro w99 hb99 hgr99; replace hgr99 := hide hgr99; replace hb99 := hide hb99)
              refine bodyPost_ret (results_cell2 rfl (by rfl) hb99.out Yabn.underlying53 size_query) rfl ?_
              have hl9 := hlow.out
              exact ⟨ex9.out.setNew hgr99.out, .inr ⟨_, ia, na, ga, ic, nc, gc, hz.out, rfl, (hI.out.kept hgr99.out hl9).mono (by omega), (OwnV.kept hN.out hgr99.out hl9).mono (by omega), (hG9.out.kept hgr99.out hl9).mono (by omega), hL.out.1, hL.out.2.1, hL.out.2.2.1, hL.out.2.2.2⟩⟩
        · have h33' : (k3 == 3) = false := by simpa using h33
          have hq4 : Hid (Pq x (q4 ts its (-1) [] s2)) := hq3.out _ (.no (by rw [hk3.out]; exact h33))
          clear hq3
          have hlg : Hid (([] : List Int).length ≤ s2.pos) := Nat.zero_le _
          obtain ⟨k6, hk6⟩ : ∃ k, Hid (pk ts s2.pos = k) := ⟨_, rfl⟩
          go_wp2_with fail
          refine (I.peek w1.heap.size ta tc ts s2 v2 k6 hk6 wg1 hP.out.prs).mono ?_
          rintro e wl1 ⟨rfl, x3⟩
          replace hP := hide (hP.out.ext x3)
          replace hI := hide (hI.out.ext x3)
          replace hG := hide (hG.out.ext x3)
          clear x3
          by_cases h65 : k6 = 5
          · subst h65
            have hlt := pk_lt hk6.out (by decide)
            obtain ⟨k7, hk7⟩ : ∃ k, Hid (pk ts s2.adv.pos = k) := ⟨_, rfl⟩
            have k1 := hP.out.prs.c1
            have fz := hP.out.prs.fz 1
            have hl := hP.out.prs.len
            have hA : Hid (PI 87 [] w (wl1.setCell ⟨w1.heap.size, 1, none⟩ (.int .i64 ((s2.pos : Int) + 1))) w1.heap.size ta tc ts s2.adv v2) := hP.out.adv hlt
            have hAf : Hid (Fr w1.heap.size v2 v2 wl1 (wl1.setCell ⟨w1.heap.size, 1, none⟩ (.int .i64 ((s2.pos : Int) + 1)))) := Fr.set _ _ _
            replace hI := hide (hI.out.frN hP.out.prs hAf.out (Nat.le_refl _) (by decide))
            replace hG := hide (hG.out.frN hP.out.prs hAf.out (Nat.le_refl _) (by decide))
            go_wp2_with fail
            generalize (wl1.setCell ⟨w1.heap.size, 1, none⟩ (.int .i64 ((s2.pos : Int) + 1))) = wl2 at *
            replace hP := hA
            clear hA hAf k1 fz
            refine (I.peek w1.heap.size ta tc ts s2.adv v2 k7 hk7 wl2 hP.out.prs).mono ?_
            rintro e wl3 ⟨rfl, x3⟩
            replace hP := hide (hP.out.ext x3)
            replace hI := hide (hI.out.ext x3)
            replace hG := hide (hG.out.ext x3)
            clear x3
            clear hlt
            by_cases h714 : ¬ k7 = 14
            · have h7' : (k7 != 14) = true := by simpa using h714
              have hz : Hid (Pq x none) := by have := hq4.out; rw [q4_bad hk6.out (by rw [hk7.out]; exact h714)] at this; exact this
              have hb9 : Hid (Blk wl3 w.heap.size 53 qz) := hP.out.blk
              have ex9 : Hid (Ext w wl3) := hP.out.ex
              clear hP
              go_wp2_with (refine wpList_storeB (vs := qz) rfl rfl (by rfl) (by rfl) hb9.out size_query rfl qz_one ?_; intro w99 hb99 hgr99; replace hgr99 := hide hgr99; replace hb99 := hide hb99)
              refine bodyPost_ret (results_cell2 rfl (by rfl) hb99.out Yabn.underlying53 size_query) rfl ?_
              exact ⟨ex9.out.setNew hgr99.out, .inl ⟨hz.out, rfl⟩⟩
            have h714 : k7 = 14 := by omega
            subst h714
            have hlt := pk_lt hk7.out (by decide)
            have hq5 : Hid (Pq x (q5 ts its (-1) ([] : List Int) (nu ts s2.adv.pos) s2.adv.adv)) := by have := hq4.out; rw [q4_yes hk6.out hk7.out] at this; exact this
            replace hlg : Hid ((([] : List Int)).length ≤ s2.adv.adv.pos) := Nat.le_succ_of_le (Nat.le_succ_of_le hlg.out)
            replace hla : Hid (its.length ≤ s2.adv.adv.pos ∧ 1 ≤ its.length) := ⟨Nat.le_succ_of_le (Nat.le_succ_of_le hla.out.1), hla.out.2⟩
            obtain ⟨b, off, hta, g1⟩ := hP.out.prs.tok hlt
            have hlt' : (s2.adv.pos : Int) < ts.length := by omega
            have k0 := hP.out.prs.c0
            rw [hta] at k0
            replace hta := hide hta
            have k1 := hP.out.prs.c1
            have fz := hP.out.prs.fz 1
            have hl := hP.out.prs.len
            have hA : Hid (PI 87 [] w (wl3.setCell ⟨w1.heap.size, 1, none⟩ (.int .i64 ((s2.adv.pos : Int) + 1))) w1.heap.size ta tc ts s2.adv.adv v2) := hP.out.adv hlt
            have hAf : Hid (Fr w1.heap.size v2 v2 wl3 (wl3.setCell ⟨w1.heap.size, 1, none⟩ (.int .i64 ((s2.adv.pos : Int) + 1)))) := Fr.set _ _ _
            replace hI := hide (hI.out.frN hP.out.prs hAf.out (Nat.le_refl _) (by decide))
            replace hG := hide (hG.out.frN hP.out.prs hAf.out (Nat.le_refl _) (by decide))
            generalize nu ts s2.adv.pos = li at *
            clear hq4
            go_wp2
            refine Dr.region_text (by kernel_rfl) ?_
            go_wp2
            refine ⟨by rfl, ?_⟩
            have hX : Hid (Ext (wl3.setCell ⟨w1.heap.size, 1, none⟩ (.int .i64 ((s2.adv.pos : Int) + 1))) (wl3.setCell ⟨w1.heap.size, 1, none⟩ (.int .i64 ((s2.adv.pos : Int) + 1))).drew) := (Ext.refl _).drew
            have k2 := hP.out.prs.c2
            clear hP
            have hP := hide (hA.out.ext hX.out)
            replace hI := hide (hI.out.ext hX.out)
            replace hG := hide (hG.out.ext hX.out)
            have hpe : Hid (((s2.adv.adv.pos : Nat) : Int) = (s2.adv.pos : Int) + 1) := rfl
            clear hA hAf hX
            by_cases hend : ¬ s2.adv.adv.pos = ts.length
            · have hne : (((s2.adv.pos : Int) + 1) != (ts.length : Int)) = true := by simp only [bne_iff_ne, ne_eq]; have h0 := hpe.out; omega
              have hz : Hid (Pq x none) := by have := hq5.out; unfold q5 at this; rw [if_neg hend] at this; exact this
              have hb9 : Hid (Blk (wl3.setCell ⟨w1.heap.size, 1, none⟩ (.int .i64 ((s2.adv.pos : Int) + 1))).drew w.heap.size 53 qz) := hP.out.blk
              have ex9 : Hid (Ext w (wl3.setCell ⟨w1.heap.size, 1, none⟩ (.int .i64 ((s2.adv.pos : Int) + 1))).drew) := hP.out.ex
              clear hP
              go_wp2_with (refine wpList_storeB (vs := qz) rfl rfl (by rfl) (by rfl) hb9.out size_query rfl qz_one ?_; intro w99 hb99 hgr99; replace hgr99 := hide hgr99; replace hb99 := hide hb99)
              refine bodyPost_ret (results_cell2 rfl (by rfl) hb99.out Yabn.underlying53 size_query) rfl ?_
              exact ⟨ex9.out.setNew hgr99.out, .inl ⟨hz.out, rfl⟩⟩
            have hend : s2.adv.adv.pos = ts.length := Classical.byContradiction hend
            have hne : (((s2.adv.pos : Int) + 1) != (ts.length : Int)) = false := by simp only [bne_eq_false_iff_eq]; have h0 := hpe.out; omega
            have hz : Hid (Pq x (some ⟨its, s2.adv.adv.nd, (-1), ([] : List Int), li⟩)) := by have := hq5.out; unfold q5 at this; rw [if_pos hend] at this; exact this
            replace hend := hide hend
            obtain ⟨ia, ic, hvi, _⟩ := hI.out.form
            obtain ⟨na, nc, hvn, _⟩ := hP.out.prs.nodes.form
            subst hvi
            rw [hvn] at k2
            replace hvn := hide hvn
            have hb9 : Hid (Blk (wl3.setCell ⟨w1.heap.size, 1, none⟩ (.int .i64 ((s2.adv.pos : Int) + 1))).drew w.heap.size 53 qz) := hP.out.blk
            have ex9 : Hid (Ext w (wl3.setCell ⟨w1.heap.size, 1, none⟩ (.int .i64 ((s2.adv.pos : Int) + 1))).drew) := hP.out.ex
            have hlow : Hid (w.heap.size < w1.heap.size + 1) := Nat.lt_succ_of_lt hP.out.low
            have hN : Hid (OwnN (wl3.setCell ⟨w1.heap.size, 1, none⟩ (.int .i64 ((s2.adv.pos : Int) + 1))).drew (w1.heap.size + 1) 98 (.slice na s2.adv.adv.nd.length nc) s2.adv.adv.nd) := by have := hP.out.prs.nodes; rw [hvn.out] at this; exact this
            have hG9 : Hid (OwnI (wl3.setCell ⟨w1.heap.size, 1, none⟩ (.int .i64 ((s2.adv.pos : Int) + 1))).drew (w1.heap.size + 1) 3 (.slice none (([] : List Int)).length 0) ([] : List Int)) := hG
            have hL : Hid (its.length ≤ 65536 ∧ s2.adv.adv.nd.length ≤ 65536 ∧ (([] : List Int)).length ≤ 65536 ∧ 1 ≤ its.length) := by
              have h1 := hla.out
              have h2 := hlg.out
              have h3 := hP.out.prs.ndl
              have h4 := hP.out.prs.le
              have h5 := hP.out.prs.len
              exact ⟨by omega, by omega, by omega, by omega⟩
            clear hP hG
            go_wp2_with (refine wpList_storeB (vs := [.slice ia its.length ic, .slice na s2.adv.adv.nd.length nc, .int .i64 (-1), .slice none (([] : List Int)).length 0, .int .i64 li]) rfl rfl (by rfl) (by rfl) hb9.out size_query rfl (by simp [Value.oneCell']) ?_; intro w99 hb99 hgr99; replace hgr99 := hide hgr99; replace hb99 := hide hb99)
            refine bodyPost_ret (results_cell2 rfl (by rfl) hb99.out Yabn.underlying53 size_query) rfl ?_
            have hl9 := hlow.out
            exact ⟨ex9.out.setNew hgr99.out, .inr ⟨_, ia, na, none, ic, nc, 0, hz.out, rfl, (hI.out.kept hgr99.out hl9).mono (by omega), (OwnV.kept hN.out hgr99.out hl9).mono (by omega), (hG9.out.kept hgr99.out hl9).mono (by omega), hL.out.1, hL.out.2.1, hL.out.2.2.1, hL.out.2.2.2⟩⟩
          · have h65' : (k6 == 5) = false := by simpa using h65
            have hq5 : Hid (Pq x (q5 ts its (-1) ([] : List Int) (-1) s2)) := by have := hq4.out; rw [q4_no (by rw [hk6.out]; exact h65)] at this; exact this
            clear hq4
            have k1 := hP.out.prs.c1
            have k2 := hP.out.prs.c2
            have hpe : Hid (((s2.pos : Nat) : Int) = (s2.pos : Int)) := rfl
            by_cases hend : ¬ s2.pos = ts.length
            · have hne : ((s2.pos : Int) != (ts.length : Int)) = true := by simp only [bne_iff_ne, ne_eq]; have h0 := hpe.out; omega
              have hz : Hid (Pq x none) := by have := hq5.out; unfold q5 at this; rw [if_neg hend] at this; exact this
              have hb9 : Hid (Blk wl1 w.heap.size 53 qz) := hP.out.blk
              have ex9 : Hid (Ext w wl1) := hP.out.ex
              clear hP
              go_wp2_with (refine wpList_storeB (vs := qz) rfl rfl (by rfl) (by rfl) hb9.out size_query rfl qz_one ?_; intro w99 hb99 hgr99; replace hgr99 := hide hgr99; replace hb99 := hide hb99)
              refine bodyPost_ret (results_cell2 rfl (by rfl) hb99.out Yabn.underlying53 size_query) rfl ?_
              exact ⟨ex9.out.setNew hgr99.out, .inl ⟨hz.out, rfl⟩⟩
            have hend : s2.pos = ts.length := Classical.byContradiction hend
            have hne : ((s2.pos : Int) != (ts.length : Int)) = false := by simp only [bne_eq_false_iff_eq]; have h0 := hpe.out; omega
            have hz : Hid (Pq x (some ⟨its, s2.nd, (-1), ([] : List Int), (-1)⟩)) := by have := hq5.out; unfold q5 at this; rw [if_pos hend] at this; exact this
            replace hend := hide hend
            obtain ⟨ia, ic, hvi, _⟩ := hI.out.form
            obtain ⟨na, nc, hvn, _⟩ := hP.out.prs.nodes.form
            subst hvi
            rw [hvn] at k2
            replace hvn := hide hvn
            have hb9 : Hid (Blk wl1 w.heap.size 53 qz) := hP.out.blk
            have ex9 : Hid (Ext w wl1) := hP.out.ex
            have hlow : Hid (w.heap.size < w1.heap.size + 1) := Nat.lt_succ_of_lt hP.out.low
            have hN : Hid (OwnN wl1 (w1.heap.size + 1) 98 (.slice na s2.nd.length nc) s2.nd) := by have := hP.out.prs.nodes; rw [hvn.out] at this; exact this
            have hG9 : Hid (OwnI wl1 (w1.heap.size + 1) 3 (.slice none (([] : List Int)).length 0) ([] : List Int)) := hG
            have hL : Hid (its.length ≤ 65536 ∧ s2.nd.length ≤ 65536 ∧ (([] : List Int)).length ≤ 65536 ∧ 1 ≤ its.length) := by
              have h1 := hla.out
              have h2 := hlg.out
              have h3 := hP.out.prs.ndl
              have h4 := hP.out.prs.le
              have h5 := hP.out.prs.len
              exact ⟨by omega, by omega, by omega, by omega⟩
            clear hP hG
            go_wp2_with (refine wpList_storeB (vs := [.slice ia its.length ic, .slice na s2.nd.length nc, .int .i64 (-1), .slice none (([] : List Int)).length 0, .int .i64 (-1)]) rfl rfl (by rfl) (by rfl) hb9.out size_query rfl (by simp [Value.oneCell']) ?_; intro w99 hb99 hgr99; replace hgr99 := hide hgr99; replace hb99 := hide hb99)
            refine bodyPost_ret (results_cell2 rfl (by rfl) hb99.out Yabn.underlying53 size_query) rfl ?_
            have hl9 := hlow.out
            exact ⟨ex9.out.setNew hgr99.out, .inr ⟨_, ia, na, none, ic, nc, 0, hz.out, rfl, (hI.out.kept hgr99.out hl9).mono (by omega), (OwnV.kept hN.out hgr99.out hl9).mono (by omega), (hG9.out.kept hgr99.out hl9).mono (by omega), hL.out.1, hL.out.2.1, hL.out.2.2.1, hL.out.2.2.2⟩⟩
end Go.Proofs.YbyabwGreat
