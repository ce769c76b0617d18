/- Walk: spec.RefParse -/
import Derived.Test.YbyabwGreatPrsS
import Derived.Test.YbyabwGreatLex4
import Derived.Deep.RegionLaw
import Derived.Deep.CutRange
namespace Go.Proofs.YbyabwGreat
open Go.RowKit
set_option maxRecDepth 100000
set_option linter.unusedVariables false
set_option linter.unusedSimpArgs false

set_option maxHeartbeats 32000000 in
theorem RefParse (x : ByteArray) (w : World) : Calls Yabn.prog 21 #[.string x] w (RetQ x w) := by
  have hb0 : Hid (Blk (w.alloc (.cells #[.slice none 0 0, .slice none 0 0, .int .i64 0, .slice none 0 0, .int .i64 0] 53)) w.heap.size 53 qz) := Blk.new w _ _
  have x0 : Hid (Ext w (w.alloc (.cells #[.slice none 0 0, .slice none 0 0, .int .i64 0, .slice none 0 0, .int .i64 0] 53))) := (Ext.refl w).alloc _
  have z0 : Hid (w.heap.size < (w.alloc (.cells #[.slice none 0 0, .slice none 0 0, .int .i64 0, .slice none 0 0, .int .i64 0] 53)).heap.size) := by show w.heap.size < _; simp
  obtain ⟨R, hR⟩ : ∃ R, Hid (tokens x = R) := ⟨_, rfl⟩
  go_enter Yabn.func21, Yabn.ntmps21
  go_wp2_with fail
  generalize (w.alloc (.cells #[.slice none 0 0, .slice none 0 0, .int .i64 0, .slice none 0 0, .int .i64 0] 53)) = X0 at *
  refine (RefTokenizeAll x R hR.out X0).mono ?_
  rintro e w1 ⟨x1, ⟨rfl, rfl⟩ | ⟨ts, ta, tc, rfl, rfl, hlen, own⟩⟩
  · have hz : Hid (Pq x none) := .inl ⟨hR.out, rfl⟩
    have hb1 := hide (hb0.out.ext x1)
    have ex1 : Hid (Ext w w1) := x0.out.trans x1
    clear x1 hb0 x0
    go_wp2_with (refine wpList_storeB (vs := qz) rfl rfl (by rfl) (by rfl) hb1.out size_query rfl qz_one ?_; intro w99 hb99 hgr99; replace hgr99 := hide hgr99; replace hb99 := hide hb99)
    refine bodyPost_ret (results_cell2 rfl (by rfl) hb99.out Yabn.underlying53 size_query) rfl ?_
    exact ⟨ex1.out.setNew hgr99.out, .inl ⟨hz.out, rfl⟩⟩
  · have hlow : Hid (w.heap.size < w1.heap.size) := Nat.lt_of_lt_of_le z0.out x1.size
    have hP : Hid (PI 119 [.bool false] w (w1.alloc (.cells #[.slice ta ts.length tc, .int .i64 0, .slice none 0 0, .int .i64 0, .bool false] 119)) w1.heap.size ta tc ts ⟨0, [], 0⟩ (.slice none 0 0)) := by
      refine ⟨⟨Blk.new w1 _ _, OwnN.nil _ _ _, own.pairs.ext ((Ext.refl w1).alloc _), fun p hp => ?_, Nat.zero_le _, hlen, Nat.zero_le _, Nat.zero_le _⟩, (hb0.out.ext x1).alloc _, (x0.out.trans x1).alloc _, hlow.out⟩
      obtain ⟨a', c', e', h'⟩ := own.form
      injection e' with e1 e2 e3
      rcases h' with ⟨h1, _⟩ | ⟨g, h1⟩
      · rw [e1, h1] at hp; cases hp
      · rw [e1, h1] at hp
        cases hp
        have := own
        rw [e1, h1] at this
        exact this.lt.2
    have hgo0 : Hid (∀ r, Q0 ts r → Pq x r) := fun r hr => .inr ⟨ts, hR.out, hr⟩
    have hsz : Hid ((w1.alloc (.cells #[.slice ta ts.length tc, .int .i64 0, .slice none 0 0, .int .i64 0, .bool false] 119)).heap.size = w1.heap.size + 1) := by show _ = _; simp
    have hE : Hid (Blk ((w1.alloc (.cells #[.slice ta ts.length tc, .int .i64 0, .slice none 0 0, .int .i64 0, .bool false] 119)).alloc (.cells #[.slice none 0 0, .slice none 0 0, .int .i64 (-1), .slice none 0 0, .int .i64 (-1)] 53)) (w1.heap.size + 1) 53 [.slice none 0 0, .slice none 0 0, .int .i64 (-1), .slice none 0 0, .int .i64 (-1)]) := by
      have := Blk.new (w1.alloc (.cells #[.slice ta ts.length tc, .int .i64 0, .slice none 0 0, .int .i64 0, .bool false] 119)) #[.slice none 0 0, .slice none 0 0, .int .i64 (-1), .slice none 0 0, .int .i64 (-1)] 53
      rw [hsz.out] at this
      exact this
    replace hP := hide (hP.out.ext ((Ext.refl _).alloc (.cells #[.slice none 0 0, .slice none 0 0, .int .i64 (-1), .slice none 0 0, .int .i64 (-1)] 53)))
    have hs : Hid (Side w1.heap.size (w1.heap.size + 1) (.slice none 0 0)) := ⟨Nat.lt_succ_self _, by simp [Value.ownBlock]⟩
    have hI : Hid (OwnP ((w1.alloc (.cells #[.slice ta ts.length tc, .int .i64 0, .slice none 0 0, .int .i64 0, .bool false] 119)).alloc (.cells #[.slice none 0 0, .slice none 0 0, .int .i64 (-1), .slice none 0 0, .int .i64 (-1)] 53)) (w1.heap.size + 2) 89 (.slice none 0 0) []) := OwnP.nil _ _ _
    have hG : Hid (OwnI ((w1.alloc (.cells #[.slice ta ts.length tc, .int .i64 0, .slice none 0 0, .int .i64 0, .bool false] 119)).alloc (.cells #[.slice none 0 0, .slice none 0 0, .int .i64 (-1), .slice none 0 0, .int .i64 (-1)] 53)) (w1.heap.size + 2) 3 (.slice none 0 0) []) := OwnI.nil _ _ _
    clear own x1 hb0 x0 hlen z0
    obtain ⟨k0, hk0⟩ : ∃ k, Hid (pk ts (⟨0, [], 0⟩ : PS).pos = k) := ⟨_, rfl⟩
    go_wp2_with fail
    generalize ((w1.alloc (.cells #[.slice ta ts.length tc, .int .i64 0, .slice none 0 0, .int .i64 0, .bool false] 119)).alloc (.cells #[.slice none 0 0, .slice none 0 0, .int .i64 (-1), .slice none 0 0, .int .i64 (-1)] 53)) = W2 at *
    clear hsz
    by_cases h1 : ¬ k0 = 1
    · have hz := hide (hgo0.out _ (Q0.no (by rw [show pk ts 0 = k0 from hk0.out]; exact h1)))
      refine (R.expect_no w1.heap.size ta tc ts ⟨0, [], 0⟩ (.slice none 0 0) 1 k0 W2 hP.out.prs hk0 h1).mono ?_
      rintro e W3 ⟨rfl, b3, f3⟩
      have hB := hide (hP.out.badq f3 b3)
      clear hP hE hI hG b3 f3
      go_wp2
      go_loopw [] (fun wr => Hid (BadQ w wr w1.heap.size)) (fun _ => 0)
      case atStart => exact hB
      clear hB
      have hB := hrel
      clear hrel
      have hb9 : Hid (Blk wr w.heap.size 53 qz) := hB.out.blk
      have ex9 : Hid (Ext w wr) := hB.out.ex
      have k4 := hB.out.bad.c4
      clear hB
      go_wp2_with (refine wpList_storeB (vs := qz) rfl rfl (by rfl) (by rfl) hb9.out size_query rfl qz_one ?_; intro w99 hb99 hgr99; replace hgr99 := hide hgr99; replace hb99 := hide hb99)
      refine bodyPost_ret (results_cell2 rfl (by rfl) hb99.out Yabn.underlying53 size_query) rfl ?_
      exact ⟨ex9.out.setNew hgr99.out, .inl ⟨hz.out, rfl⟩⟩
    have h1 : k0 = 1 := by omega
    subst h1
    have hlt := pk_lt hk0.out (by decide)
    have hq1 : Hid (∀ r, Q1 ts [] ⟨1, [], 0⟩ r → Pq x r) := fun r hr => hgo0.out r (Q0.yes hk0.out hr)
    clear hgo0 hlow
    refine (R.expect_ok w1.heap.size ta tc ts ⟨0, [], 0⟩ (.slice none 0 0) 1 W2 hP.out.prs hk0 hlt).mono ?_
    rintro e W3 ⟨rfl, h3, f3⟩
    replace hE := hide (hs.out.blk f3 hE.out)
    replace hI := hide (hI.out.frN hP.out.prs f3 (Nat.le_succ _) (by decide))
    replace hG := hide (hG.out.frN hP.out.prs f3 (Nat.le_succ _) (by decide))
    replace hP : Hid (PI 119 [.bool false] w W3 w1.heap.size ta tc ts ⟨1, [], 0⟩ (.slice none 0 0)) := hP.out.fr f3 h3
    clear h3 f3 hlt hk0
    go_wp2
    go_loopw [] (fun wr => ∃ (its : List (Int × Int)) (s2 : PS) (v2 vi : Value), Hid (its.length ≤ s2.pos) ∧ Hid (∀ r, Q1 ts its s2 r → Pq x r) ∧ Hid (PI 119 [.bool false] w wr w1.heap.size ta tc ts s2 v2) ∧ Hid (Side w1.heap.size (w1.heap.size + 1) v2) ∧ Hid (Blk wr (w1.heap.size + 1) 53 [vi, .slice none 0 0, .int .i64 (-1), .slice none 0 0, .int .i64 (-1)]) ∧ Hid (OwnP wr (w1.heap.size + 2) 89 vi its) ∧ Hid (OwnI wr (w1.heap.size + 2) 3 (.slice none 0 0) [])) (fun wr => ts.length - posAt wr w1.heap.size)
    case atStart => exact ⟨[], ⟨1, [], 0⟩, _, _, Nat.zero_le _, hq1, hP, hs, hE, hI, hG⟩
    clear hq1 hP hs hE hI hG
    obtain ⟨it0, s2, v2, vi, hla, hq1, hP, hs, hE, hI, hG⟩ := hrel
    have hpW := hide hP.out.prs.posAt
    have k4 := hP.out.prs.c4
    go_wp2_with fail
    clear k4
    refine (R.item ts w1.heap.size ta tc s2 v2 wr hP.out.prs).mono ?_
    rintro e w5 (⟨hit, ⟨a, y, rfl⟩, hb, hf⟩ | ⟨a, y, s5, v5, hit, rfl, h5, hf, hgp⟩)
    · have hz := hide (hq1.out _ (Q1.no hit))
      have hB := hide ((hP.out.badq hf hb).ext ((Ext.refl w5).alloc (.cells #[.int .i64 a, .int .i64 y] 89)))
      clear hP hE hI hG hb hf hit hs
      have hb9 : Hid (Blk (w5.alloc (.cells #[.int .i64 a, .int .i64 y] 89)) w.heap.size 53 qz) := hB.out.blk
      have ex9 : Hid (Ext w (w5.alloc (.cells #[.int .i64 a, .int .i64 y] 89))) := hB.out.ex
      have k4 := hB.out.bad.c4
      clear hB
      go_wp2_with (refine wpList_storeB (vs := qz) rfl rfl (by rfl) (by rfl) hb9.out size_query rfl qz_one ?_; intro w99 hb99 hgr99; replace hgr99 := hide hgr99; replace hb99 := hide hb99)
      refine bodyPost_ret (results_cell2 rfl (by rfl) hb99.out Yabn.underlying53 size_query) rfl ?_
      exact ⟨ex9.out.setNew hgr99.out, .inl ⟨hz.out, rfl⟩⟩
    have hs5 := hide (hs.out.step hf hE.out.lt)
    replace hE := hide (hs.out.blk hf hE.out)
    replace hI := hide (hI.out.frN hP.out.prs hf (Nat.le_succ _) (by decide))
    replace hG := hide (hG.out.frN hP.out.prs hf (Nat.le_succ _) (by decide))
    replace hP := hide (hP.out.fr hf h5)
    clear hs
    have hs := hs5
    have hqA : Hid (pk ts s5.pos = 17 → ∀ r, Q1 ts (it0 ++ [(a, y)]) s5.adv r → Pq x r) := fun h0 r hr => hq1.out r (.more hit h0 hr)
    have hqB : Hid (pk ts s5.pos ≠ 17 → ∀ r, Q2 ts (it0 ++ [(a, y)]) s5 r → Pq x r) := fun h0 r hr => hq1.out r (.last hit h0 hr)
    have hln : Hid (it0.length < 2 ^ 39) := by have := hla.out; have := hP.out.prs.le; have := hP.out.prs.len; show it0.length < 2 ^ 39; omega
    have hla5 : Hid ((it0 ++ [(a, y)]).length ≤ s5.pos ∧ 1 ≤ (it0 ++ [(a, y)]).length) := by have := hla.out; refine ⟨?_, by simp⟩; simp only [List.length_append, List.length_singleton]; omega
    have hap : Hid (Apart vi v5) := apart_types hI.out hP.out.prs.nodes.2 (by decide)
    have hapG : Hid (Apart (.slice none 0 0) vi) := apart_nil _ _ _
    have x6 : Hid (Ext w5 (w5.alloc (.cells #[.int .i64 a, .int .i64 y] 89))) := (Ext.refl w5).alloc _
    have hbx : Box (w5.alloc (.cells #[.int .i64 a, .int .i64 y] 89)) w5.heap.size [.int .i64 a, .int .i64 y] := Box.new w5 _ _
    have m0 := hbx 0 _ rfl
    have m1 := hbx 1 _ rfl
    replace hP := hide (hP.out.ext x6.out)
    replace hE := hide (hE.out.ext x6.out)
    replace hI := hide (hI.out.ext x6.out)
    replace hG := hide (hG.out.ext x6.out)
    have k4 := hP.out.prs.c4
    have kE := hE.out.box 0 _ rfl
    have hEl : Hid ((w1.heap.size + 1) < (w5.alloc (.cells #[.int .i64 a, .int .i64 y] 89)).heap.size) := hE.out.lt
    clear hq1 hf hit h5 hla hbx x6 hs5
    go_wp2_with (at_builtin; refine app_item rfl rfl (w1.heap.size + 2) (by have := hEl.out; simp at this ⊢; omega) vi it0 a y rfl (OwnP.alloc hI.out _) (w5.alloc (.cells #[.int .i64 a, .int .i64 y] 89)).heap.size 1 (by simp; rfl) (heap_alloc_new (w5.alloc (.cells #[.int .i64 a, .int .i64 y] 89)) _) hln.out ?_; intro g cap w7 O7 hgr7 hor7 hlt7; clear k4 kE m0 m1; replace hP := hide (hP.out.app ((Ext.refl _).alloc (.cells #[.int .i64 a, .int .i64 y] 89)) hgr7 (fun k hk => by have := hI.out.block k hk; omega) hap.out); replace hE := hide ((hE.out.alloc (.cells #[.int .i64 a, .int .i64 y] 89)).grown hgr7 (fun hh => by have := hI.out.block _ hh; omega)); replace hG := hide (OwnI.but (hG.out.alloc (.cells #[.int .i64 a, .int .i64 y] 89)) hgr7 hapG.out); clear hI; have hI := hide O7; have kE := hE.out.box 0 _ rfl; have fE := hE.out.frozen 0; clear O7 hgr7 hor7 hlt7)
    have hgE : Hid (w7.grownBy (w7.setCell ⟨(w1.heap.size + 1), 0, none⟩ (.slice (some ⟨g, 0, none⟩) (it0.length + 1) cap)) (some (w1.heap.size + 1))) := grown_setCell _ ⟨(w1.heap.size + 1), 0, none⟩ _
    replace hP := hide (hP.out.set hs.out hgE.out)
    replace hE : Hid (Blk (w7.setCell ⟨(w1.heap.size + 1), 0, none⟩ (.slice (some ⟨g, 0, none⟩) (it0.length + 1) cap)) (w1.heap.size + 1) 53 [.slice (some ⟨g, 0, none⟩) (it0.length + 1) cap, .slice none 0 0, .int .i64 (-1), .slice none 0 0, .int .i64 (-1)]) := hE.out.stored 0 (.slice (some ⟨g, 0, none⟩) (it0.length + 1) cap)
    replace hI := hide (hI.out.kept hgE.out (Nat.lt_succ_self _))
    replace hG := hide (hG.out.kept hgE.out (Nat.lt_succ_self _))
    generalize (w7.setCell ⟨(w1.heap.size + 1), 0, none⟩ (.slice (some ⟨g, 0, none⟩) (it0.length + 1) cap)) = w8 at *
    clear hgE kE fE hap hapG hln hEl
    obtain ⟨k, hk⟩ : ∃ k, Hid (pk ts s5.pos = k) := ⟨_, rfl⟩
    refine (R.peek w1.heap.size ta tc ts s5 v5 k hk w8 hP.out.prs).mono ?_
    rintro e w9 ⟨rfl, x3⟩
    replace hP := hide (hP.out.ext x3)
    replace hE := hide (hE.out.ext x3)
    replace hI := hide (hI.out.ext x3)
    replace hG := hide (hG.out.ext x3)
    clear x3
    by_cases hk17 : k = 17
    · subst hk17
      have hlt := pk_lt hk.out (by decide)
      have hq1 := hide (hqA.out hk.out)
      have hp2 : Hid (s5.adv.pos = s5.pos + 1) := rfl
      have k1 := hP.out.prs.c1
      have fz := hP.out.prs.fz 1
      have hl := hP.out.prs.len
      have hA : Hid (PI 119 [.bool false] w (w9.setCell ⟨w1.heap.size, 1, none⟩ (.int .i64 ((s5.pos : Int) + 1))) w1.heap.size ta tc ts s5.adv v5) := hP.out.adv hlt
      have hAf : Hid (Fr w1.heap.size v5 v5 w9 (w9.setCell ⟨w1.heap.size, 1, none⟩ (.int .i64 ((s5.pos : Int) + 1)))) := Fr.set _ _ _
      replace hE := hide (hs.out.blk hAf.out hE.out)
      replace hI := hide (hI.out.frN hP.out.prs hAf.out (Nat.le_succ _) (by decide))
      replace hG := hide (hG.out.frN hP.out.prs hAf.out (Nat.le_succ _) (by decide))
      have hp6 := hide hA.out.prs.posAt
      have hle6 := hide hA.out.prs.le
      have hkk : (17 != 17) = false := by decide
      clear hP hAf
      go_wp2
      go_roundw
      case rel => exact ⟨it0 ++ [(a, y)], s5.adv, v5, _, Nat.le_succ_of_le hla5.out.1, hq1.out, hA.out, hs.out, hE.out, hI.out, hG.out⟩
      case measure =>
        have h6 := hle6.out
        have h7 := hp2.out
        rw [hp6.out, hpW.out]
        omega
    · have hk17' : (k != 17) = true := by simpa using hk17
      have hq2 := hide (hqB.out (by rw [hk.out]; exact hk17))
      clear hqA hqB hpW
      have hI2 : Hid (OwnP w9 (w1.heap.size + 2) 89 (.slice (some ⟨g, 0, none⟩) (it0 ++ [(a, y)]).length cap) (it0 ++ [(a, y)])) := by rw [List.length_append]; exact hI
      have hE2 : Hid (Blk w9 (w1.heap.size + 1) 53 [.slice (some ⟨g, 0, none⟩) (it0 ++ [(a, y)]).length cap, .slice none 0 0, .int .i64 (-1), .slice none 0 0, .int .i64 (-1)]) := by rw [List.length_append]; exact hE
      clear hI hE
      have hI := hI2
      have hE := hE2
      clear hI2 hE2
      have hla := hla5
      clear hla5
      obtain ⟨its, hits⟩ : ∃ z, Hid (it0 ++ [(a, y)] = z) := ⟨_, rfl⟩
      rw [hits.out] at hq2 hI hE hla
      obtain ⟨ia, hia⟩ : ∃ z : Option Addr, Hid (some ⟨g, 0, none⟩ = z) := ⟨_, rfl⟩
      rw [hia.out] at hI hE
      obtain ⟨ic, hic⟩ : ∃ z : Nat, Hid (cap = z) := ⟨_, rfl⟩
      rw [hic.out] at hI hE
      clear hits hia hic
      have k4 := hP.out.prs.c4
      obtain ⟨k2, hk2⟩ : ∃ k, Hid (pk ts s5.pos = k) := ⟨_, rfl⟩
      go_wp2_with fail
      clear k4
      refine (R.peek w1.heap.size ta tc ts s5 v5 k2 hk2 w9 hP.out.prs).mono ?_
      rintro e w12 ⟨rfl, x3⟩
      replace hP := hide (hP.out.ext x3)
      replace hE := hide (hE.out.ext x3)
      replace hI := hide (hI.out.ext x3)
      replace hG := hide (hG.out.ext x3)
      clear x3
      by_cases h22 : k2 = 2
      · subst h22
        have hlt := pk_lt hk2.out (by decide)
        have k1 := hP.out.prs.c1
        have fz := hP.out.prs.fz 1
        have hl := hP.out.prs.len
        have hA : Hid (PI 119 [.bool false] w (w12.setCell ⟨w1.heap.size, 1, none⟩ (.int .i64 ((s5.pos : Int) + 1))) w1.heap.size ta tc ts s5.adv v5) := hP.out.adv hlt
        have hAf : Hid (Fr w1.heap.size v5 v5 w12 (w12.setCell ⟨w1.heap.size, 1, none⟩ (.int .i64 ((s5.pos : Int) + 1)))) := Fr.set _ _ _
        replace hE := hide (hs.out.blk hAf.out hE.out)
        replace hI := hide (hI.out.frN hP.out.prs hAf.out (Nat.le_succ _) (by decide))
        replace hG := hide (hG.out.frN hP.out.prs hAf.out (Nat.le_succ _) (by decide))
        go_wp2_with fail
        generalize (w12.setCell ⟨w1.heap.size, 1, none⟩ (.int .i64 ((s5.pos : Int) + 1))) = w13 at *
        replace hP := hA
        clear hA hAf k1 fz
        refine (R.exprAll ts w1.heap.size ta tc s5.adv v5 w13 hP.out.prs).mono ?_
        rintro e w14 (⟨hp, ⟨wh, rfl⟩, hb, hf⟩ | ⟨wh, s3, v3, hp, rfl, h3, hf⟩)
        · have hz := hide (hq2.out _ (Q2.bad hk2.out hp))
          have k4' := hb.c4
          have hE14 := hide (hs.out.blk hf hE.out)
          have kE := hE14.out.box 2 _ rfl
          have fE := hE14.out.frozen 2
          have hB := hide ((hP.out.badq hf hb).set (Nat.lt_succ_self _) (grown_setCell w14 ⟨(w1.heap.size + 1), 2, none⟩ (.int .i64 wh)))
          clear hP hE hI hG hb hf hp hs hE14
          have hb9 : Hid (Blk (w14.setCell ⟨(w1.heap.size + 1), 2, none⟩ (.int .i64 wh)) w.heap.size 53 qz) := hB.out.blk
          have ex9 : Hid (Ext w (w14.setCell ⟨(w1.heap.size + 1), 2, none⟩ (.int .i64 wh))) := hB.out.ex
          have k4 := hB.out.bad.c4
          clear hB
          go_wp2_with (refine wpList_storeB (vs := qz) rfl rfl (by rfl) (by rfl) hb9.out size_query rfl qz_one ?_; intro w99 hb99 hgr99; replace hgr99 := hide hgr99; replace hb99 := hide hb99)
          refine bodyPost_ret (results_cell2 rfl (by rfl) hb99.out Yabn.underlying53 size_query) rfl ?_
          exact ⟨ex9.out.setNew hgr99.out, .inl ⟨hz.out, rfl⟩⟩
        · have hs3 := hide (hs.out.step hf hE.out.lt)
          have hgr3 := hp.grow.1
          replace hE := hide (hs.out.blk hf hE.out)
          replace hI := hide (hI.out.frN hP.out.prs hf (Nat.le_succ _) (by decide))
          replace hG := hide (hG.out.frN hP.out.prs hf (Nat.le_succ _) (by decide))
          replace hP := hide (hP.out.fr hf h3)
          clear hs
          have hs := hs3
          have hq3 : Hid (∀ r, Q3 ts its wh s3 r → Pq x r) := fun r hr => hq2.out r (.yes hk2.out hp hr)
          replace hla : Hid (its.length ≤ s3.pos ∧ 1 ≤ its.length) := by
            have h2 := hla.out
            simp only [PS.adv] at hgr3
            exact ⟨by omega, h2.2⟩
          have kE := hE.out.box 2 _ rfl
          have fE := hE.out.frozen 2
          have k4 := hP.out.prs.c4
          clear hf h3 hp hq2 hlt hs3 hgr3
          have hgE : Hid (w14.grownBy (w14.setCell ⟨(w1.heap.size + 1), 2, none⟩ (.int .i64 wh)) (some (w1.heap.size + 1))) := grown_setCell _ ⟨(w1.heap.size + 1), 2, none⟩ _
          replace hP := hide (hP.out.set hs.out hgE.out)
          replace hE : Hid (Blk (w14.setCell ⟨(w1.heap.size + 1), 2, none⟩ (.int .i64 wh)) (w1.heap.size + 1) 53 [.slice ia its.length ic, .slice none 0 0, .int .i64 wh, .slice none 0 0, .int .i64 (-1)]) := hE.out.stored 2 (.int .i64 wh)
          replace hI := hide (hI.out.kept hgE.out (Nat.lt_succ_self _))
          replace hG := hide (hG.out.kept hgE.out (Nat.lt_succ_self _))
          obtain ⟨k3, hk3⟩ : ∃ k, Hid (pk ts s3.pos = k) := ⟨_, rfl⟩
          go_wp2_with fail
          generalize (w14.setCell ⟨(w1.heap.size + 1), 2, none⟩ (.int .i64 wh)) = w15 at *
          clear k4 kE fE hgE
          refine (R.peek w1.heap.size ta tc ts s3 v3 k3 hk3 w15 hP.out.prs).mono ?_
          rintro e wg1 ⟨rfl, x3⟩
          replace hP := hide (hP.out.ext x3)
          replace hE := hide (hE.out.ext x3)
          replace hI := hide (hI.out.ext x3)
          replace hG := hide (hG.out.ext x3)
          clear x3
          by_cases h33 : k3 = 3
          · subst h33
            have hlt := pk_lt hk3.out (by decide)
            obtain ⟨k4x, hk4⟩ : ∃ k, Hid (pk ts s3.adv.pos = k) := ⟨_, rfl⟩
            have k1 := hP.out.prs.c1
            have fz := hP.out.prs.fz 1
            have hl := hP.out.prs.len
            have hA : Hid (PI 119 [.bool false] w (wg1.setCell ⟨w1.heap.size, 1, none⟩ (.int .i64 ((s3.pos : Int) + 1))) w1.heap.size ta tc ts s3.adv v3) := hP.out.adv hlt
            have hAf : Hid (Fr w1.heap.size v3 v3 wg1 (wg1.setCell ⟨w1.heap.size, 1, none⟩ (.int .i64 ((s3.pos : Int) + 1)))) := Fr.set _ _ _
            replace hE := hide (hs.out.blk hAf.out hE.out)
            replace hI := hide (hI.out.frN hP.out.prs hAf.out (Nat.le_succ _) (by decide))
            replace hG := hide (hG.out.frN hP.out.prs hAf.out (Nat.le_succ _) (by decide))
            go_wp2_with fail
            generalize (wg1.setCell ⟨w1.heap.size, 1, none⟩ (.int .i64 ((s3.pos : Int) + 1))) = wg2 at *
            replace hP := hA
            clear hA hAf k1 fz
            clear hlt
            by_cases h44 : ¬ k4x = 4
            · have hz : Hid (Pq x none) := hq3.out _ (.bad hk3.out (by rw [hk4.out]; exact h44))
              refine (R.expect_no w1.heap.size ta tc ts s3.adv v3 4 k4x wg2 hP.out.prs hk4 h44).mono ?_
              rintro e wg3 ⟨rfl, b3, f3⟩
              have hB := hide (hP.out.badq f3 b3)
              clear hP hE hI hG b3 f3 hs
              go_wp2
              go_loopw [] (fun wr => Hid (BadQ w wr w1.heap.size)) (fun _ => 0)
              case atStart => exact hB
              clear hB
              have hB := hrel
              clear hrel
              have hb9 : Hid (Blk wr w.heap.size 53 qz) := hB.out.blk
              have ex9 : Hid (Ext w wr) := hB.out.ex
              have k4 := hB.out.bad.c4
              clear hB
              go_wp2_with (refine wpList_storeB (vs := qz) rfl rfl (by rfl) (by rfl) hb9.out size_query rfl qz_one ?_; intro w99 hb99 hgr99; replace hgr99 := hide hgr99; replace hb99 := hide hb99)
              refine bodyPost_ret (results_cell2 rfl (by rfl) hb99.out Yabn.underlying53 size_query) rfl ?_
              exact ⟨ex9.out.setNew hgr99.out, .inl ⟨hz.out, rfl⟩⟩
            have h44 : k4x = 4 := by omega
            subst h44
            have hlt := pk_lt hk4.out (by decide)
            have hqg : Hid (∀ r, G3 ts its wh [] s3.adv.adv r → Pq x r) := fun r hr => hq3.out r (.yes hk3.out hk4.out hr)
            clear hq3
            refine (R.expect_ok w1.heap.size ta tc ts s3.adv v3 4 wg2 hP.out.prs hk4 hlt).mono ?_
            rintro e wg3 ⟨rfl, h3, f3⟩
            replace hE := hide (hs.out.blk f3 hE.out)
            replace hI := hide (hI.out.frN hP.out.prs f3 (Nat.le_succ _) (by decide))
            replace hG := hide (hG.out.frN hP.out.prs f3 (Nat.le_succ _) (by decide))
            replace hP := hide (hP.out.fr f3 h3)
            replace hla : Hid (its.length ≤ s3.adv.adv.pos ∧ 1 ≤ its.length) := ⟨Nat.le_succ_of_le (Nat.le_succ_of_le hla.out.1), hla.out.2⟩
            clear h3 f3 hlt
            go_wp2
            go_loopw [] (fun wr => ∃ (gr : List Int) (s6 : PS) (ga : Option Addr) (gc : Nat), Hid (gr.length ≤ s6.pos ∧ its.length ≤ s6.pos ∧ 1 ≤ its.length) ∧ Hid (∀ r, G3 ts its wh gr s6 r → Pq x r) ∧ Hid (PI 119 [.bool false] w wr w1.heap.size ta tc ts s6 v3) ∧ Hid (Blk wr (w1.heap.size + 1) 53 [.slice ia its.length ic, .slice none 0 0, .int .i64 wh, .slice ga gr.length gc, .int .i64 (-1)]) ∧ Hid (OwnP wr (w1.heap.size + 2) 89 (.slice ia its.length ic) its) ∧ Hid (OwnI wr (w1.heap.size + 2) 3 (.slice ga gr.length gc) gr)) (fun wr => ts.length - posAt wr w1.heap.size)
            case atStart => exact ⟨[], s3.adv.adv, none, 0, ⟨Nat.zero_le _, hla.out⟩, hqg, hP, hE, hI, hG⟩
            clear hqg hP hE hI hG hla
            obtain ⟨gr, s6, ga, gc, hlg7, hqg, hP, hE, hI, hG⟩ := hrel
            have hpW := hide hP.out.prs.posAt
            have k4 := hP.out.prs.c4
            obtain ⟨k5, hk5⟩ : ∃ k, Hid (pk ts s6.pos = k) := ⟨_, rfl⟩
            go_wp2_with fail
            clear k4
            refine (R.peek w1.heap.size ta tc ts s6 v3 k5 hk5 wr hP.out.prs).mono ?_
            rintro e wh1 ⟨rfl, x3⟩
            replace hP := hide (hP.out.ext x3)
            replace hE := hide (hE.out.ext x3)
            replace hI := hide (hI.out.ext x3)
            replace hG := hide (hG.out.ext x3)
            clear x3
            by_cases h513 : ¬ k5 = 13
            · have h5' : (k5 != 13) = true := by simpa using h513
              have hz : Hid (Pq x none) := hqg.out _ (.bad (by rw [hk5.out]; exact h513))
              have k4' := hP.out.prs.c4
              have fz4 := hP.out.prs.fz 4
              have hB := hide (hP.out.badq (Fr.set wh1 4 (.bool true)) hP.out.prs.bad)
              clear hP hE hI hG hs
              have hb9 : Hid (Blk (wh1.setCell ⟨w1.heap.size, 4, none⟩ (.bool true)) w.heap.size 53 qz) := hB.out.blk
              have ex9 : Hid (Ext w (wh1.setCell ⟨w1.heap.size, 4, none⟩ (.bool true))) := hB.out.ex
              have k4 := hB.out.bad.c4
              clear hB
              go_wp2_with (refine wpList_storeB (vs := qz) rfl rfl (by rfl) (by rfl) hb9.out size_query rfl qz_one ?_; intro w99 hb99 hgr99; replace hgr99 := hide hgr99; replace hb99 := hide hb99)
              refine bodyPost_ret (results_cell2 rfl (by rfl) hb99.out Yabn.underlying53 size_query) rfl ?_
              exact ⟨ex9.out.setNew hgr99.out, .inl ⟨hz.out, rfl⟩⟩
            have h513 : k5 = 13 := by omega
            subst h513
            have hlt := pk_lt hk5.out (by decide)
            have hqA : Hid (pk ts s6.adv.pos = 17 → ∀ r, G3 ts its wh (gr ++ [nu ts s6.pos]) s6.adv.adv r → Pq x r) := fun h0 r hr => hqg.out r (.more hk5.out h0 hr)
            have hqB : Hid (pk ts s6.adv.pos ≠ 17 → Pq x (q4 ts its wh (gr ++ [nu ts s6.pos]) s6.adv)) := fun h0 => hqg.out _ (.last hk5.out h0)
            have hlg8 : Hid ((gr ++ [nu ts s6.pos]).length ≤ s6.adv.pos ∧ its.length ≤ s6.adv.pos ∧ 1 ≤ its.length) := by
              have h1 := hlg7.out
              refine ⟨?_, ?_, h1.2.2⟩
              · simp only [List.length_append, List.length_singleton, PS.adv]; omega
              · simp only [PS.adv]; omega
            obtain ⟨b, off, hta, g1⟩ := hP.out.prs.tok hlt
            generalize nu ts s6.pos = yc at *
            replace hta := hide hta
            go_upto_region 22 with fail
            go_cut [] from 89 to 132 (fun wc => ∃ (gg : Nat) (capg : Nat), Hid (PI 119 [.bool false] w wc w1.heap.size ta tc ts s6 v3) ∧ Hid (Blk wc (w1.heap.size + 1) 53 [.slice ia its.length ic, .slice none 0 0, .int .i64 wh, .slice (some ⟨gg, 0, none⟩) (gr.length + 1) capg, .int .i64 (-1)]) ∧ Hid (OwnP wc (w1.heap.size + 2) 89 (.slice ia its.length ic) its) ∧ Hid (OwnI wc (w1.heap.size + 2) 3 (.slice (some ⟨gg, 0, none⟩) (gr.length + 1) capg) (gr ++ [yc])))
            case first =>
              have hlt' : (s6.pos : Int) < ts.length := by omega
              have k0 := hP.out.prs.c0
              rw [hta.out] at k0
              have k1 := hP.out.prs.c1
              have kE := hE.out.box 3 _ rfl
              have kEa : (wh1.alloc (.cells #[.int .i64 yc] 3)).drew.cell? ⟨(w1.heap.size + 1), 3, none⟩ = some (.slice ga gr.length gc) := (((Ext.refl wh1).alloc _).drew).cell kE
              have hln : Hid (gr.length < 2 ^ 39) := by have h1 := hlg7.out; have h2 := hP.out.prs.len; show gr.length < 2 ^ 39; omega
              have hap : Hid (Apart (.slice ga gr.length gc) v3) := apart_types hG.out hP.out.prs.nodes.2 (by decide)
              have hapI : Hid (Apart (.slice ia its.length ic) (.slice ga gr.length gc)) := apart_types hI.out hG.out (by decide)
              have hEl : Hid ((w1.heap.size + 1) < wh1.heap.size) := hE.out.lt
              clear hqg hqA hqB hlg8 hlg7 hpW
              go_region_law (refine step_int rfl rfl (w1.heap.size + 2) (by have := hEl.out; simp; omega) (.slice ga gr.length gc) gr yc (by simp [Act.eval, Act.put]) (OwnI.alloc hG.out _) wh1.heap.size 1 (by simp [Act.eval, Act.put]) (heap_alloc_new wh1 _) hln.out ?_; intro gg capg w7 O7 hgr7 hor7 hlt7; have hP7 := hide (hP.out.app (((Ext.refl wh1).alloc (.cells #[.int .i64 yc] 3)).drew) hgr7 (fun k hk => by have := hG.out.block k hk; omega) hap.out); have hE7 := hide (((hE.out.alloc (.cells #[.int .i64 yc] 3)).drew).grown hgr7 (fun hh => by have := hG.out.block _ hh; omega)); have hI7 := hide (OwnP.but ((hI.out.alloc (.cells #[.int .i64 yc] 3)).drew) hgr7 hapI.out); have hG7 := hide O7; have kE7 := hE7.out.box 3 _ rfl; have fE7 := hE7.out.frozen 3; clear O7 hgr7 hor7 hlt7)
              all_goals
                have hgE : Hid (w7.grownBy (w7.setCell ⟨(w1.heap.size + 1), 3, none⟩ (.slice (some ⟨gg, 0, none⟩) (gr.length + 1) capg)) (some (w1.heap.size + 1))) := grown_setCell _ ⟨(w1.heap.size + 1), 3, none⟩ _
                have hP8 := hide (hP7.out.set hs.out hgE.out)
                have hE8 := hide (hE7.out.stored 3 (.slice (some ⟨gg, 0, none⟩) (gr.length + 1) capg))
                have hI8 := hide (hI7.out.kept hgE.out (Nat.lt_succ_self _))
                have hG8 := hide (hG7.out.kept hgE.out (Nat.lt_succ_self _))
                go_wp2_with fail
                go_meet
                case rel => exact ⟨gg, capg, hP8.out, hE8.out, hI8.out, hG8.out⟩
            case rest =>
              clear hP hE hI hG g1
              obtain ⟨gg, capg, hP, hE, hI0, hG0⟩ := hcut
              have hG : Hid (OwnI wc (w1.heap.size + 2) 3 (.slice (some ⟨gg, 0, none⟩) (gr ++ [yc]).length capg) (gr ++ [yc])) := by rw [List.length_append]; exact hG0
              have hE2 : Hid (Blk wc (w1.heap.size + 1) 53 [.slice ia its.length ic, .slice none 0 0, .int .i64 wh, .slice (some ⟨gg, 0, none⟩) (gr ++ [yc]).length capg, .int .i64 (-1)]) := by rw [List.length_append]; exact hE
              clear hE hG0
              have hE := hE2
              have hI := hI0
              clear hE2 hI0 hqg hlg7
              obtain ⟨g2, hg2⟩ : ∃ z, Hid (gr ++ [yc] = z) := ⟨_, rfl⟩
              rw [hg2.out] at hG hE hqA hqB hlg8
              clear hg2
              obtain ⟨k8, hk8⟩ : ∃ k, Hid (pk ts s6.adv.pos = k) := ⟨_, rfl⟩
              have k1 := hP.out.prs.c1
              have fz := hP.out.prs.fz 1
              have hl := hP.out.prs.len
              have hA : Hid (PI 119 [.bool false] w (wc.setCell ⟨w1.heap.size, 1, none⟩ (.int .i64 ((s6.pos : Int) + 1))) w1.heap.size ta tc ts s6.adv v3) := hP.out.adv hlt
              have hAf : Hid (Fr w1.heap.size v3 v3 wc (wc.setCell ⟨w1.heap.size, 1, none⟩ (.int .i64 ((s6.pos : Int) + 1)))) := Fr.set _ _ _
              replace hE := hide (hs.out.blk hAf.out hE.out)
              replace hI := hide (hI.out.frN hP.out.prs hAf.out (Nat.le_succ _) (by decide))
              replace hG := hide (hG.out.frN hP.out.prs hAf.out (Nat.le_succ _) (by decide))
              go_wp2_with fail
              generalize (wc.setCell ⟨w1.heap.size, 1, none⟩ (.int .i64 ((s6.pos : Int) + 1))) = wh3 at *
              replace hP := hA
              clear hA hAf k1 fz
              refine (R.peek w1.heap.size ta tc ts s6.adv v3 k8 hk8 wh3 hP.out.prs).mono ?_
              rintro e wh4 ⟨rfl, x3⟩
              replace hP := hide (hP.out.ext x3)
              replace hE := hide (hE.out.ext x3)
              replace hI := hide (hI.out.ext x3)
              replace hG := hide (hG.out.ext x3)
              clear x3
              clear hlt
              by_cases h817 : k8 = 17
              · subst h817
                have hlt := pk_lt hk8.out (by decide)
                have hq9 := hide (hqA.out hk8.out)
                have hp2 : Hid (s6.adv.adv.pos = s6.pos + 2) := rfl
                have k1 := hP.out.prs.c1
                have fz := hP.out.prs.fz 1
                have hl := hP.out.prs.len
                have hA : Hid (PI 119 [.bool false] w (wh4.setCell ⟨w1.heap.size, 1, none⟩ (.int .i64 ((s6.adv.pos : Int) + 1))) w1.heap.size ta tc ts s6.adv.adv v3) := hP.out.adv hlt
                have hAf : Hid (Fr w1.heap.size v3 v3 wh4 (wh4.setCell ⟨w1.heap.size, 1, none⟩ (.int .i64 ((s6.adv.pos : Int) + 1)))) := Fr.set _ _ _
                replace hE := hide (hs.out.blk hAf.out hE.out)
                replace hI := hide (hI.out.frN hP.out.prs hAf.out (Nat.le_succ _) (by decide))
                replace hG := hide (hG.out.frN hP.out.prs hAf.out (Nat.le_succ _) (by decide))
                have hp6 := hide hA.out.prs.posAt
                have hle6 := hide hA.out.prs.le
                have hlg9 : Hid (g2.length ≤ s6.adv.adv.pos ∧ its.length ≤ s6.adv.adv.pos ∧ 1 ≤ its.length) := ⟨Nat.le_succ_of_le hlg8.out.1, Nat.le_succ_of_le hlg8.out.2.1, hlg8.out.2.2⟩
                clear hP hAf hqA hqB
                go_wp2
                go_roundw
                case rel => exact ⟨g2, s6.adv.adv, some ⟨gg, 0, none⟩, capg, hlg9.out, hq9.out, hA.out, hE.out, hI.out, hG.out⟩
                case measure =>
                  have h6 := hle6.out
                  have h7 := hp2.out
                  rw [hp6.out, hpW.out]
                  omega
              · have h817' : (k8 != 17) = true := by simpa using h817
                have hq4 := hide (hqB.out (by rw [hk8.out]; exact h817))
                have hla : Hid (its.length ≤ s6.adv.pos ∧ 1 ≤ its.length) := ⟨hlg8.out.2.1, hlg8.out.2.2⟩
                have hlg : Hid (g2.length ≤ s6.adv.pos) := hlg8.out.1
                clear hqA hqB hpW hlg8
                obtain ⟨ga2, hga2⟩ : ∃ z : Option Addr, Hid (some ⟨gg, 0, none⟩ = z) := ⟨_, rfl⟩
                rw [hga2.out] at hG hE
                clear hga2
                have k4 := hP.out.prs.c4
                obtain ⟨k6, hk6⟩ : ∃ k, Hid (pk ts s6.adv.pos = k) := ⟨_, rfl⟩
                go_wp2_with fail
                clear k4
                refine (R.peek w1.heap.size ta tc ts s6.adv v3 k6 hk6 wh4 hP.out.prs).mono ?_
                rintro e wl1 ⟨rfl, x3⟩
                replace hP := hide (hP.out.ext x3)
                replace hE := hide (hE.out.ext x3)
                replace hI := hide (hI.out.ext x3)
                replace hG := hide (hG.out.ext x3)
                clear x3
                by_cases h65 : k6 = 5
                · subst h65
                  have hlt := pk_lt hk6.out (by decide)
                  obtain ⟨k7, hk7⟩ : ∃ k, Hid (pk ts s6.adv.adv.pos = k) := ⟨_, rfl⟩
                  have k1 := hP.out.prs.c1
                  have fz := hP.out.prs.fz 1
                  have hl := hP.out.prs.len
                  have hA : Hid (PI 119 [.bool false] w (wl1.setCell ⟨w1.heap.size, 1, none⟩ (.int .i64 ((s6.adv.pos : Int) + 1))) w1.heap.size ta tc ts s6.adv.adv v3) := hP.out.adv hlt
                  have hAf : Hid (Fr w1.heap.size v3 v3 wl1 (wl1.setCell ⟨w1.heap.size, 1, none⟩ (.int .i64 ((s6.adv.pos : Int) + 1)))) := Fr.set _ _ _
                  replace hE := hide (hs.out.blk hAf.out hE.out)
                  replace hI := hide (hI.out.frN hP.out.prs hAf.out (Nat.le_succ _) (by decide))
                  replace hG := hide (hG.out.frN hP.out.prs hAf.out (Nat.le_succ _) (by decide))
                  go_wp2_with fail
                  generalize (wl1.setCell ⟨w1.heap.size, 1, none⟩ (.int .i64 ((s6.adv.pos : Int) + 1))) = wl2 at *
                  replace hP := hA
                  clear hA hAf k1 fz
                  refine (R.peek w1.heap.size ta tc ts s6.adv.adv v3 k7 hk7 wl2 hP.out.prs).mono ?_
                  rintro e wl3 ⟨rfl, x3⟩
                  replace hP := hide (hP.out.ext x3)
                  replace hE := hide (hE.out.ext x3)
                  replace hI := hide (hI.out.ext x3)
                  replace hG := hide (hG.out.ext x3)
                  clear x3
                  clear hlt
                  by_cases h714 : ¬ k7 = 14
                  · have h7' : (k7 != 14) = true := by simpa using h714
                    have hz : Hid (Pq x none) := by have := hq4.out; rw [q4_bad hk6.out (by rw [hk7.out]; exact h714)] at this; exact this
                    have k4' := hP.out.prs.c4
                    have fz4 := hP.out.prs.fz 4
                    have hB := hide (hP.out.badq (Fr.set wl3 4 (.bool true)) hP.out.prs.bad)
                    clear hP hE hI hG hs
                    have hb9 : Hid (Blk (wl3.setCell ⟨w1.heap.size, 4, none⟩ (.bool true)) w.heap.size 53 qz) := hB.out.blk
                    have ex9 : Hid (Ext w (wl3.setCell ⟨w1.heap.size, 4, none⟩ (.bool true))) := hB.out.ex
                    have k4 := hB.out.bad.c4
                    clear hB
                    go_wp2_with (refine wpList_storeB (vs := qz) rfl rfl (by rfl) (by rfl) hb9.out size_query rfl qz_one ?_; intro w99 hb99 hgr99; replace hgr99 := hide hgr99; replace hb99 := hide hb99)
                    refine bodyPost_ret (results_cell2 rfl (by rfl) hb99.out Yabn.underlying53 size_query) rfl ?_
                    exact ⟨ex9.out.setNew hgr99.out, .inl ⟨hz.out, rfl⟩⟩
                  have h714 : k7 = 14 := by omega
                  subst h714
                  have hlt := pk_lt hk7.out (by decide)
                  have hq5 : Hid (Pq x (q5 ts its wh g2 (nu ts s6.adv.adv.pos) s6.adv.adv.adv)) := by have := hq4.out; rw [q4_yes hk6.out hk7.out] at this; exact this
                  replace hlg : Hid ((g2).length ≤ s6.adv.adv.adv.pos) := Nat.le_succ_of_le (Nat.le_succ_of_le hlg.out)
                  replace hla : Hid (its.length ≤ s6.adv.adv.adv.pos ∧ 1 ≤ its.length) := ⟨Nat.le_succ_of_le (Nat.le_succ_of_le hla.out.1), hla.out.2⟩
                  obtain ⟨b, off, hta, g1⟩ := hP.out.prs.tok hlt
                  have hlt' : (s6.adv.adv.pos : Int) < ts.length := by omega
                  have k0 := hP.out.prs.c0
                  rw [hta] at k0
                  replace hta := hide hta
                  have kE := hE.out.box 4 _ rfl
                  have fE := hE.out.frozen 4
                  have k1 := hP.out.prs.c1
                  have fz := hP.out.prs.fz 1
                  generalize nu ts s6.adv.adv.pos = li at *
                  clear hq4
                  go_wp2
                  refine Dr.region_text (by kernel_rfl) ?_
                  go_wp2
                  refine ⟨by rfl, ?_⟩
                  have hgE : Hid (wl3.grownBy (wl3.setCell ⟨(w1.heap.size + 1), 4, none⟩ (.int .i64 li)) (some (w1.heap.size + 1))) := grown_setCell _ ⟨(w1.heap.size + 1), 4, none⟩ _
                  replace hP := hide (hP.out.set hs.out hgE.out)
                  replace hE : Hid (Blk (wl3.setCell ⟨(w1.heap.size + 1), 4, none⟩ (.int .i64 li)) (w1.heap.size + 1) 53 [.slice ia its.length ic, .slice none 0 0, .int .i64 wh, .slice ga2 (g2).length capg, .int .i64 li]) := hE.out.stored 4 (.int .i64 li)
                  replace hI := hide (hI.out.kept hgE.out (Nat.lt_succ_self _))
                  replace hG := hide (hG.out.kept hgE.out (Nat.lt_succ_self _))
                  have hX : Hid (Ext (wl3.setCell ⟨(w1.heap.size + 1), 4, none⟩ (.int .i64 li)) (wl3.setCell ⟨(w1.heap.size + 1), 4, none⟩ (.int .i64 li)).drew) := (Ext.refl _).drew
                  replace hP := hide (hP.out.ext hX.out)
                  replace hE := hide (hE.out.ext hX.out)
                  replace hI := hide (hI.out.ext hX.out)
                  replace hG := hide (hG.out.ext hX.out)
                  generalize (wl3.setCell ⟨(w1.heap.size + 1), 4, none⟩ (.int .i64 li)).drew = wl4 at *
                  clear hX hgE kE fE k0 k1 fz g1
                  have l4 := hP.out.prs.c4
                  have l2 := hP.out.prs.c2
                  have l2e : Hid (∀ na nc, v3 = .slice na s6.adv.adv.adv.nd.length nc → wl4.cell? ⟨w1.heap.size, 2, none⟩ = some (.slice na s6.adv.adv.adv.nd.length nc)) := fun na nc h => by rw [l2, h]
                  clear l2
                  have d0 := hE.out.box 0 _ rfl
                  have d1 := hE.out.box 1 _ rfl
                  have d2 := hE.out.box 2 _ rfl
                  have d3 := hE.out.box 3 _ rfl
                  have d4 := hE.out.box 4 _ rfl
                  have dE := hE.out.frozen 1
                  have k1 := hP.out.prs.c1
                  have fz := hP.out.prs.fz 1
                  have hl := hP.out.prs.len
                  have hA : Hid (PI 119 [.bool false] w (wl4.setCell ⟨w1.heap.size, 1, none⟩ (.int .i64 ((s6.adv.adv.pos : Int) + 1))) w1.heap.size ta tc ts s6.adv.adv.adv v3) := hP.out.adv hlt
                  have hAf : Hid (Fr w1.heap.size v3 v3 wl4 (wl4.setCell ⟨w1.heap.size, 1, none⟩ (.int .i64 ((s6.adv.adv.pos : Int) + 1)))) := Fr.set _ _ _
                  replace hE := hide (hs.out.blk hAf.out hE.out)
                  replace hI := hide (hI.out.frN hP.out.prs hAf.out (Nat.le_succ _) (by decide))
                  replace hG := hide (hG.out.frN hP.out.prs hAf.out (Nat.le_succ _) (by decide))
                  clear hP hAf
                  have hP := hA
                  clear hA
                  have hpe : Hid (((s6.adv.adv.adv.pos : Nat) : Int) = (s6.adv.adv.pos : Int) + 1) := rfl
                  try have k4 := hP.out.prs.c4
                  have k1' := hP.out.prs.c1
                  by_cases hend : ¬ s6.adv.adv.adv.pos = ts.length
                  · have hne : (((s6.adv.adv.pos : Int) + 1) != (ts.length : Int)) = true := by simp only [bne_iff_ne, ne_eq]; have h0 := hpe.out; omega
                    have hz : Hid (Pq x none) := by have := hq5.out; unfold q5 at this; rw [if_neg hend] at this; exact this
                    have hb9 : Hid (Blk (wl4.setCell ⟨w1.heap.size, 1, none⟩ (.int .i64 ((s6.adv.adv.pos : Int) + 1))) w.heap.size 53 qz) := hP.out.blk
                    have ex9 : Hid (Ext w (wl4.setCell ⟨w1.heap.size, 1, none⟩ (.int .i64 ((s6.adv.adv.pos : Int) + 1)))) := hP.out.ex
                    clear hP
                    go_wp2_with (refine wpList_storeB (vs := qz) rfl rfl (by rfl) (by rfl) hb9.out size_query rfl qz_one ?_; intro w99 hb99 hgr99; replace hgr99 := hide hgr99; replace hb99 := hide hb99)
                    refine bodyPost_ret (results_cell2 rfl (by rfl) hb99.out Yabn.underlying53 size_query) rfl ?_
                    exact ⟨ex9.out.setNew hgr99.out, .inl ⟨hz.out, rfl⟩⟩
                  have hend : s6.adv.adv.adv.pos = ts.length := Classical.byContradiction hend
                  have hne : (((s6.adv.adv.pos : Int) + 1) != (ts.length : Int)) = false := by simp only [bne_eq_false_iff_eq]; have h0 := hpe.out; omega
                  have hz : Hid (Pq x (some ⟨its, s6.adv.adv.adv.nd, wh, g2, li⟩)) := by have := hq5.out; unfold q5 at this; rw [if_pos hend] at this; exact this
                  replace hend := hide hend
                  obtain ⟨na, nc, hvn, _⟩ := hP.out.prs.nodes.form
                  have k2 := hP.out.prs.c2
                  rw [hvn] at k2
                  try have l2 := l2e.out na nc hvn
                  have hN : Hid (OwnN (wl4.setCell ⟨w1.heap.size, 1, none⟩ (.int .i64 ((s6.adv.adv.pos : Int) + 1))) (w1.heap.size + 1) 98 (.slice na s6.adv.adv.adv.nd.length nc) s6.adv.adv.adv.nd) := by have := hP.out.prs.nodes; rw [hvn] at this; exact this
                  have hsN : Hid (∀ q, (Value.slice na s6.adv.adv.adv.nd.length nc).ownBlock = some q → q ≠ (w1.heap.size + 1)) := fun q hq hh => hs.out.v (by rw [hvn, hq, hh])
                  replace hvn := hide hvn
                  have hL : Hid (its.length ≤ 65536 ∧ s6.adv.adv.adv.nd.length ≤ 65536 ∧ (g2).length ≤ 65536 ∧ 1 ≤ its.length) := by
                    have h1 := hla.out
                    have h2 := hlg.out
                    have h3 := hP.out.prs.ndl
                    have h4 := hP.out.prs.le
                    have h5 := hP.out.prs.len
                    exact ⟨by omega, by omega, by omega, by omega⟩
                  have e0 := hE.out.box 0 _ rfl
                  have e1 := hE.out.box 1 _ rfl
                  have e2 := hE.out.box 2 _ rfl
                  have e3 := hE.out.box 3 _ rfl
                  have e4 := hE.out.box 4 _ rfl
                  have fE := hE.out.frozen 1
                  have hlow : Hid (w.heap.size < w1.heap.size) := hP.out.low
                  have hN9 : Hid (OwnN ((wl4.setCell ⟨w1.heap.size, 1, none⟩ (.int .i64 ((s6.adv.adv.pos : Int) + 1))).setCell ⟨(w1.heap.size + 1), 1, none⟩ (.slice na s6.adv.adv.adv.nd.length nc)) (w1.heap.size + 1) 98 (.slice na s6.adv.adv.adv.nd.length nc) s6.adv.adv.adv.nd) := hN.out.butS (But.of_grown (S := fun q => q = (w1.heap.size + 1)) (grown_setCell _ ⟨(w1.heap.size + 1), 1, none⟩ _) (fun q hq => by cases hq; rfl)) (fun q hq => hsN.out q hq)
                  have hgE : Hid ((wl4.setCell ⟨w1.heap.size, 1, none⟩ (.int .i64 ((s6.adv.adv.pos : Int) + 1))).grownBy ((wl4.setCell ⟨w1.heap.size, 1, none⟩ (.int .i64 ((s6.adv.adv.pos : Int) + 1))).setCell ⟨(w1.heap.size + 1), 1, none⟩ (.slice na s6.adv.adv.adv.nd.length nc)) (some (w1.heap.size + 1))) := grown_setCell _ ⟨(w1.heap.size + 1), 1, none⟩ _
                  replace hP := hide (hP.out.set hs.out hgE.out)
                  replace hE : Hid (Blk ((wl4.setCell ⟨w1.heap.size, 1, none⟩ (.int .i64 ((s6.adv.adv.pos : Int) + 1))).setCell ⟨(w1.heap.size + 1), 1, none⟩ (.slice na s6.adv.adv.adv.nd.length nc)) (w1.heap.size + 1) 53 [.slice ia its.length ic, .slice na s6.adv.adv.adv.nd.length nc, .int .i64 wh, .slice ga2 (g2).length capg, .int .i64 li]) := hE.out.stored 1 (.slice na s6.adv.adv.adv.nd.length nc)
                  replace hI := hide (hI.out.kept hgE.out (Nat.lt_succ_self _))
                  replace hG := hide (hG.out.kept hgE.out (Nat.lt_succ_self _))
                  have hb9 : Hid (Blk ((wl4.setCell ⟨w1.heap.size, 1, none⟩ (.int .i64 ((s6.adv.adv.pos : Int) + 1))).setCell ⟨(w1.heap.size + 1), 1, none⟩ (.slice na s6.adv.adv.adv.nd.length nc)) w.heap.size 53 qz) := hP.out.blk
                  have ex9 : Hid (Ext w ((wl4.setCell ⟨w1.heap.size, 1, none⟩ (.int .i64 ((s6.adv.adv.pos : Int) + 1))).setCell ⟨(w1.heap.size + 1), 1, none⟩ (.slice na s6.adv.adv.adv.nd.length nc))) := hP.out.ex
                  have hl9 := hlow.out
                  clear hP hE hs hN
                  go_wp2_with (refine wpList_storeB (vs := [.slice ia its.length ic, .slice na s6.adv.adv.adv.nd.length nc, .int .i64 wh, .slice ga2 (g2).length capg, .int .i64 li]) rfl rfl (by rfl) (by rfl) hb9.out size_query rfl (by simp [Value.oneCell']) ?_; intro w99 hb99 hgr99; replace hgr99 := hide hgr99; replace hb99 := hide hb99)
                  refine bodyPost_ret (results_cell2 rfl (by rfl) hb99.out Yabn.underlying53 size_query) rfl ?_
                  exact ⟨ex9.out.setNew hgr99.out, .inr ⟨_, ia, na, ga2, ic, nc, capg, hz.out, rfl, (hI.out.kept hgr99.out (by omega)).mono (by omega), (OwnV.kept hN9.out hgr99.out (by omega)).mono (by omega), (hG.out.kept hgr99.out (by omega)).mono (by omega), hL.out.1, hL.out.2.1, hL.out.2.2.1, hL.out.2.2.2⟩⟩
                · have h65' : (k6 == 5) = false := by simpa using h65
                  have hq5 : Hid (Pq x (q5 ts its wh g2 (-1) s6.adv)) := by have := hq4.out; rw [q4_no (by rw [hk6.out]; exact h65)] at this; exact this
                  clear hq4
                  have hpe : Hid (((s6.adv.pos : Nat) : Int) = (s6.adv.pos : Int)) := rfl
                  try have k4 := hP.out.prs.c4
                  have k1' := hP.out.prs.c1
                  by_cases hend : ¬ s6.adv.pos = ts.length
                  · have hne : ((s6.adv.pos : Int) != (ts.length : Int)) = true := by simp only [bne_iff_ne, ne_eq]; have h0 := hpe.out; omega
                    have hz : Hid (Pq x none) := by have := hq5.out; unfold q5 at this; rw [if_neg hend] at this; exact this
                    have hb9 : Hid (Blk wl1 w.heap.size 53 qz) := hP.out.blk
                    have ex9 : Hid (Ext w wl1) := hP.out.ex
                    clear hP
                    go_wp2_with (refine wpList_storeB (vs := qz) rfl rfl (by rfl) (by rfl) hb9.out size_query rfl qz_one ?_; intro w99 hb99 hgr99; replace hgr99 := hide hgr99; replace hb99 := hide hb99)
                    refine bodyPost_ret (results_cell2 rfl (by rfl) hb99.out Yabn.underlying53 size_query) rfl ?_
                    exact ⟨ex9.out.setNew hgr99.out, .inl ⟨hz.out, rfl⟩⟩
                  have hend : s6.adv.pos = ts.length := Classical.byContradiction hend
                  have hne : ((s6.adv.pos : Int) != (ts.length : Int)) = false := by simp only [bne_eq_false_iff_eq]; have h0 := hpe.out; omega
                  have hz : Hid (Pq x (some ⟨its, s6.adv.nd, wh, g2, (-1)⟩)) := by have := hq5.out; unfold q5 at this; rw [if_pos hend] at this; exact this
                  replace hend := hide hend
                  obtain ⟨na, nc, hvn, _⟩ := hP.out.prs.nodes.form
                  have k2 := hP.out.prs.c2
                  rw [hvn] at k2
                  try have l2 := l2e.out na nc hvn
                  have hN : Hid (OwnN wl1 (w1.heap.size + 1) 98 (.slice na s6.adv.nd.length nc) s6.adv.nd) := by have := hP.out.prs.nodes; rw [hvn] at this; exact this
                  have hsN : Hid (∀ q, (Value.slice na s6.adv.nd.length nc).ownBlock = some q → q ≠ (w1.heap.size + 1)) := fun q hq hh => hs.out.v (by rw [hvn, hq, hh])
                  replace hvn := hide hvn
                  have hL : Hid (its.length ≤ 65536 ∧ s6.adv.nd.length ≤ 65536 ∧ (g2).length ≤ 65536 ∧ 1 ≤ its.length) := by
                    have h1 := hla.out
                    have h2 := hlg.out
                    have h3 := hP.out.prs.ndl
                    have h4 := hP.out.prs.le
                    have h5 := hP.out.prs.len
                    exact ⟨by omega, by omega, by omega, by omega⟩
                  have e0 := hE.out.box 0 _ rfl
                  have e1 := hE.out.box 1 _ rfl
                  have e2 := hE.out.box 2 _ rfl
                  have e3 := hE.out.box 3 _ rfl
                  have e4 := hE.out.box 4 _ rfl
                  have fE := hE.out.frozen 1
                  have hlow : Hid (w.heap.size < w1.heap.size) := hP.out.low
                  have hN9 : Hid (OwnN (wl1.setCell ⟨(w1.heap.size + 1), 1, none⟩ (.slice na s6.adv.nd.length nc)) (w1.heap.size + 1) 98 (.slice na s6.adv.nd.length nc) s6.adv.nd) := hN.out.butS (But.of_grown (S := fun q => q = (w1.heap.size + 1)) (grown_setCell _ ⟨(w1.heap.size + 1), 1, none⟩ _) (fun q hq => by cases hq; rfl)) (fun q hq => hsN.out q hq)
                  have hgE : Hid (wl1.grownBy (wl1.setCell ⟨(w1.heap.size + 1), 1, none⟩ (.slice na s6.adv.nd.length nc)) (some (w1.heap.size + 1))) := grown_setCell _ ⟨(w1.heap.size + 1), 1, none⟩ _
                  replace hP := hide (hP.out.set hs.out hgE.out)
                  replace hE : Hid (Blk (wl1.setCell ⟨(w1.heap.size + 1), 1, none⟩ (.slice na s6.adv.nd.length nc)) (w1.heap.size + 1) 53 [.slice ia its.length ic, .slice na s6.adv.nd.length nc, .int .i64 wh, .slice ga2 (g2).length capg, .int .i64 (-1)]) := hE.out.stored 1 (.slice na s6.adv.nd.length nc)
                  replace hI := hide (hI.out.kept hgE.out (Nat.lt_succ_self _))
                  replace hG := hide (hG.out.kept hgE.out (Nat.lt_succ_self _))
                  have hb9 : Hid (Blk (wl1.setCell ⟨(w1.heap.size + 1), 1, none⟩ (.slice na s6.adv.nd.length nc)) w.heap.size 53 qz) := hP.out.blk
                  have ex9 : Hid (Ext w (wl1.setCell ⟨(w1.heap.size + 1), 1, none⟩ (.slice na s6.adv.nd.length nc))) := hP.out.ex
                  have hl9 := hlow.out
                  clear hP hE hs hN
                  go_wp2_with (refine wpList_storeB (vs := [.slice ia its.length ic, .slice na s6.adv.nd.length nc, .int .i64 wh, .slice ga2 (g2).length capg, .int .i64 (-1)]) rfl rfl (by rfl) (by rfl) hb9.out size_query rfl (by simp [Value.oneCell']) ?_; intro w99 hb99 hgr99; replace hgr99 := hide hgr99; replace hb99 := hide hb99)
                  refine bodyPost_ret (results_cell2 rfl (by rfl) hb99.out Yabn.underlying53 size_query) rfl ?_
                  exact ⟨ex9.out.setNew hgr99.out, .inr ⟨_, ia, na, ga2, ic, nc, capg, hz.out, rfl, (hI.out.kept hgr99.out (by omega)).mono (by omega), (OwnV.kept hN9.out hgr99.out (by omega)).mono (by omega), (hG.out.kept hgr99.out (by omega)).mono (by omega), hL.out.1, hL.out.2.1, hL.out.2.2.1, hL.out.2.2.2⟩⟩
          · have h33' : (k3 == 3) = false := by simpa using h33
            have hq4 : Hid (Pq x (q4 ts its wh [] s3)) := hq3.out _ (.no (by rw [hk3.out]; exact h33))
            clear hq3
            have hlg : Hid (([] : List Int).length ≤ s3.pos) := Nat.zero_le _
            have k4 := hP.out.prs.c4
            obtain ⟨k6, hk6⟩ : ∃ k, Hid (pk ts s3.pos = k) := ⟨_, rfl⟩
            go_wp2_with fail
            clear k4
            refine (R.peek w1.heap.size ta tc ts s3 v3 k6 hk6 wg1 hP.out.prs).mono ?_
            rintro e wl1 ⟨rfl, x3⟩
            replace hP := hide (hP.out.ext x3)
            replace hE := hide (hE.out.ext x3)
            replace hI := hide (hI.out.ext x3)
            replace hG := hide (hG.out.ext x3)
            clear x3
            by_cases h65 : k6 = 5
            · subst h65
              have hlt := pk_lt hk6.out (by decide)
              obtain ⟨k7, hk7⟩ : ∃ k, Hid (pk ts s3.adv.pos = k) := ⟨_, rfl⟩
              have k1 := hP.out.prs.c1
              have fz := hP.out.prs.fz 1
              have hl := hP.out.prs.len
              have hA : Hid (PI 119 [.bool false] w (wl1.setCell ⟨w1.heap.size, 1, none⟩ (.int .i64 ((s3.pos : Int) + 1))) w1.heap.size ta tc ts s3.adv v3) := hP.out.adv hlt
              have hAf : Hid (Fr w1.heap.size v3 v3 wl1 (wl1.setCell ⟨w1.heap.size, 1, none⟩ (.int .i64 ((s3.pos : Int) + 1)))) := Fr.set _ _ _
              replace hE := hide (hs.out.blk hAf.out hE.out)
              replace hI := hide (hI.out.frN hP.out.prs hAf.out (Nat.le_succ _) (by decide))
              replace hG := hide (hG.out.frN hP.out.prs hAf.out (Nat.le_succ _) (by decide))
              go_wp2_with fail
              generalize (wl1.setCell ⟨w1.heap.size, 1, none⟩ (.int .i64 ((s3.pos : Int) + 1))) = wl2 at *
              replace hP := hA
              clear hA hAf k1 fz
              refine (R.peek w1.heap.size ta tc ts s3.adv v3 k7 hk7 wl2 hP.out.prs).mono ?_
              rintro e wl3 ⟨rfl, x3⟩
              replace hP := hide (hP.out.ext x3)
              replace hE := hide (hE.out.ext x3)
              replace hI := hide (hI.out.ext x3)
              replace hG := hide (hG.out.ext x3)
              clear x3
              clear hlt
              by_cases h714 : ¬ k7 = 14
              · have h7' : (k7 != 14) = true := by simpa using h714
                have hz : Hid (Pq x none) := by have := hq4.out; rw [q4_bad hk6.out (by rw [hk7.out]; exact h714)] at this; exact this
                have k4' := hP.out.prs.c4
                have fz4 := hP.out.prs.fz 4
                have hB := hide (hP.out.badq (Fr.set wl3 4 (.bool true)) hP.out.prs.bad)
                clear hP hE hI hG hs
                have hb9 : Hid (Blk (wl3.setCell ⟨w1.heap.size, 4, none⟩ (.bool true)) w.heap.size 53 qz) := hB.out.blk
                have ex9 : Hid (Ext w (wl3.setCell ⟨w1.heap.size, 4, none⟩ (.bool true))) := hB.out.ex
                have k4 := hB.out.bad.c4
                clear hB
                go_wp2_with (refine wpList_storeB (vs := qz) rfl rfl (by rfl) (by rfl) hb9.out size_query rfl qz_one ?_; intro w99 hb99 hgr99; replace hgr99 := hide hgr99; replace hb99 := hide hb99)
                refine bodyPost_ret (results_cell2 rfl (by rfl) hb99.out Yabn.underlying53 size_query) rfl ?_
                exact ⟨ex9.out.setNew hgr99.out, .inl ⟨hz.out, rfl⟩⟩
              have h714 : k7 = 14 := by omega
              subst h714
              have hlt := pk_lt hk7.out (by decide)
              have hq5 : Hid (Pq x (q5 ts its wh ([] : List Int) (nu ts s3.adv.pos) s3.adv.adv)) := by have := hq4.out; rw [q4_yes hk6.out hk7.out] at this; exact this
              replace hlg : Hid ((([] : List Int)).length ≤ s3.adv.adv.pos) := Nat.le_succ_of_le (Nat.le_succ_of_le hlg.out)
              replace hla : Hid (its.length ≤ s3.adv.adv.pos ∧ 1 ≤ its.length) := ⟨Nat.le_succ_of_le (Nat.le_succ_of_le hla.out.1), hla.out.2⟩
              obtain ⟨b, off, hta, g1⟩ := hP.out.prs.tok hlt
              have hlt' : (s3.adv.pos : Int) < ts.length := by omega
              have k0 := hP.out.prs.c0
              rw [hta] at k0
              replace hta := hide hta
              have kE := hE.out.box 4 _ rfl
              have fE := hE.out.frozen 4
              have k1 := hP.out.prs.c1
              have fz := hP.out.prs.fz 1
              generalize nu ts s3.adv.pos = li at *
              clear hq4
              go_wp2
              refine Dr.region_text (by kernel_rfl) ?_
              go_wp2
              refine ⟨by rfl, ?_⟩
              have hgE : Hid (wl3.grownBy (wl3.setCell ⟨(w1.heap.size + 1), 4, none⟩ (.int .i64 li)) (some (w1.heap.size + 1))) := grown_setCell _ ⟨(w1.heap.size + 1), 4, none⟩ _
              replace hP := hide (hP.out.set hs.out hgE.out)
              replace hE : Hid (Blk (wl3.setCell ⟨(w1.heap.size + 1), 4, none⟩ (.int .i64 li)) (w1.heap.size + 1) 53 [.slice ia its.length ic, .slice none 0 0, .int .i64 wh, .slice none (([] : List Int)).length 0, .int .i64 li]) := hE.out.stored 4 (.int .i64 li)
              replace hI := hide (hI.out.kept hgE.out (Nat.lt_succ_self _))
              replace hG := hide (hG.out.kept hgE.out (Nat.lt_succ_self _))
              have hX : Hid (Ext (wl3.setCell ⟨(w1.heap.size + 1), 4, none⟩ (.int .i64 li)) (wl3.setCell ⟨(w1.heap.size + 1), 4, none⟩ (.int .i64 li)).drew) := (Ext.refl _).drew
              replace hP := hide (hP.out.ext hX.out)
              replace hE := hide (hE.out.ext hX.out)
              replace hI := hide (hI.out.ext hX.out)
              replace hG := hide (hG.out.ext hX.out)
              generalize (wl3.setCell ⟨(w1.heap.size + 1), 4, none⟩ (.int .i64 li)).drew = wl4 at *
              clear hX hgE kE fE k0 k1 fz g1
              have l4 := hP.out.prs.c4
              have l2 := hP.out.prs.c2
              have l2e : Hid (∀ na nc, v3 = .slice na s3.adv.adv.nd.length nc → wl4.cell? ⟨w1.heap.size, 2, none⟩ = some (.slice na s3.adv.adv.nd.length nc)) := fun na nc h => by rw [l2, h]
              clear l2
              have d0 := hE.out.box 0 _ rfl
              have d1 := hE.out.box 1 _ rfl
              have d2 := hE.out.box 2 _ rfl
              have d3 := hE.out.box 3 _ rfl
              have d4 := hE.out.box 4 _ rfl
              have dE := hE.out.frozen 1
              have k1 := hP.out.prs.c1
              have fz := hP.out.prs.fz 1
              have hl := hP.out.prs.len
              have hA : Hid (PI 119 [.bool false] w (wl4.setCell ⟨w1.heap.size, 1, none⟩ (.int .i64 ((s3.adv.pos : Int) + 1))) w1.heap.size ta tc ts s3.adv.adv v3) := hP.out.adv hlt
              have hAf : Hid (Fr w1.heap.size v3 v3 wl4 (wl4.setCell ⟨w1.heap.size, 1, none⟩ (.int .i64 ((s3.adv.pos : Int) + 1)))) := Fr.set _ _ _
              replace hE := hide (hs.out.blk hAf.out hE.out)
              replace hI := hide (hI.out.frN hP.out.prs hAf.out (Nat.le_succ _) (by decide))
              replace hG := hide (hG.out.frN hP.out.prs hAf.out (Nat.le_succ _) (by decide))
              clear hP hAf
              have hP := hA
              clear hA
              have hpe : Hid (((s3.adv.adv.pos : Nat) : Int) = (s3.adv.pos : Int) + 1) := rfl
              try have k4 := hP.out.prs.c4
              have k1' := hP.out.prs.c1
              by_cases hend : ¬ s3.adv.adv.pos = ts.length
              · have hne : (((s3.adv.pos : Int) + 1) != (ts.length : Int)) = true := by simp only [bne_iff_ne, ne_eq]; have h0 := hpe.out; omega
                have hz : Hid (Pq x none) := by have := hq5.out; unfold q5 at this; rw [if_neg hend] at this; exact this
                have hb9 : Hid (Blk (wl4.setCell ⟨w1.heap.size, 1, none⟩ (.int .i64 ((s3.adv.pos : Int) + 1))) w.heap.size 53 qz) := hP.out.blk
                have ex9 : Hid (Ext w (wl4.setCell ⟨w1.heap.size, 1, none⟩ (.int .i64 ((s3.adv.pos : Int) + 1)))) := hP.out.ex
                clear hP
                go_wp2_with (refine wpList_storeB (vs := qz) rfl rfl (by rfl) (by rfl) hb9.out size_query rfl qz_one ?_; intro w99 hb99 hgr99; replace hgr99 := hide hgr99; replace hb99 := hide hb99)
                refine bodyPost_ret (results_cell2 rfl (by rfl) hb99.out Yabn.underlying53 size_query) rfl ?_
                exact ⟨ex9.out.setNew hgr99.out, .inl ⟨hz.out, rfl⟩⟩
              have hend : s3.adv.adv.pos = ts.length := Classical.byContradiction hend
              have hne : (((s3.adv.pos : Int) + 1) != (ts.length : Int)) = false := by simp only [bne_eq_false_iff_eq]; have h0 := hpe.out; omega
              have hz : Hid (Pq x (some ⟨its, s3.adv.adv.nd, wh, ([] : List Int), li⟩)) := by have := hq5.out; unfold q5 at this; rw [if_pos hend] at this; exact this
              replace hend := hide hend
              obtain ⟨na, nc, hvn, _⟩ := hP.out.prs.nodes.form
              have k2 := hP.out.prs.c2
              rw [hvn] at k2
              try have l2 := l2e.out na nc hvn
              have hN : Hid (OwnN (wl4.setCell ⟨w1.heap.size, 1, none⟩ (.int .i64 ((s3.adv.pos : Int) + 1))) (w1.heap.size + 1) 98 (.slice na s3.adv.adv.nd.length nc) s3.adv.adv.nd) := by have := hP.out.prs.nodes; rw [hvn] at this; exact this
              have hsN : Hid (∀ q, (Value.slice na s3.adv.adv.nd.length nc).ownBlock = some q → q ≠ (w1.heap.size + 1)) := fun q hq hh => hs.out.v (by rw [hvn, hq, hh])
              replace hvn := hide hvn
              have hL : Hid (its.length ≤ 65536 ∧ s3.adv.adv.nd.length ≤ 65536 ∧ (([] : List Int)).length ≤ 65536 ∧ 1 ≤ its.length) := by
                have h1 := hla.out
                have h2 := hlg.out
                have h3 := hP.out.prs.ndl
                have h4 := hP.out.prs.le
                have h5 := hP.out.prs.len
                exact ⟨by omega, by omega, by omega, by omega⟩
              have e0 := hE.out.box 0 _ rfl
              have e1 := hE.out.box 1 _ rfl
              have e2 := hE.out.box 2 _ rfl
              have e3 := hE.out.box 3 _ rfl
              have e4 := hE.out.box 4 _ rfl
              have fE := hE.out.frozen 1
              have hlow : Hid (w.heap.size < w1.heap.size) := hP.out.low
              have hN9 : Hid (OwnN ((wl4.setCell ⟨w1.heap.size, 1, none⟩ (.int .i64 ((s3.adv.pos : Int) + 1))).setCell ⟨(w1.heap.size + 1), 1, none⟩ (.slice na s3.adv.adv.nd.length nc)) (w1.heap.size + 1) 98 (.slice na s3.adv.adv.nd.length nc) s3.adv.adv.nd) := hN.out.butS (But.of_grown (S := fun q => q = (w1.heap.size + 1)) (grown_setCell _ ⟨(w1.heap.size + 1), 1, none⟩ _) (fun q hq => by cases hq; rfl)) (fun q hq => hsN.out q hq)
              have hgE : Hid ((wl4.setCell ⟨w1.heap.size, 1, none⟩ (.int .i64 ((s3.adv.pos : Int) + 1))).grownBy ((wl4.setCell ⟨w1.heap.size, 1, none⟩ (.int .i64 ((s3.adv.pos : Int) + 1))).setCell ⟨(w1.heap.size + 1), 1, none⟩ (.slice na s3.adv.adv.nd.length nc)) (some (w1.heap.size + 1))) := grown_setCell _ ⟨(w1.heap.size + 1), 1, none⟩ _
              replace hP := hide (hP.out.set hs.out hgE.out)
              replace hE : Hid (Blk ((wl4.setCell ⟨w1.heap.size, 1, none⟩ (.int .i64 ((s3.adv.pos : Int) + 1))).setCell ⟨(w1.heap.size + 1), 1, none⟩ (.slice na s3.adv.adv.nd.length nc)) (w1.heap.size + 1) 53 [.slice ia its.length ic, .slice na s3.adv.adv.nd.length nc, .int .i64 wh, .slice none (([] : List Int)).length 0, .int .i64 li]) := hE.out.stored 1 (.slice na s3.adv.adv.nd.length nc)
              replace hI := hide (hI.out.kept hgE.out (Nat.lt_succ_self _))
              replace hG := hide (hG.out.kept hgE.out (Nat.lt_succ_self _))
              have hb9 : Hid (Blk ((wl4.setCell ⟨w1.heap.size, 1, none⟩ (.int .i64 ((s3.adv.pos : Int) + 1))).setCell ⟨(w1.heap.size + 1), 1, none⟩ (.slice na s3.adv.adv.nd.length nc)) w.heap.size 53 qz) := hP.out.blk
              have ex9 : Hid (Ext w ((wl4.setCell ⟨w1.heap.size, 1, none⟩ (.int .i64 ((s3.adv.pos : Int) + 1))).setCell ⟨(w1.heap.size + 1), 1, none⟩ (.slice na s3.adv.adv.nd.length nc))) := hP.out.ex
              have hl9 := hlow.out
              clear hP hE hs hN
              go_wp2_with (refine wpList_storeB (vs := [.slice ia its.length ic, .slice na s3.adv.adv.nd.length nc, .int .i64 wh, .slice none (([] : List Int)).length 0, .int .i64 li]) rfl rfl (by rfl) (by rfl) hb9.out size_query rfl (by simp [Value.oneCell']) ?_; intro w99 hb99 hgr99; replace hgr99 := hide hgr99; replace hb99 := hide hb99)
              refine bodyPost_ret (results_cell2 rfl (by rfl) hb99.out Yabn.underlying53 size_query) rfl ?_
              exact ⟨ex9.out.setNew hgr99.out, .inr ⟨_, ia, na, none, ic, nc, 0, hz.out, rfl, (hI.out.kept hgr99.out (by omega)).mono (by omega), (OwnV.kept hN9.out hgr99.out (by omega)).mono (by omega), (hG.out.kept hgr99.out (by omega)).mono (by omega), hL.out.1, hL.out.2.1, hL.out.2.2.1, hL.out.2.2.2⟩⟩
            · have h65' : (k6 == 5) = false := by simpa using h65
              have hq5 : Hid (Pq x (q5 ts its wh ([] : List Int) (-1) s3)) := by have := hq4.out; rw [q4_no (by rw [hk6.out]; exact h65)] at this; exact this
              clear hq4
              have hpe : Hid (((s3.pos : Nat) : Int) = (s3.pos : Int)) := rfl
              try have k4 := hP.out.prs.c4
              have k1' := hP.out.prs.c1
              by_cases hend : ¬ s3.pos = ts.length
              · have hne : ((s3.pos : Int) != (ts.length : Int)) = true := by simp only [bne_iff_ne, ne_eq]; have h0 := hpe.out; omega
                have hz : Hid (Pq x none) := by have := hq5.out; unfold q5 at this; rw [if_neg hend] at this; exact this
                have hb9 : Hid (Blk wl1 w.heap.size 53 qz) := hP.out.blk
                have ex9 : Hid (Ext w wl1) := hP.out.ex
                clear hP
                go_wp2_with (refine wpList_storeB (vs := qz) rfl rfl (by rfl) (by rfl) hb9.out size_query rfl qz_one ?_; intro w99 hb99 hgr99; replace hgr99 := hide hgr99; replace hb99 := hide hb99)
                refine bodyPost_ret (results_cell2 rfl (by rfl) hb99.out Yabn.underlying53 size_query) rfl ?_
                exact ⟨ex9.out.setNew hgr99.out, .inl ⟨hz.out, rfl⟩⟩
              have hend : s3.pos = ts.length := Classical.byContradiction hend
              have hne : ((s3.pos : Int) != (ts.length : Int)) = false := by simp only [bne_eq_false_iff_eq]; have h0 := hpe.out; omega
              have hz : Hid (Pq x (some ⟨its, s3.nd, wh, ([] : List Int), (-1)⟩)) := by have := hq5.out; unfold q5 at this; rw [if_pos hend] at this; exact this
              replace hend := hide hend
              obtain ⟨na, nc, hvn, _⟩ := hP.out.prs.nodes.form
              have k2 := hP.out.prs.c2
              rw [hvn] at k2
              try have l2 := l2e.out na nc hvn
              have hN : Hid (OwnN wl1 (w1.heap.size + 1) 98 (.slice na s3.nd.length nc) s3.nd) := by have := hP.out.prs.nodes; rw [hvn] at this; exact this
              have hsN : Hid (∀ q, (Value.slice na s3.nd.length nc).ownBlock = some q → q ≠ (w1.heap.size + 1)) := fun q hq hh => hs.out.v (by rw [hvn, hq, hh])
              replace hvn := hide hvn
              have hL : Hid (its.length ≤ 65536 ∧ s3.nd.length ≤ 65536 ∧ (([] : List Int)).length ≤ 65536 ∧ 1 ≤ its.length) := by
                have h1 := hla.out
                have h2 := hlg.out
                have h3 := hP.out.prs.ndl
                have h4 := hP.out.prs.le
                have h5 := hP.out.prs.len
                exact ⟨by omega, by omega, by omega, by omega⟩
              have e0 := hE.out.box 0 _ rfl
              have e1 := hE.out.box 1 _ rfl
              have e2 := hE.out.box 2 _ rfl
              have e3 := hE.out.box 3 _ rfl
              have e4 := hE.out.box 4 _ rfl
              have fE := hE.out.frozen 1
              have hlow : Hid (w.heap.size < w1.heap.size) := hP.out.low
              have hN9 : Hid (OwnN (wl1.setCell ⟨(w1.heap.size + 1), 1, none⟩ (.slice na s3.nd.length nc)) (w1.heap.size + 1) 98 (.slice na s3.nd.length nc) s3.nd) := hN.out.butS (But.of_grown (S := fun q => q = (w1.heap.size + 1)) (grown_setCell _ ⟨(w1.heap.size + 1), 1, none⟩ _) (fun q hq => by cases hq; rfl)) (fun q hq => hsN.out q hq)
              have hgE : Hid (wl1.grownBy (wl1.setCell ⟨(w1.heap.size + 1), 1, none⟩ (.slice na s3.nd.length nc)) (some (w1.heap.size + 1))) := grown_setCell _ ⟨(w1.heap.size + 1), 1, none⟩ _
              replace hP := hide (hP.out.set hs.out hgE.out)
              replace hE : Hid (Blk (wl1.setCell ⟨(w1.heap.size + 1), 1, none⟩ (.slice na s3.nd.length nc)) (w1.heap.size + 1) 53 [.slice ia its.length ic, .slice na s3.nd.length nc, .int .i64 wh, .slice none (([] : List Int)).length 0, .int .i64 (-1)]) := hE.out.stored 1 (.slice na s3.nd.length nc)
              replace hI := hide (hI.out.kept hgE.out (Nat.lt_succ_self _))
              replace hG := hide (hG.out.kept hgE.out (Nat.lt_succ_self _))
              have hb9 : Hid (Blk (wl1.setCell ⟨(w1.heap.size + 1), 1, none⟩ (.slice na s3.nd.length nc)) w.heap.size 53 qz) := hP.out.blk
              have ex9 : Hid (Ext w (wl1.setCell ⟨(w1.heap.size + 1), 1, none⟩ (.slice na s3.nd.length nc))) := hP.out.ex
              have hl9 := hlow.out
              clear hP hE hs hN
              go_wp2_with (refine wpList_storeB (vs := [.slice ia its.length ic, .slice na s3.nd.length nc, .int .i64 wh, .slice none (([] : List Int)).length 0, .int .i64 (-1)]) rfl rfl (by rfl) (by rfl) hb9.out size_query rfl (by simp [Value.oneCell']) ?_; intro w99 hb99 hgr99; replace hgr99 := hide hgr99; replace hb99 := hide hb99)
              refine bodyPost_ret (results_cell2 rfl (by rfl) hb99.out Yabn.underlying53 size_query) rfl ?_
              exact ⟨ex9.out.setNew hgr99.out, .inr ⟨_, ia, na, none, ic, nc, 0, hz.out, rfl, (hI.out.kept hgr99.out (by omega)).mono (by omega), (OwnV.kept hN9.out hgr99.out (by omega)).mono (by omega), (hG.out.kept hgr99.out (by omega)).mono (by omega), hL.out.1, hL.out.2.1, hL.out.2.2.1, hL.out.2.2.2⟩⟩
      · have h22' : (k2 == 2) = false := by simpa using h22
        have hq3 : Hid (∀ r, Q3 ts its (-1) s5 r → Pq x r) := fun r hr => hq2.out r (.no (by rw [hk2.out]; exact h22) hr)
        clear hq2
        have k4 := hP.out.prs.c4
        obtain ⟨k3, hk3⟩ : ∃ k, Hid (pk ts s5.pos = k) := ⟨_, rfl⟩
        go_wp2_with fail
        clear k4
        refine (R.peek w1.heap.size ta tc ts s5 v5 k3 hk3 w12 hP.out.prs).mono ?_
        rintro e wg1 ⟨rfl, x3⟩
        replace hP := hide (hP.out.ext x3)
        replace hE := hide (hE.out.ext x3)
        replace hI := hide (hI.out.ext x3)
        replace hG := hide (hG.out.ext x3)
        clear x3
        by_cases h33 : k3 = 3
        · subst h33
          have hlt := pk_lt hk3.out (by decide)
          obtain ⟨k4x, hk4⟩ : ∃ k, Hid (pk ts s5.adv.pos = k) := ⟨_, rfl⟩
          have k1 := hP.out.prs.c1
          have fz := hP.out.prs.fz 1
          have hl := hP.out.prs.len
          have hA : Hid (PI 119 [.bool false] w (wg1.setCell ⟨w1.heap.size, 1, none⟩ (.int .i64 ((s5.pos : Int) + 1))) w1.heap.size ta tc ts s5.adv v5) := hP.out.adv hlt
          have hAf : Hid (Fr w1.heap.size v5 v5 wg1 (wg1.setCell ⟨w1.heap.size, 1, none⟩ (.int .i64 ((s5.pos : Int) + 1)))) := Fr.set _ _ _
          replace hE := hide (hs.out.blk hAf.out hE.out)
          replace hI := hide (hI.out.frN hP.out.prs hAf.out (Nat.le_succ _) (by decide))
          replace hG := hide (hG.out.frN hP.out.prs hAf.out (Nat.le_succ _) (by decide))
          go_wp2_with fail
          generalize (wg1.setCell ⟨w1.heap.size, 1, none⟩ (.int .i64 ((s5.pos : Int) + 1))) = wg2 at *
          replace hP := hA
          clear hA hAf k1 fz
          clear hlt
          by_cases h44 : ¬ k4x = 4
          · have hz : Hid (Pq x none) := hq3.out _ (.bad hk3.out (by rw [hk4.out]; exact h44))
            refine (R.expect_no w1.heap.size ta tc ts s5.adv v5 4 k4x wg2 hP.out.prs hk4 h44).mono ?_
            rintro e wg3 ⟨rfl, b3, f3⟩
            have hB := hide (hP.out.badq f3 b3)
            clear hP hE hI hG b3 f3 hs
            go_wp2
            go_loopw [] (fun wr => Hid (BadQ w wr w1.heap.size)) (fun _ => 0)
            case atStart => exact hB
            clear hB
            have hB := hrel
            clear hrel
            have hb9 : Hid (Blk wr w.heap.size 53 qz) := hB.out.blk
            have ex9 : Hid (Ext w wr) := hB.out.ex
            have k4 := hB.out.bad.c4
            clear hB
            go_wp2_with (refine wpList_storeB (vs := qz) rfl rfl (by rfl) (by rfl) hb9.out size_query rfl qz_one ?_; intro w99 hb99 hgr99; replace hgr99 := hide hgr99; replace hb99 := hide hb99)
            refine bodyPost_ret (results_cell2 rfl (by rfl) hb99.out Yabn.underlying53 size_query) rfl ?_
            exact ⟨ex9.out.setNew hgr99.out, .inl ⟨hz.out, rfl⟩⟩
          have h44 : k4x = 4 := by omega
          subst h44
          have hlt := pk_lt hk4.out (by decide)
          have hqg : Hid (∀ r, G3 ts its (-1) [] s5.adv.adv r → Pq x r) := fun r hr => hq3.out r (.yes hk3.out hk4.out hr)
          clear hq3
          refine (R.expect_ok w1.heap.size ta tc ts s5.adv v5 4 wg2 hP.out.prs hk4 hlt).mono ?_
          rintro e wg3 ⟨rfl, h3, f3⟩
          replace hE := hide (hs.out.blk f3 hE.out)
          replace hI := hide (hI.out.frN hP.out.prs f3 (Nat.le_succ _) (by decide))
          replace hG := hide (hG.out.frN hP.out.prs f3 (Nat.le_succ _) (by decide))
          replace hP := hide (hP.out.fr f3 h3)
          replace hla : Hid (its.length ≤ s5.adv.adv.pos ∧ 1 ≤ its.length) := ⟨Nat.le_succ_of_le (Nat.le_succ_of_le hla.out.1), hla.out.2⟩
          clear h3 f3 hlt
          go_wp2
          go_loopw [] (fun wr => ∃ (gr : List Int) (s6 : PS) (ga : Option Addr) (gc : Nat), Hid (gr.length ≤ s6.pos ∧ its.length ≤ s6.pos ∧ 1 ≤ its.length) ∧ Hid (∀ r, G3 ts its (-1) gr s6 r → Pq x r) ∧ Hid (PI 119 [.bool false] w wr w1.heap.size ta tc ts s6 v5) ∧ Hid (Blk wr (w1.heap.size + 1) 53 [.slice ia its.length ic, .slice none 0 0, .int .i64 (-1), .slice ga gr.length gc, .int .i64 (-1)]) ∧ Hid (OwnP wr (w1.heap.size + 2) 89 (.slice ia its.length ic) its) ∧ Hid (OwnI wr (w1.heap.size + 2) 3 (.slice ga gr.length gc) gr)) (fun wr => ts.length - posAt wr w1.heap.size)
          case atStart => exact ⟨[], s5.adv.adv, none, 0, ⟨Nat.zero_le _, hla.out⟩, hqg, hP, hE, hI, hG⟩
          clear hqg hP hE hI hG hla
          obtain ⟨gr, s6, ga, gc, hlg7, hqg, hP, hE, hI, hG⟩ := hrel
          have hpW := hide hP.out.prs.posAt
          have k4 := hP.out.prs.c4
          obtain ⟨k5, hk5⟩ : ∃ k, Hid (pk ts s6.pos = k) := ⟨_, rfl⟩
          go_wp2_with fail
          clear k4
          refine (R.peek w1.heap.size ta tc ts s6 v5 k5 hk5 wr hP.out.prs).mono ?_
          rintro e wh1 ⟨rfl, x3⟩
          replace hP := hide (hP.out.ext x3)
          replace hE := hide (hE.out.ext x3)
          replace hI := hide (hI.out.ext x3)
          replace hG := hide (hG.out.ext x3)
          clear x3
          by_cases h513 : ¬ k5 = 13
          · have h5' : (k5 != 13) = true := by simpa using h513
            have hz : Hid (Pq x none) := hqg.out _ (.bad (by rw [hk5.out]; exact h513))
            have k4' := hP.out.prs.c4
            have fz4 := hP.out.prs.fz 4
            have hB := hide (hP.out.badq (Fr.set wh1 4 (.bool true)) hP.out.prs.bad)
            clear hP hE hI hG hs
            have hb9 : Hid (Blk (wh1.setCell ⟨w1.heap.size, 4, none⟩ (.bool true)) w.heap.size 53 qz) := hB.out.blk
            have ex9 : Hid (Ext w (wh1.setCell ⟨w1.heap.size, 4, none⟩ (.bool true))) := hB.out.ex
            have k4 := hB.out.bad.c4
            clear hB
            go_wp2_with (refine wpList_storeB (vs := qz) rfl rfl (by rfl) (by rfl) hb9.out size_query rfl qz_one ?_; intro w99 hb99 hgr99; replace hgr99 := hide hgr99; replace hb99 := hide hb99)
            refine bodyPost_ret (results_cell2 rfl (by rfl) hb99.out Yabn.underlying53 size_query) rfl ?_
            exact ⟨ex9.out.setNew hgr99.out, .inl ⟨hz.out, rfl⟩⟩
          have h513 : k5 = 13 := by omega
          subst h513
          have hlt := pk_lt hk5.out (by decide)
          have hqA : Hid (pk ts s6.adv.pos = 17 → ∀ r, G3 ts its (-1) (gr ++ [nu ts s6.pos]) s6.adv.adv r → Pq x r) := fun h0 r hr => hqg.out r (.more hk5.out h0 hr)
          have hqB : Hid (pk ts s6.adv.pos ≠ 17 → Pq x (q4 ts its (-1) (gr ++ [nu ts s6.pos]) s6.adv)) := fun h0 => hqg.out _ (.last hk5.out h0)
          have hlg8 : Hid ((gr ++ [nu ts s6.pos]).length ≤ s6.adv.pos ∧ its.length ≤ s6.adv.pos ∧ 1 ≤ its.length) := by
            have h1 := hlg7.out
            refine ⟨?_, ?_, h1.2.2⟩
            · simp only [List.length_append, List.length_singleton, PS.adv]; omega
            · simp only [PS.adv]; omega
          obtain ⟨b, off, hta, g1⟩ := hP.out.prs.tok hlt
          generalize nu ts s6.pos = yc at *
          replace hta := hide hta
          go_upto_region 22 with fail
          go_cut [] from 89 to 132 (fun wc => ∃ (gg : Nat) (capg : Nat), Hid (PI 119 [.bool false] w wc w1.heap.size ta tc ts s6 v5) ∧ Hid (Blk wc (w1.heap.size + 1) 53 [.slice ia its.length ic, .slice none 0 0, .int .i64 (-1), .slice (some ⟨gg, 0, none⟩) (gr.length + 1) capg, .int .i64 (-1)]) ∧ Hid (OwnP wc (w1.heap.size + 2) 89 (.slice ia its.length ic) its) ∧ Hid (OwnI wc (w1.heap.size + 2) 3 (.slice (some ⟨gg, 0, none⟩) (gr.length + 1) capg) (gr ++ [yc])))
          case first =>
            have hlt' : (s6.pos : Int) < ts.length := by omega
            have k0 := hP.out.prs.c0
            rw [hta.out] at k0
            have k1 := hP.out.prs.c1
            have kE := hE.out.box 3 _ rfl
            have kEa : (wh1.alloc (.cells #[.int .i64 yc] 3)).drew.cell? ⟨(w1.heap.size + 1), 3, none⟩ = some (.slice ga gr.length gc) := (((Ext.refl wh1).alloc _).drew).cell kE
            have hln : Hid (gr.length < 2 ^ 39) := by have h1 := hlg7.out; have h2 := hP.out.prs.len; show gr.length < 2 ^ 39; omega
            have hap : Hid (Apart (.slice ga gr.length gc) v5) := apart_types hG.out hP.out.prs.nodes.2 (by decide)
            have hapI : Hid (Apart (.slice ia its.length ic) (.slice ga gr.length gc)) := apart_types hI.out hG.out (by decide)
            have hEl : Hid ((w1.heap.size + 1) < wh1.heap.size) := hE.out.lt
            clear hqg hqA hqB hlg8 hlg7 hpW
            go_region_law (refine step_int rfl rfl (w1.heap.size + 2) (by have := hEl.out; simp; omega) (.slice ga gr.length gc) gr yc (by simp [Act.eval, Act.put]) (OwnI.alloc hG.out _) wh1.heap.size 1 (by simp [Act.eval, Act.put]) (heap_alloc_new wh1 _) hln.out ?_; intro gg capg w7 O7 hgr7 hor7 hlt7; have hP7 := hide (hP.out.app (((Ext.refl wh1).alloc (.cells #[.int .i64 yc] 3)).drew) hgr7 (fun k hk => by have := hG.out.block k hk; omega) hap.out); have hE7 := hide (((hE.out.alloc (.cells #[.int .i64 yc] 3)).drew).grown hgr7 (fun hh => by have := hG.out.block _ hh; omega)); have hI7 := hide (OwnP.but ((hI.out.alloc (.cells #[.int .i64 yc] 3)).drew) hgr7 hapI.out); have hG7 := hide O7; have kE7 := hE7.out.box 3 _ rfl; have fE7 := hE7.out.frozen 3; clear O7 hgr7 hor7 hlt7)
            all_goals
              have hgE : Hid (w7.grownBy (w7.setCell ⟨(w1.heap.size + 1), 3, none⟩ (.slice (some ⟨gg, 0, none⟩) (gr.length + 1) capg)) (some (w1.heap.size + 1))) := grown_setCell _ ⟨(w1.heap.size + 1), 3, none⟩ _
              have hP8 := hide (hP7.out.set hs.out hgE.out)
              have hE8 := hide (hE7.out.stored 3 (.slice (some ⟨gg, 0, none⟩) (gr.length + 1) capg))
              have hI8 := hide (hI7.out.kept hgE.out (Nat.lt_succ_self _))
              have hG8 := hide (hG7.out.kept hgE.out (Nat.lt_succ_self _))
              go_wp2_with fail
              go_meet
              case rel => exact ⟨gg, capg, hP8.out, hE8.out, hI8.out, hG8.out⟩
          case rest =>
            clear hP hE hI hG g1
            obtain ⟨gg, capg, hP, hE, hI0, hG0⟩ := hcut
            have hG : Hid (OwnI wc (w1.heap.size + 2) 3 (.slice (some ⟨gg, 0, none⟩) (gr ++ [yc]).length capg) (gr ++ [yc])) := by rw [List.length_append]; exact hG0
            have hE2 : Hid (Blk wc (w1.heap.size + 1) 53 [.slice ia its.length ic, .slice none 0 0, .int .i64 (-1), .slice (some ⟨gg, 0, none⟩) (gr ++ [yc]).length capg, .int .i64 (-1)]) := by rw [List.length_append]; exact hE
            clear hE hG0
            have hE := hE2
            have hI := hI0
            clear hE2 hI0 hqg hlg7
            obtain ⟨g2, hg2⟩ : ∃ z, Hid (gr ++ [yc] = z) := ⟨_, rfl⟩
            rw [hg2.out] at hG hE hqA hqB hlg8
            clear hg2
            obtain ⟨k8, hk8⟩ : ∃ k, Hid (pk ts s6.adv.pos = k) := ⟨_, rfl⟩
            have k1 := hP.out.prs.c1
            have fz := hP.out.prs.fz 1
            have hl := hP.out.prs.len
            have hA : Hid (PI 119 [.bool false] w (wc.setCell ⟨w1.heap.size, 1, none⟩ (.int .i64 ((s6.pos : Int) + 1))) w1.heap.size ta tc ts s6.adv v5) := hP.out.adv hlt
            have hAf : Hid (Fr w1.heap.size v5 v5 wc (wc.setCell ⟨w1.heap.size, 1, none⟩ (.int .i64 ((s6.pos : Int) + 1)))) := Fr.set _ _ _
            replace hE := hide (hs.out.blk hAf.out hE.out)
            replace hI := hide (hI.out.frN hP.out.prs hAf.out (Nat.le_succ _) (by decide))
            replace hG := hide (hG.out.frN hP.out.prs hAf.out (Nat.le_succ _) (by decide))
            go_wp2_with fail
            generalize (wc.setCell ⟨w1.heap.size, 1, none⟩ (.int .i64 ((s6.pos : Int) + 1))) = wh3 at *
            replace hP := hA
            clear hA hAf k1 fz
            refine (R.peek w1.heap.size ta tc ts s6.adv v5 k8 hk8 wh3 hP.out.prs).mono ?_
            rintro e wh4 ⟨rfl, x3⟩
            replace hP := hide (hP.out.ext x3)
            replace hE := hide (hE.out.ext x3)
            replace hI := hide (hI.out.ext x3)
            replace hG := hide (hG.out.ext x3)
            clear x3
            clear hlt
            by_cases h817 : k8 = 17
            · subst h817
              have hlt := pk_lt hk8.out (by decide)
              have hq9 := hide (hqA.out hk8.out)
              have hp2 : Hid (s6.adv.adv.pos = s6.pos + 2) := rfl
              have k1 := hP.out.prs.c1
              have fz := hP.out.prs.fz 1
              have hl := hP.out.prs.len
              have hA : Hid (PI 119 [.bool false] w (wh4.setCell ⟨w1.heap.size, 1, none⟩ (.int .i64 ((s6.adv.pos : Int) + 1))) w1.heap.size ta tc ts s6.adv.adv v5) := hP.out.adv hlt
              have hAf : Hid (Fr w1.heap.size v5 v5 wh4 (wh4.setCell ⟨w1.heap.size, 1, none⟩ (.int .i64 ((s6.adv.pos : Int) + 1)))) := Fr.set _ _ _
              replace hE := hide (hs.out.blk hAf.out hE.out)
              replace hI := hide (hI.out.frN hP.out.prs hAf.out (Nat.le_succ _) (by decide))
              replace hG := hide (hG.out.frN hP.out.prs hAf.out (Nat.le_succ _) (by decide))
              have hp6 := hide hA.out.prs.posAt
              have hle6 := hide hA.out.prs.le
              have hlg9 : Hid (g2.length ≤ s6.adv.adv.pos ∧ its.length ≤ s6.adv.adv.pos ∧ 1 ≤ its.length) := ⟨Nat.le_succ_of_le hlg8.out.1, Nat.le_succ_of_le hlg8.out.2.1, hlg8.out.2.2⟩
              clear hP hAf hqA hqB
              go_wp2
              go_roundw
              case rel => exact ⟨g2, s6.adv.adv, some ⟨gg, 0, none⟩, capg, hlg9.out, hq9.out, hA.out, hE.out, hI.out, hG.out⟩
              case measure =>
                have h6 := hle6.out
                have h7 := hp2.out
                rw [hp6.out, hpW.out]
                omega
            · have h817' : (k8 != 17) = true := by simpa using h817
              have hq4 := hide (hqB.out (by rw [hk8.out]; exact h817))
              have hla : Hid (its.length ≤ s6.adv.pos ∧ 1 ≤ its.length) := ⟨hlg8.out.2.1, hlg8.out.2.2⟩
              have hlg : Hid (g2.length ≤ s6.adv.pos) := hlg8.out.1
              clear hqA hqB hpW hlg8
              obtain ⟨ga2, hga2⟩ : ∃ z : Option Addr, Hid (some ⟨gg, 0, none⟩ = z) := ⟨_, rfl⟩
              rw [hga2.out] at hG hE
              clear hga2
              have k4 := hP.out.prs.c4
              obtain ⟨k6, hk6⟩ : ∃ k, Hid (pk ts s6.adv.pos = k) := ⟨_, rfl⟩
              go_wp2_with fail
              clear k4
              refine (R.peek w1.heap.size ta tc ts s6.adv v5 k6 hk6 wh4 hP.out.prs).mono ?_
              rintro e wl1 ⟨rfl, x3⟩
              replace hP := hide (hP.out.ext x3)
              replace hE := hide (hE.out.ext x3)
              replace hI := hide (hI.out.ext x3)
              replace hG := hide (hG.out.ext x3)
              clear x3
              by_cases h65 : k6 = 5
              · subst h65
                have hlt := pk_lt hk6.out (by decide)
                obtain ⟨k7, hk7⟩ : ∃ k, Hid (pk ts s6.adv.adv.pos = k) := ⟨_, rfl⟩
                have k1 := hP.out.prs.c1
                have fz := hP.out.prs.fz 1
                have hl := hP.out.prs.len
                have hA : Hid (PI 119 [.bool false] w (wl1.setCell ⟨w1.heap.size, 1, none⟩ (.int .i64 ((s6.adv.pos : Int) + 1))) w1.heap.size ta tc ts s6.adv.adv v5) := hP.out.adv hlt
                have hAf : Hid (Fr w1.heap.size v5 v5 wl1 (wl1.setCell ⟨w1.heap.size, 1, none⟩ (.int .i64 ((s6.adv.pos : Int) + 1)))) := Fr.set _ _ _
                replace hE := hide (hs.out.blk hAf.out hE.out)
                replace hI := hide (hI.out.frN hP.out.prs hAf.out (Nat.le_succ _) (by decide))
                replace hG := hide (hG.out.frN hP.out.prs hAf.out (Nat.le_succ _) (by decide))
                go_wp2_with fail
                generalize (wl1.setCell ⟨w1.heap.size, 1, none⟩ (.int .i64 ((s6.adv.pos : Int) + 1))) = wl2 at *
                replace hP := hA
                clear hA hAf k1 fz
                refine (R.peek w1.heap.size ta tc ts s6.adv.adv v5 k7 hk7 wl2 hP.out.prs).mono ?_
                rintro e wl3 ⟨rfl, x3⟩
                replace hP := hide (hP.out.ext x3)
                replace hE := hide (hE.out.ext x3)
                replace hI := hide (hI.out.ext x3)
                replace hG := hide (hG.out.ext x3)
                clear x3
                clear hlt
                by_cases h714 : ¬ k7 = 14
                · have h7' : (k7 != 14) = true := by simpa using h714
                  have hz : Hid (Pq x none) := by have := hq4.out; rw [q4_bad hk6.out (by rw [hk7.out]; exact h714)] at this; exact this
                  have k4' := hP.out.prs.c4
                  have fz4 := hP.out.prs.fz 4
                  have hB := hide (hP.out.badq (Fr.set wl3 4 (.bool true)) hP.out.prs.bad)
                  clear hP hE hI hG hs
                  have hb9 : Hid (Blk (wl3.setCell ⟨w1.heap.size, 4, none⟩ (.bool true)) w.heap.size 53 qz) := hB.out.blk
                  have ex9 : Hid (Ext w (wl3.setCell ⟨w1.heap.size, 4, none⟩ (.bool true))) := hB.out.ex
                  have k4 := hB.out.bad.c4
                  clear hB
                  go_wp2_with (refine wpList_storeB (vs := qz) rfl rfl (by rfl) (by rfl) hb9.out size_query rfl qz_one ?_; intro w99 hb99 hgr99; replace hgr99 := hide hgr99; replace hb99 := hide hb99)
                  refine bodyPost_ret (results_cell2 rfl (by rfl) hb99.out Yabn.underlying53 size_query) rfl ?_
                  exact ⟨ex9.out.setNew hgr99.out, .inl ⟨hz.out, rfl⟩⟩
                have h714 : k7 = 14 := by omega
                subst h714
                have hlt := pk_lt hk7.out (by decide)
                have hq5 : Hid (Pq x (q5 ts its (-1) g2 (nu ts s6.adv.adv.pos) s6.adv.adv.adv)) := by have := hq4.out; rw [q4_yes hk6.out hk7.out] at this; exact this
                replace hlg : Hid ((g2).length ≤ s6.adv.adv.adv.pos) := Nat.le_succ_of_le (Nat.le_succ_of_le hlg.out)
                replace hla : Hid (its.length ≤ s6.adv.adv.adv.pos ∧ 1 ≤ its.length) := ⟨Nat.le_succ_of_le (Nat.le_succ_of_le hla.out.1), hla.out.2⟩
                obtain ⟨b, off, hta, g1⟩ := hP.out.prs.tok hlt
                have hlt' : (s6.adv.adv.pos : Int) < ts.length := by omega
                have k0 := hP.out.prs.c0
                rw [hta] at k0
                replace hta := hide hta
                have kE := hE.out.box 4 _ rfl
                have fE := hE.out.frozen 4
                have k1 := hP.out.prs.c1
                have fz := hP.out.prs.fz 1
                generalize nu ts s6.adv.adv.pos = li at *
                clear hq4
                go_wp2
                refine Dr.region_text (by kernel_rfl) ?_
                go_wp2
                refine ⟨by rfl, ?_⟩
                have hgE : Hid (wl3.grownBy (wl3.setCell ⟨(w1.heap.size + 1), 4, none⟩ (.int .i64 li)) (some (w1.heap.size + 1))) := grown_setCell _ ⟨(w1.heap.size + 1), 4, none⟩ _
                replace hP := hide (hP.out.set hs.out hgE.out)
                replace hE : Hid (Blk (wl3.setCell ⟨(w1.heap.size + 1), 4, none⟩ (.int .i64 li)) (w1.heap.size + 1) 53 [.slice ia its.length ic, .slice none 0 0, .int .i64 (-1), .slice ga2 (g2).length capg, .int .i64 li]) := hE.out.stored 4 (.int .i64 li)
                replace hI := hide (hI.out.kept hgE.out (Nat.lt_succ_self _))
                replace hG := hide (hG.out.kept hgE.out (Nat.lt_succ_self _))
                have hX : Hid (Ext (wl3.setCell ⟨(w1.heap.size + 1), 4, none⟩ (.int .i64 li)) (wl3.setCell ⟨(w1.heap.size + 1), 4, none⟩ (.int .i64 li)).drew) := (Ext.refl _).drew
                replace hP := hide (hP.out.ext hX.out)
                replace hE := hide (hE.out.ext hX.out)
                replace hI := hide (hI.out.ext hX.out)
                replace hG := hide (hG.out.ext hX.out)
                generalize (wl3.setCell ⟨(w1.heap.size + 1), 4, none⟩ (.int .i64 li)).drew = wl4 at *
                clear hX hgE kE fE k0 k1 fz g1
                have l4 := hP.out.prs.c4
                have l2 := hP.out.prs.c2
                have l2e : Hid (∀ na nc, v5 = .slice na s6.adv.adv.adv.nd.length nc → wl4.cell? ⟨w1.heap.size, 2, none⟩ = some (.slice na s6.adv.adv.adv.nd.length nc)) := fun na nc h => by rw [l2, h]
                clear l2
                have d0 := hE.out.box 0 _ rfl
                have d1 := hE.out.box 1 _ rfl
                have d2 := hE.out.box 2 _ rfl
                have d3 := hE.out.box 3 _ rfl
                have d4 := hE.out.box 4 _ rfl
                have dE := hE.out.frozen 1
                have k1 := hP.out.prs.c1
                have fz := hP.out.prs.fz 1
                have hl := hP.out.prs.len
                have hA : Hid (PI 119 [.bool false] w (wl4.setCell ⟨w1.heap.size, 1, none⟩ (.int .i64 ((s6.adv.adv.pos : Int) + 1))) w1.heap.size ta tc ts s6.adv.adv.adv v5) := hP.out.adv hlt
                have hAf : Hid (Fr w1.heap.size v5 v5 wl4 (wl4.setCell ⟨w1.heap.size, 1, none⟩ (.int .i64 ((s6.adv.adv.pos : Int) + 1)))) := Fr.set _ _ _
                replace hE := hide (hs.out.blk hAf.out hE.out)
                replace hI := hide (hI.out.frN hP.out.prs hAf.out (Nat.le_succ _) (by decide))
                replace hG := hide (hG.out.frN hP.out.prs hAf.out (Nat.le_succ _) (by decide))
                clear hP hAf
                have hP := hA
                clear hA
                have hpe : Hid (((s6.adv.adv.adv.pos : Nat) : Int) = (s6.adv.adv.pos : Int) + 1) := rfl
                try have k4 := hP.out.prs.c4
                have k1' := hP.out.prs.c1
                by_cases hend : ¬ s6.adv.adv.adv.pos = ts.length
                · have hne : (((s6.adv.adv.pos : Int) + 1) != (ts.length : Int)) = true := by simp only [bne_iff_ne, ne_eq]; have h0 := hpe.out; omega
                  have hz : Hid (Pq x none) := by have := hq5.out; unfold q5 at this; rw [if_neg hend] at this; exact this
                  have hb9 : Hid (Blk (wl4.setCell ⟨w1.heap.size, 1, none⟩ (.int .i64 ((s6.adv.adv.pos : Int) + 1))) w.heap.size 53 qz) := hP.out.blk
                  have ex9 : Hid (Ext w (wl4.setCell ⟨w1.heap.size, 1, none⟩ (.int .i64 ((s6.adv.adv.pos : Int) + 1)))) := hP.out.ex
                  clear hP
                  go_wp2_with (refine wpList_storeB (vs := qz) rfl rfl (by rfl) (by rfl) hb9.out size_query rfl qz_one ?_; intro w99 hb99 hgr99; replace hgr99 := hide hgr99; replace hb99 := hide hb99)
                  refine bodyPost_ret (results_cell2 rfl (by rfl) hb99.out Yabn.underlying53 size_query) rfl ?_
                  exact ⟨ex9.out.setNew hgr99.out, .inl ⟨hz.out, rfl⟩⟩
                have hend : s6.adv.adv.adv.pos = ts.length := Classical.byContradiction hend
                have hne : (((s6.adv.adv.pos : Int) + 1) != (ts.length : Int)) = false := by simp only [bne_eq_false_iff_eq]; have h0 := hpe.out; omega
                have hz : Hid (Pq x (some ⟨its, s6.adv.adv.adv.nd, (-1), g2, li⟩)) := by have := hq5.out; unfold q5 at this; rw [if_pos hend] at this; exact this
                replace hend := hide hend
                obtain ⟨na, nc, hvn, _⟩ := hP.out.prs.nodes.form
                have k2 := hP.out.prs.c2
                rw [hvn] at k2
                try have l2 := l2e.out na nc hvn
                have hN : Hid (OwnN (wl4.setCell ⟨w1.heap.size, 1, none⟩ (.int .i64 ((s6.adv.adv.pos : Int) + 1))) (w1.heap.size + 1) 98 (.slice na s6.adv.adv.adv.nd.length nc) s6.adv.adv.adv.nd) := by have := hP.out.prs.nodes; rw [hvn] at this; exact this
                have hsN : Hid (∀ q, (Value.slice na s6.adv.adv.adv.nd.length nc).ownBlock = some q → q ≠ (w1.heap.size + 1)) := fun q hq hh => hs.out.v (by rw [hvn, hq, hh])
                replace hvn := hide hvn
                have hL : Hid (its.length ≤ 65536 ∧ s6.adv.adv.adv.nd.length ≤ 65536 ∧ (g2).length ≤ 65536 ∧ 1 ≤ its.length) := by
                  have h1 := hla.out
                  have h2 := hlg.out
                  have h3 := hP.out.prs.ndl
                  have h4 := hP.out.prs.le
                  have h5 := hP.out.prs.len
                  exact ⟨by omega, by omega, by omega, by omega⟩
                have e0 := hE.out.box 0 _ rfl
                have e1 := hE.out.box 1 _ rfl
                have e2 := hE.out.box 2 _ rfl
                have e3 := hE.out.box 3 _ rfl
                have e4 := hE.out.box 4 _ rfl
                have fE := hE.out.frozen 1
                have hlow : Hid (w.heap.size < w1.heap.size) := hP.out.low
                have hN9 : Hid (OwnN ((wl4.setCell ⟨w1.heap.size, 1, none⟩ (.int .i64 ((s6.adv.adv.pos : Int) + 1))).setCell ⟨(w1.heap.size + 1), 1, none⟩ (.slice na s6.adv.adv.adv.nd.length nc)) (w1.heap.size + 1) 98 (.slice na s6.adv.adv.adv.nd.length nc) s6.adv.adv.adv.nd) := hN.out.butS (But.of_grown (S := fun q => q = (w1.heap.size + 1)) (grown_setCell _ ⟨(w1.heap.size + 1), 1, none⟩ _) (fun q hq => by cases hq; rfl)) (fun q hq => hsN.out q hq)
                have hgE : Hid ((wl4.setCell ⟨w1.heap.size, 1, none⟩ (.int .i64 ((s6.adv.adv.pos : Int) + 1))).grownBy ((wl4.setCell ⟨w1.heap.size, 1, none⟩ (.int .i64 ((s6.adv.adv.pos : Int) + 1))).setCell ⟨(w1.heap.size + 1), 1, none⟩ (.slice na s6.adv.adv.adv.nd.length nc)) (some (w1.heap.size + 1))) := grown_setCell _ ⟨(w1.heap.size + 1), 1, none⟩ _
                replace hP := hide (hP.out.set hs.out hgE.out)
                replace hE : Hid (Blk ((wl4.setCell ⟨w1.heap.size, 1, none⟩ (.int .i64 ((s6.adv.adv.pos : Int) + 1))).setCell ⟨(w1.heap.size + 1), 1, none⟩ (.slice na s6.adv.adv.adv.nd.length nc)) (w1.heap.size + 1) 53 [.slice ia its.length ic, .slice na s6.adv.adv.adv.nd.length nc, .int .i64 (-1), .slice ga2 (g2).length capg, .int .i64 li]) := hE.out.stored 1 (.slice na s6.adv.adv.adv.nd.length nc)
                replace hI := hide (hI.out.kept hgE.out (Nat.lt_succ_self _))
                replace hG := hide (hG.out.kept hgE.out (Nat.lt_succ_self _))
                have hb9 : Hid (Blk ((wl4.setCell ⟨w1.heap.size, 1, none⟩ (.int .i64 ((s6.adv.adv.pos : Int) + 1))).setCell ⟨(w1.heap.size + 1), 1, none⟩ (.slice na s6.adv.adv.adv.nd.length nc)) w.heap.size 53 qz) := hP.out.blk
                have ex9 : Hid (Ext w ((wl4.setCell ⟨w1.heap.size, 1, none⟩ (.int .i64 ((s6.adv.adv.pos : Int) + 1))).setCell ⟨(w1.heap.size + 1), 1, none⟩ (.slice na s6.adv.adv.adv.nd.length nc))) := hP.out.ex
                have hl9 := hlow.out
                clear hP hE hs hN
                go_wp2_with (refine wpList_storeB (vs := [.slice ia its.length ic, .slice na s6.adv.adv.adv.nd.length nc, .int .i64 (-1), .slice ga2 (g2).length capg, .int .i64 li]) rfl rfl (by rfl) (by rfl) hb9.out size_query rfl (by simp [Value.oneCell']) ?_; intro w99 hb99 hgr99; replace hgr99 := hide hgr99; replace hb99 := hide hb99)
                refine bodyPost_ret (results_cell2 rfl (by rfl) hb99.out Yabn.underlying53 size_query) rfl ?_
                exact ⟨ex9.out.setNew hgr99.out, .inr ⟨_, ia, na, ga2, ic, nc, capg, hz.out, rfl, (hI.out.kept hgr99.out (by omega)).mono (by omega), (OwnV.kept hN9.out hgr99.out (by omega)).mono (by omega), (hG.out.kept hgr99.out (by omega)).mono (by omega), hL.out.1, hL.out.2.1, hL.out.2.2.1, hL.out.2.2.2⟩⟩
              · have h65' : (k6 == 5) = false := by simpa using h65
                have hq5 : Hid (Pq x (q5 ts its (-1) g2 (-1) s6.adv)) := by have := hq4.out; rw [q4_no (by rw [hk6.out]; exact h65)] at this; exact this
                clear hq4
                have hpe : Hid (((s6.adv.pos : Nat) : Int) = (s6.adv.pos : Int)) := rfl
                try have k4 := hP.out.prs.c4
                have k1' := hP.out.prs.c1
                by_cases hend : ¬ s6.adv.pos = ts.length
                · have hne : ((s6.adv.pos : Int) != (ts.length : Int)) = true := by simp only [bne_iff_ne, ne_eq]; have h0 := hpe.out; omega
                  have hz : Hid (Pq x none) := by have := hq5.out; unfold q5 at this; rw [if_neg hend] at this; exact this
                  have hb9 : Hid (Blk wl1 w.heap.size 53 qz) := hP.out.blk
                  have ex9 : Hid (Ext w wl1) := hP.out.ex
                  clear hP
                  go_wp2_with (refine wpList_storeB (vs := qz) rfl rfl (by rfl) (by rfl) hb9.out size_query rfl qz_one ?_; intro w99 hb99 hgr99; replace hgr99 := hide hgr99; replace hb99 := hide hb99)
                  refine bodyPost_ret (results_cell2 rfl (by rfl) hb99.out Yabn.underlying53 size_query) rfl ?_
                  exact ⟨ex9.out.setNew hgr99.out, .inl ⟨hz.out, rfl⟩⟩
                have hend : s6.adv.pos = ts.length := Classical.byContradiction hend
                have hne : ((s6.adv.pos : Int) != (ts.length : Int)) = false := by simp only [bne_eq_false_iff_eq]; have h0 := hpe.out; omega
                have hz : Hid (Pq x (some ⟨its, s6.adv.nd, (-1), g2, (-1)⟩)) := by have := hq5.out; unfold q5 at this; rw [if_pos hend] at this; exact this
                replace hend := hide hend
                obtain ⟨na, nc, hvn, _⟩ := hP.out.prs.nodes.form
                have k2 := hP.out.prs.c2
                rw [hvn] at k2
                try have l2 := l2e.out na nc hvn
                have hN : Hid (OwnN wl1 (w1.heap.size + 1) 98 (.slice na s6.adv.nd.length nc) s6.adv.nd) := by have := hP.out.prs.nodes; rw [hvn] at this; exact this
                have hsN : Hid (∀ q, (Value.slice na s6.adv.nd.length nc).ownBlock = some q → q ≠ (w1.heap.size + 1)) := fun q hq hh => hs.out.v (by rw [hvn, hq, hh])
                replace hvn := hide hvn
                have hL : Hid (its.length ≤ 65536 ∧ s6.adv.nd.length ≤ 65536 ∧ (g2).length ≤ 65536 ∧ 1 ≤ its.length) := by
                  have h1 := hla.out
                  have h2 := hlg.out
                  have h3 := hP.out.prs.ndl
                  have h4 := hP.out.prs.le
                  have h5 := hP.out.prs.len
                  exact ⟨by omega, by omega, by omega, by omega⟩
                have e0 := hE.out.box 0 _ rfl
                have e1 := hE.out.box 1 _ rfl
                have e2 := hE.out.box 2 _ rfl
                have e3 := hE.out.box 3 _ rfl
                have e4 := hE.out.box 4 _ rfl
                have fE := hE.out.frozen 1
                have hlow : Hid (w.heap.size < w1.heap.size) := hP.out.low
                have hN9 : Hid (OwnN (wl1.setCell ⟨(w1.heap.size + 1), 1, none⟩ (.slice na s6.adv.nd.length nc)) (w1.heap.size + 1) 98 (.slice na s6.adv.nd.length nc) s6.adv.nd) := hN.out.butS (But.of_grown (S := fun q => q = (w1.heap.size + 1)) (grown_setCell _ ⟨(w1.heap.size + 1), 1, none⟩ _) (fun q hq => by cases hq; rfl)) (fun q hq => hsN.out q hq)
                have hgE : Hid (wl1.grownBy (wl1.setCell ⟨(w1.heap.size + 1), 1, none⟩ (.slice na s6.adv.nd.length nc)) (some (w1.heap.size + 1))) := grown_setCell _ ⟨(w1.heap.size + 1), 1, none⟩ _
                replace hP := hide (hP.out.set hs.out hgE.out)
                replace hE : Hid (Blk (wl1.setCell ⟨(w1.heap.size + 1), 1, none⟩ (.slice na s6.adv.nd.length nc)) (w1.heap.size + 1) 53 [.slice ia its.length ic, .slice na s6.adv.nd.length nc, .int .i64 (-1), .slice ga2 (g2).length capg, .int .i64 (-1)]) := hE.out.stored 1 (.slice na s6.adv.nd.length nc)
                replace hI := hide (hI.out.kept hgE.out (Nat.lt_succ_self _))
                replace hG := hide (hG.out.kept hgE.out (Nat.lt_succ_self _))
                have hb9 : Hid (Blk (wl1.setCell ⟨(w1.heap.size + 1), 1, none⟩ (.slice na s6.adv.nd.length nc)) w.heap.size 53 qz) := hP.out.blk
                have ex9 : Hid (Ext w (wl1.setCell ⟨(w1.heap.size + 1), 1, none⟩ (.slice na s6.adv.nd.length nc))) := hP.out.ex
                have hl9 := hlow.out
                clear hP hE hs hN
                go_wp2_with (refine wpList_storeB (vs := [.slice ia its.length ic, .slice na s6.adv.nd.length nc, .int .i64 (-1), .slice ga2 (g2).length capg, .int .i64 (-1)]) rfl rfl (by rfl) (by rfl) hb9.out size_query rfl (by simp [Value.oneCell']) ?_; intro w99 hb99 hgr99; replace hgr99 := hide hgr99; replace hb99 := hide hb99)
                refine bodyPost_ret (results_cell2 rfl (by rfl) hb99.out Yabn.underlying53 size_query) rfl ?_
                exact ⟨ex9.out.setNew hgr99.out, .inr ⟨_, ia, na, ga2, ic, nc, capg, hz.out, rfl, (hI.out.kept hgr99.out (by omega)).mono (by omega), (OwnV.kept hN9.out hgr99.out (by omega)).mono (by omega), (hG.out.kept hgr99.out (by omega)).mono (by omega), hL.out.1, hL.out.2.1, hL.out.2.2.1, hL.out.2.2.2⟩⟩
        · have h33' : (k3 == 3) = false := by simpa using h33
          have hq4 : Hid (Pq x (q4 ts its (-1) [] s5)) := hq3.out _ (.no (by rw [hk3.out]; exact h33))
          clear hq3
          have hlg : Hid (([] : List Int).length ≤ s5.pos) := Nat.zero_le _
          have k4 := hP.out.prs.c4
          obtain ⟨k6, hk6⟩ : ∃ k, Hid (pk ts s5.pos = k) := ⟨_, rfl⟩
          go_wp2_with fail
          clear k4
          refine (R.peek w1.heap.size ta tc ts s5 v5 k6 hk6 wg1 hP.out.prs).mono ?_
          rintro e wl1 ⟨rfl, x3⟩
          replace hP := hide (hP.out.ext x3)
          replace hE := hide (hE.out.ext x3)
          replace hI := hide (hI.out.ext x3)
          replace hG := hide (hG.out.ext x3)
          clear x3
          by_cases h65 : k6 = 5
          · subst h65
            have hlt := pk_lt hk6.out (by decide)
            obtain ⟨k7, hk7⟩ : ∃ k, Hid (pk ts s5.adv.pos = k) := ⟨_, rfl⟩
            have k1 := hP.out.prs.c1
            have fz := hP.out.prs.fz 1
            have hl := hP.out.prs.len
            have hA : Hid (PI 119 [.bool false] w (wl1.setCell ⟨w1.heap.size, 1, none⟩ (.int .i64 ((s5.pos : Int) + 1))) w1.heap.size ta tc ts s5.adv v5) := hP.out.adv hlt
            have hAf : Hid (Fr w1.heap.size v5 v5 wl1 (wl1.setCell ⟨w1.heap.size, 1, none⟩ (.int .i64 ((s5.pos : Int) + 1)))) := Fr.set _ _ _
            replace hE := hide (hs.out.blk hAf.out hE.out)
            replace hI := hide (hI.out.frN hP.out.prs hAf.out (Nat.le_succ _) (by decide))
            replace hG := hide (hG.out.frN hP.out.prs hAf.out (Nat.le_succ _) (by decide))
            go_wp2_with fail
            generalize (wl1.setCell ⟨w1.heap.size, 1, none⟩ (.int .i64 ((s5.pos : Int) + 1))) = wl2 at *
            replace hP := hA
            clear hA hAf k1 fz
            refine (R.peek w1.heap.size ta tc ts s5.adv v5 k7 hk7 wl2 hP.out.prs).mono ?_
            rintro e wl3 ⟨rfl, x3⟩
            replace hP := hide (hP.out.ext x3)
            replace hE := hide (hE.out.ext x3)
            replace hI := hide (hI.out.ext x3)
            replace hG := hide (hG.out.ext x3)
            clear x3
            clear hlt
            by_cases h714 : ¬ k7 = 14
            · have h7' : (k7 != 14) = true := by simpa using h714
              have hz : Hid (Pq x none) := by have := hq4.out; rw [q4_bad hk6.out (by rw [hk7.out]; exact h714)] at this; exact this
              have k4' := hP.out.prs.c4
              have fz4 := hP.out.prs.fz 4
              have hB := hide (hP.out.badq (Fr.set wl3 4 (.bool true)) hP.out.prs.bad)
              clear hP hE hI hG hs
              have hb9 : Hid (Blk (wl3.setCell ⟨w1.heap.size, 4, none⟩ (.bool true)) w.heap.size 53 qz) := hB.out.blk
              have ex9 : Hid (Ext w (wl3.setCell ⟨w1.heap.size, 4, none⟩ (.bool true))) := hB.out.ex
              have k4 := hB.out.bad.c4
              clear hB
              go_wp2_with (refine wpList_storeB (vs := qz) rfl rfl (by rfl) (by rfl) hb9.out size_query rfl qz_one ?_; intro w99 hb99 hgr99; replace hgr99 := hide hgr99; replace hb99 := hide hb99)
              refine bodyPost_ret (results_cell2 rfl (by rfl) hb99.out Yabn.underlying53 size_query) rfl ?_
              exact ⟨ex9.out.setNew hgr99.out, .inl ⟨hz.out, rfl⟩⟩
            have h714 : k7 = 14 := by omega
            subst h714
            have hlt := pk_lt hk7.out (by decide)
            have hq5 : Hid (Pq x (q5 ts its (-1) ([] : List Int) (nu ts s5.adv.pos) s5.adv.adv)) := by have := hq4.out; rw [q4_yes hk6.out hk7.out] at this; exact this
            replace hlg : Hid ((([] : List Int)).length ≤ s5.adv.adv.pos) := Nat.le_succ_of_le (Nat.le_succ_of_le hlg.out)
            replace hla : Hid (its.length ≤ s5.adv.adv.pos ∧ 1 ≤ its.length) := ⟨Nat.le_succ_of_le (Nat.le_succ_of_le hla.out.1), hla.out.2⟩
            obtain ⟨b, off, hta, g1⟩ := hP.out.prs.tok hlt
            have hlt' : (s5.adv.pos : Int) < ts.length := by omega
            have k0 := hP.out.prs.c0
            rw [hta] at k0
            replace hta := hide hta
            have kE := hE.out.box 4 _ rfl
            have fE := hE.out.frozen 4
            have k1 := hP.out.prs.c1
            have fz := hP.out.prs.fz 1
            generalize nu ts s5.adv.pos = li at *
            clear hq4
            go_wp2
            refine Dr.region_text (by kernel_rfl) ?_
            go_wp2
            refine ⟨by rfl, ?_⟩
            have hgE : Hid (wl3.grownBy (wl3.setCell ⟨(w1.heap.size + 1), 4, none⟩ (.int .i64 li)) (some (w1.heap.size + 1))) := grown_setCell _ ⟨(w1.heap.size + 1), 4, none⟩ _
            replace hP := hide (hP.out.set hs.out hgE.out)
            replace hE : Hid (Blk (wl3.setCell ⟨(w1.heap.size + 1), 4, none⟩ (.int .i64 li)) (w1.heap.size + 1) 53 [.slice ia its.length ic, .slice none 0 0, .int .i64 (-1), .slice none (([] : List Int)).length 0, .int .i64 li]) := hE.out.stored 4 (.int .i64 li)
            replace hI := hide (hI.out.kept hgE.out (Nat.lt_succ_self _))
            replace hG := hide (hG.out.kept hgE.out (Nat.lt_succ_self _))
            have hX : Hid (Ext (wl3.setCell ⟨(w1.heap.size + 1), 4, none⟩ (.int .i64 li)) (wl3.setCell ⟨(w1.heap.size + 1), 4, none⟩ (.int .i64 li)).drew) := (Ext.refl _).drew
            replace hP := hide (hP.out.ext hX.out)
            replace hE := hide (hE.out.ext hX.out)
            replace hI := hide (hI.out.ext hX.out)
            replace hG := hide (hG.out.ext hX.out)
            generalize (wl3.setCell ⟨(w1.heap.size + 1), 4, none⟩ (.int .i64 li)).drew = wl4 at *
            clear hX hgE kE fE k0 k1 fz g1
            have l4 := hP.out.prs.c4
            have l2 := hP.out.prs.c2
            have l2e : Hid (∀ na nc, v5 = .slice na s5.adv.adv.nd.length nc → wl4.cell? ⟨w1.heap.size, 2, none⟩ = some (.slice na s5.adv.adv.nd.length nc)) := fun na nc h => by rw [l2, h]
            clear l2
            have d0 := hE.out.box 0 _ rfl
            have d1 := hE.out.box 1 _ rfl
            have d2 := hE.out.box 2 _ rfl
            have d3 := hE.out.box 3 _ rfl
            have d4 := hE.out.box 4 _ rfl
            have dE := hE.out.frozen 1
            have k1 := hP.out.prs.c1
            have fz := hP.out.prs.fz 1
            have hl := hP.out.prs.len
            have hA : Hid (PI 119 [.bool false] w (wl4.setCell ⟨w1.heap.size, 1, none⟩ (.int .i64 ((s5.adv.pos : Int) + 1))) w1.heap.size ta tc ts s5.adv.adv v5) := hP.out.adv hlt
            have hAf : Hid (Fr w1.heap.size v5 v5 wl4 (wl4.setCell ⟨w1.heap.size, 1, none⟩ (.int .i64 ((s5.adv.pos : Int) + 1)))) := Fr.set _ _ _
            replace hE := hide (hs.out.blk hAf.out hE.out)
            replace hI := hide (hI.out.frN hP.out.prs hAf.out (Nat.le_succ _) (by decide))
            replace hG := hide (hG.out.frN hP.out.prs hAf.out (Nat.le_succ _) (by decide))
            clear hP hAf
            have hP := hA
            clear hA
            have hpe : Hid (((s5.adv.adv.pos : Nat) : Int) = (s5.adv.pos : Int) + 1) := rfl
            try have k4 := hP.out.prs.c4
            have k1' := hP.out.prs.c1
            by_cases hend : ¬ s5.adv.adv.pos = ts.length
            · have hne : (((s5.adv.pos : Int) + 1) != (ts.length : Int)) = true := by simp only [bne_iff_ne, ne_eq]; have h0 := hpe.out; omega
              have hz : Hid (Pq x none) := by have := hq5.out; unfold q5 at this; rw [if_neg hend] at this; exact this
              have hb9 : Hid (Blk (wl4.setCell ⟨w1.heap.size, 1, none⟩ (.int .i64 ((s5.adv.pos : Int) + 1))) w.heap.size 53 qz) := hP.out.blk
              have ex9 : Hid (Ext w (wl4.setCell ⟨w1.heap.size, 1, none⟩ (.int .i64 ((s5.adv.pos : Int) + 1)))) := hP.out.ex
              clear hP
              go_wp2_with (refine wpList_storeB (vs := qz) rfl rfl (by rfl) (by rfl) hb9.out size_query rfl qz_one ?_; intro w99 hb99 hgr99; replace hgr99 := hide hgr99; replace hb99 := hide hb99)
              refine bodyPost_ret (results_cell2 rfl (by rfl) hb99.out Yabn.underlying53 size_query) rfl ?_
              exact ⟨ex9.out.setNew hgr99.out, .inl ⟨hz.out, rfl⟩⟩
            have hend : s5.adv.adv.pos = ts.length := Classical.byContradiction hend
            have hne : (((s5.adv.pos : Int) + 1) != (ts.length : Int)) = false := by simp only [bne_eq_false_iff_eq]; have h0 := hpe.out; omega
            have hz : Hid (Pq x (some ⟨its, s5.adv.adv.nd, (-1), ([] : List Int), li⟩)) := by have := hq5.out; unfold q5 at this; rw [if_pos hend] at this; exact this
            replace hend := hide hend
            obtain ⟨na, nc, hvn, _⟩ := hP.out.prs.nodes.form
            have k2 := hP.out.prs.c2
            rw [hvn] at k2
            try have l2 := l2e.out na nc hvn
            have hN : Hid (OwnN (wl4.setCell ⟨w1.heap.size, 1, none⟩ (.int .i64 ((s5.adv.pos : Int) + 1))) (w1.heap.size + 1) 98 (.slice na s5.adv.adv.nd.length nc) s5.adv.adv.nd) := by have := hP.out.prs.nodes; rw [hvn] at this; exact this
            have hsN : Hid (∀ q, (Value.slice na s5.adv.adv.nd.length nc).ownBlock = some q → q ≠ (w1.heap.size + 1)) := fun q hq hh => hs.out.v (by rw [hvn, hq, hh])
            replace hvn := hide hvn
            have hL : Hid (its.length ≤ 65536 ∧ s5.adv.adv.nd.length ≤ 65536 ∧ (([] : List Int)).length ≤ 65536 ∧ 1 ≤ its.length) := by
              have h1 := hla.out
              have h2 := hlg.out
              have h3 := hP.out.prs.ndl
              have h4 := hP.out.prs.le
              have h5 := hP.out.prs.len
              exact ⟨by omega, by omega, by omega, by omega⟩
            have e0 := hE.out.box 0 _ rfl
            have e1 := hE.out.box 1 _ rfl
            have e2 := hE.out.box 2 _ rfl
            have e3 := hE.out.box 3 _ rfl
            have e4 := hE.out.box 4 _ rfl
            have fE := hE.out.frozen 1
            have hlow : Hid (w.heap.size < w1.heap.size) := hP.out.low
            have hN9 : Hid (OwnN ((wl4.setCell ⟨w1.heap.size, 1, none⟩ (.int .i64 ((s5.adv.pos : Int) + 1))).setCell ⟨(w1.heap.size + 1), 1, none⟩ (.slice na s5.adv.adv.nd.length nc)) (w1.heap.size + 1) 98 (.slice na s5.adv.adv.nd.length nc) s5.adv.adv.nd) := hN.out.butS (But.of_grown (S := fun q => q = (w1.heap.size + 1)) (grown_setCell _ ⟨(w1.heap.size + 1), 1, none⟩ _) (fun q hq => by cases hq; rfl)) (fun q hq => hsN.out q hq)
            have hgE : Hid ((wl4.setCell ⟨w1.heap.size, 1, none⟩ (.int .i64 ((s5.adv.pos : Int) + 1))).grownBy ((wl4.setCell ⟨w1.heap.size, 1, none⟩ (.int .i64 ((s5.adv.pos : Int) + 1))).setCell ⟨(w1.heap.size + 1), 1, none⟩ (.slice na s5.adv.adv.nd.length nc)) (some (w1.heap.size + 1))) := grown_setCell _ ⟨(w1.heap.size + 1), 1, none⟩ _
            replace hP := hide (hP.out.set hs.out hgE.out)
            replace hE : Hid (Blk ((wl4.setCell ⟨w1.heap.size, 1, none⟩ (.int .i64 ((s5.adv.pos : Int) + 1))).setCell ⟨(w1.heap.size + 1), 1, none⟩ (.slice na s5.adv.adv.nd.length nc)) (w1.heap.size + 1) 53 [.slice ia its.length ic, .slice na s5.adv.adv.nd.length nc, .int .i64 (-1), .slice none (([] : List Int)).length 0, .int .i64 li]) := hE.out.stored 1 (.slice na s5.adv.adv.nd.length nc)
            replace hI := hide (hI.out.kept hgE.out (Nat.lt_succ_self _))
            replace hG := hide (hG.out.kept hgE.out (Nat.lt_succ_self _))
            have hb9 : Hid (Blk ((wl4.setCell ⟨w1.heap.size, 1, none⟩ (.int .i64 ((s5.adv.pos : Int) + 1))).setCell ⟨(w1.heap.size + 1), 1, none⟩ (.slice na s5.adv.adv.nd.length nc)) w.heap.size 53 qz) := hP.out.blk
            have ex9 : Hid (Ext w ((wl4.setCell ⟨w1.heap.size, 1, none⟩ (.int .i64 ((s5.adv.pos : Int) + 1))).setCell ⟨(w1.heap.size + 1), 1, none⟩ (.slice na s5.adv.adv.nd.length nc))) := hP.out.ex
            have hl9 := hlow.out
            clear hP hE hs hN
            go_wp2_with (refine wpList_storeB (vs := [.slice ia its.length ic, .slice na s5.adv.adv.nd.length nc, .int .i64 (-1), .slice none (([] : List Int)).length 0, .int .i64 li]) rfl rfl (by rfl) (by rfl) hb9.out size_query rfl (by simp [Value.oneCell']) ?_; intro w99 hb99 hgr99; replace hgr99 := hide hgr99; replace hb99 := hide hb99)
            refine bodyPost_ret (results_cell2 rfl (by rfl) hb99.out Yabn.underlying53 size_query) rfl ?_
            exact ⟨ex9.out.setNew hgr99.out, .inr ⟨_, ia, na, none, ic, nc, 0, hz.out, rfl, (hI.out.kept hgr99.out (by omega)).mono (by omega), (OwnV.kept hN9.out hgr99.out (by omega)).mono (by omega), (hG.out.kept hgr99.out (by omega)).mono (by omega), hL.out.1, hL.out.2.1, hL.out.2.2.1, hL.out.2.2.2⟩⟩
          · have h65' : (k6 == 5) = false := by simpa using h65
            have hq5 : Hid (Pq x (q5 ts its (-1) ([] : List Int) (-1) s5)) := by have := hq4.out; rw [q4_no (by rw [hk6.out]; exact h65)] at this; exact this
            clear hq4
            have hpe : Hid (((s5.pos : Nat) : Int) = (s5.pos : Int)) := rfl
            try have k4 := hP.out.prs.c4
            have k1' := hP.out.prs.c1
            by_cases hend : ¬ s5.pos = ts.length
            · have hne : ((s5.pos : Int) != (ts.length : Int)) = true := by simp only [bne_iff_ne, ne_eq]; have h0 := hpe.out; omega
              have hz : Hid (Pq x none) := by have := hq5.out; unfold q5 at this; rw [if_neg hend] at this; exact this
              have hb9 : Hid (Blk wl1 w.heap.size 53 qz) := hP.out.blk
              have ex9 : Hid (Ext w wl1) := hP.out.ex
              clear hP
              go_wp2_with (refine wpList_storeB (vs := qz) rfl rfl (by rfl) (by rfl) hb9.out size_query rfl qz_one ?_; intro w99 hb99 hgr99; replace hgr99 := hide hgr99; replace hb99 := hide hb99)
              refine bodyPost_ret (results_cell2 rfl (by rfl) hb99.out Yabn.underlying53 size_query) rfl ?_
              exact ⟨ex9.out.setNew hgr99.out, .inl ⟨hz.out, rfl⟩⟩
            have hend : s5.pos = ts.length := Classical.byContradiction hend
            have hne : ((s5.pos : Int) != (ts.length : Int)) = false := by simp only [bne_eq_false_iff_eq]; have h0 := hpe.out; omega
            have hz : Hid (Pq x (some ⟨its, s5.nd, (-1), ([] : List Int), (-1)⟩)) := by have := hq5.out; unfold q5 at this; rw [if_pos hend] at this; exact this
            replace hend := hide hend
            obtain ⟨na, nc, hvn, _⟩ := hP.out.prs.nodes.form
            have k2 := hP.out.prs.c2
            rw [hvn] at k2
            try have l2 := l2e.out na nc hvn
            have hN : Hid (OwnN wl1 (w1.heap.size + 1) 98 (.slice na s5.nd.length nc) s5.nd) := by have := hP.out.prs.nodes; rw [hvn] at this; exact this
            have hsN : Hid (∀ q, (Value.slice na s5.nd.length nc).ownBlock = some q → q ≠ (w1.heap.size + 1)) := fun q hq hh => hs.out.v (by rw [hvn, hq, hh])
            replace hvn := hide hvn
            have hL : Hid (its.length ≤ 65536 ∧ s5.nd.length ≤ 65536 ∧ (([] : List Int)).length ≤ 65536 ∧ 1 ≤ its.length) := by
              have h1 := hla.out
              have h2 := hlg.out
              have h3 := hP.out.prs.ndl
              have h4 := hP.out.prs.le
              have h5 := hP.out.prs.len
              exact ⟨by omega, by omega, by omega, by omega⟩
            have e0 := hE.out.box 0 _ rfl
            have e1 := hE.out.box 1 _ rfl
            have e2 := hE.out.box 2 _ rfl
            have e3 := hE.out.box 3 _ rfl
            have e4 := hE.out.box 4 _ rfl
            have fE := hE.out.frozen 1
            have hlow : Hid (w.heap.size < w1.heap.size) := hP.out.low
            have hN9 : Hid (OwnN (wl1.setCell ⟨(w1.heap.size + 1), 1, none⟩ (.slice na s5.nd.length nc)) (w1.heap.size + 1) 98 (.slice na s5.nd.length nc) s5.nd) := hN.out.butS (But.of_grown (S := fun q => q = (w1.heap.size + 1)) (grown_setCell _ ⟨(w1.heap.size + 1), 1, none⟩ _) (fun q hq => by cases hq; rfl)) (fun q hq => hsN.out q hq)
            have hgE : Hid (wl1.grownBy (wl1.setCell ⟨(w1.heap.size + 1), 1, none⟩ (.slice na s5.nd.length nc)) (some (w1.heap.size + 1))) := grown_setCell _ ⟨(w1.heap.size + 1), 1, none⟩ _
            replace hP := hide (hP.out.set hs.out hgE.out)
            replace hE : Hid (Blk (wl1.setCell ⟨(w1.heap.size + 1), 1, none⟩ (.slice na s5.nd.length nc)) (w1.heap.size + 1) 53 [.slice ia its.length ic, .slice na s5.nd.length nc, .int .i64 (-1), .slice none (([] : List Int)).length 0, .int .i64 (-1)]) := hE.out.stored 1 (.slice na s5.nd.length nc)
            replace hI := hide (hI.out.kept hgE.out (Nat.lt_succ_self _))
            replace hG := hide (hG.out.kept hgE.out (Nat.lt_succ_self _))
            have hb9 : Hid (Blk (wl1.setCell ⟨(w1.heap.size + 1), 1, none⟩ (.slice na s5.nd.length nc)) w.heap.size 53 qz) := hP.out.blk
            have ex9 : Hid (Ext w (wl1.setCell ⟨(w1.heap.size + 1), 1, none⟩ (.slice na s5.nd.length nc))) := hP.out.ex
            have hl9 := hlow.out
            clear hP hE hs hN
            go_wp2_with (refine wpList_storeB (vs := [.slice ia its.length ic, .slice na s5.nd.length nc, .int .i64 (-1), .slice none (([] : List Int)).length 0, .int .i64 (-1)]) rfl rfl (by rfl) (by rfl) hb9.out size_query rfl (by simp [Value.oneCell']) ?_; intro w99 hb99 hgr99; replace hgr99 := hide hgr99; replace hb99 := hide hb99)
            refine bodyPost_ret (results_cell2 rfl (by rfl) hb99.out Yabn.underlying53 size_query) rfl ?_
            exact ⟨ex9.out.setNew hgr99.out, .inr ⟨_, ia, na, none, ic, nc, 0, hz.out, rfl, (hI.out.kept hgr99.out (by omega)).mono (by omega), (OwnV.kept hN9.out hgr99.out (by omega)).mono (by omega), (hG.out.kept hgr99.out (by omega)).mono (by omega), hL.out.1, hL.out.2.1, hL.out.2.2.1, hL.out.2.2.2⟩⟩
end Go.Proofs.YbyabwGreat
