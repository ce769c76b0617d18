/- Walk: spec.DepthText -/
import Derived.Test.YbyaawDep1
namespace Go.Proofs.Ybyaaw
open Go.RowKit
set_option maxRecDepth 100000
set_option linter.unusedVariables false
set_option linter.unusedSimpArgs false

theorem results_tmp4 {fn : Func} {t u v x : Tmp} (h : fn.results = #[.tmp t, .tmp u, .tmp v, .tmp x]) (tmps : Array Value) (P : Program) (w : World) :
    (results fn tmps).run P w = .ok (.tuple #[tmps.getD t undef, tmps.getD u undef, tmps.getD v undef, tmps.getD x undef]) w := by
  simp [results, h]
theorem OwnB.formN {w : World} {base : Nat} {v : Value} {l : List UInt8} (h : OwnB w base v l) (n : Nat) (hn : l.length = n) : ∃ a cap, v = .slice a n cap := by
  obtain ⟨a, cap, e, _⟩ := h.form
  exact ⟨a, cap, by rw [e, hn]⟩
theorem apart_loc {w : World} {v v' u : Value} (ha : Apart v u) (hloc : ∀ q, v'.ownBlock = some q → v.ownBlock = some q ∨ q = w.heap.size) (hu : ∀ q, u.ownBlock = some q → q < w.heap.size) : Apart v' u := by
  cases hv : v'.ownBlock with
  | none => exact .inl hv
  | some q =>
    refine .inr (fun hh => ?_)
    rw [hv] at hh
    have h1 := hu q hh.symm
    rcases hloc q hv with h2 | h2
    · rcases ha with h3 | h3
      · rw [h3] at h2; cases h2
      · exact h3 (h2.trans hh)
    · omega
set_option maxHeartbeats 16000000 in
theorem DepthText (n : Nat) (hn : n ≤ 65535) (zs : List Int) (a : Option Addr) (c : Nat) (w : World) (h : Hid (BytesAt w a zs)) (hzl : zs.length ≤ 1048576) :
    Calls Yaan.prog 24 #[.int .i64 n, .slice a zs.length c] w (RetD n w) := by
  have ha : Hid (0 < zs.length → ∀ p, a = some p → p.block < w.heap.size) := fun h0 p hp => by
    obtain ⟨b, off, e, hc, _⟩ := h.out 0 h0
    rw [hp] at e
    cases e
    exact cell_lt hc
  have hg : Hid (GenAt ((w.alloc (.cells #[.slice a zs.length c, .int .i64 0] 101)).alloc (.cells #[.pointer (some ⟨w.heap.size, 0, none⟩), .slice none 0 0] 129)) (w.heap.size + 1) w.heap.size a c zs 0 (.slice none 0 0) []) := by
    refine ⟨?_, ⟨(Blk.new w _ _).alloc _, Nat.zero_le _, hzl, (h.out.ext ((Ext.refl w).alloc _)).ext ((Ext.refl _).alloc _), fun h0 p hp => by have := ha.out h0 p hp; omega⟩, OwnB.nil _ _, Nat.lt_succ_self _, ha.out⟩
    have := Blk.new (w.alloc (.cells #[.slice a zs.length c, .int .i64 0] 101)) #[.pointer (some ⟨w.heap.size, 0, none⟩), .slice none 0 0] 129
    simpa using this
  have hx0 : Hid (Ext w ((w.alloc (.cells #[.slice a zs.length c, .int .i64 0] 101)).alloc (.cells #[.pointer (some ⟨w.heap.size, 0, none⟩), .slice none 0 0] 129))) := ((Ext.refl w).alloc _).alloc _
  clear ha h
  go_enter Yaan.func24, Yaan.ntmps24
  go_wp2_with fail
  generalize ((w.alloc (.cells #[.slice a zs.length c, .int .i64 0] 101)).alloc (.cells #[.pointer (some ⟨w.heap.size, 0, none⟩), .slice none 0 0] 129)) = X at *
  refine (gen_leaf (w.heap.size + 1) w.heap.size a c zs 0 (.slice none 0 0) [] X hg (by simp)).mono ?_
  rintro e w1 ⟨rfl, p1, v1, l1, ⟨hp1, t0, ht0, ht1, rfl⟩, hgq, fq⟩
  have hI0 : Hid (∃ (p : Nat) (v : Value) (ps : List ((Int × Int) × (Int × Int))), FlatC t0 ps ∧ (render (chainT t0 ps)).length ≤ 64 * p + 64 ∧ GenAt w1 (w.heap.size + 1) w.heap.size a c zs p v (render (chainT t0 ps)) ∧ FrG w.heap.size X w1) :=
    ⟨p1, v1, [], ⟨⟨ht0, ht1⟩, fun p hp => by cases hp⟩, by have := ttext_len t0 ht0; show (render [t0]).length ≤ _; rw [render_one]; omega, by show GenAt w1 _ _ a c zs p1 v1 (render [t0]); rw [render_one]; exact hgq, fq⟩
  clear hgq fq hg ht0 ht1 hp1
  go_wp2
  go_loopw [] (fun wr => Hid (∃ (p : Nat) (v : Value) (ps : List ((Int × Int) × (Int × Int))), FlatC t0 ps ∧ (render (chainT t0 ps)).length ≤ 64 * p + 64 ∧ GenAt wr (w.heap.size + 1) w.heap.size a c zs p v (render (chainT t0 ps)) ∧ FrG w.heap.size X wr)) (fun wr => zs.length - posOf wr w.heap.size)
  case atStart => exact hI0
  clear hI0
  obtain ⟨p4, v4, ps, hfl, hl4, hg, hf⟩ := hrel.out
  have hpW := hide hg.src.posOf
  replace hg := hide hg
  replace hf := hide hf
  replace hfl := hide hfl
  have hps4 := hg.out.small
  clear hrel
  have k0 := hg.out.c0
  go_wp2_with fail
  clear k0
  refine (src_left w.heap.size a c zs p4 wr hg.out.src).mono ?_
  rintro e w5 ⟨b, rfl, hb, x5⟩
  replace hg := hide (hg.out.ext x5)
  replace hf : Hid (FrG w.heap.size X w5) := hf.out.trans (But.of_ext x5)
  clear x5
  cases b with
  | true =>
    have hlt : p4 < zs.length := hb.1 rfl
    clear hb
    have k0 := hg.out.c0
    go_wp2_with fail
    clear k0
    refine (src_next w.heap.size a c zs p4 w5 hg.out.src).mono ?_
    rintro e w6 ⟨u, p6, rfl, u0, u1, s2, hnp, hnq, b2⟩
    have hp6 := hnq hlt
    have hgn := hide (hg.out.next b2 s2)
    replace hf : Hid (FrG w.heap.size X w6) := hf.out.trans (FrG.of_S b2)
    clear hg
    have hg := hgn
    clear b2 s2 hgn hnp hnq
    by_cases hu3 : u % 3 = 0
    · have k0 := hg.out.c0
      go_wp2_with fail
      clear k0
      refine (src_next w.heap.size a c zs p6 w6 hg.out.src).mono ?_
      rintro e w7 ⟨y, p7, rfl, y0, y1, s2, hnp, hnq, b2⟩
      have hgn := hide (hg.out.next b2 s2)
      replace hf : Hid (FrG w.heap.size X w7) := hf.out.trans (FrG.of_S b2)
      clear hg
      have hg := hgn
      clear b2 s2 hgn hnq
      have hk1 : 4 ≤ 4 + y % 3 := by omega
      have hk2 : 4 + y % 3 ≤ 6 := by omega
      obtain ⟨k, hk⟩ : ∃ k, 4 + y % 3 = k := ⟨_, rfl⟩
      rw [hk] at hk1 hk2
      go_wp2_with fail
      refine (opText k hk1 (by omega) w7).mono ?_
      rintro e w8 ⟨rfl, x8⟩
      replace hg := hide (hg.out.ext x8)
      replace hf : Hid (FrG w.heap.size X w8) := hf.out.trans (But.of_ext x8)
      obtain ⟨o, ho, hot⟩ := op3_of k hk1 hk2
      have hol := opT_len k hk1 (by omega)
      replace ho := hide ho
      replace hot := hide hot
      clear x8 hk
      obtain ⟨ot, hoe⟩ : ∃ ot, opT k = ot := ⟨_, rfl⟩
      rw [hoe] at hol
      have hps7 := hg.out.small
      have hcat1 : (({ data := #[32] } : ByteArray) ++ tx ot) = tx (32 :: ot) := tx_append [32] ot
      have hcat2 : (tx (32 :: ot) ++ ({ data := #[32] } : ByteArray)) = tx (32 :: (ot ++ [32])) := tx_append (32 :: ot) [32]
      have hz1 : ¬ 9223372036854775807 < 1 + (tx ot).size := by rw [tx_size]; omega
      have hz2 : ¬ 9223372036854775807 < (tx (32 :: ot)).size + 1 := by rw [tx_size]; simp only [List.length_cons]; omega
      go_wp2_with fail
      refine (gen_str (w.heap.size + 1) w.heap.size a c zs p7 v4 (render (chainT t0 ps)) (32 :: (ot ++ [32])) w8 hg (by simp only [List.length_append, List.length_cons, List.length_nil]; omega)).mono ?_
      rintro e w9 ⟨rfl, pq, v9, lq, ⟨hpq, rfl⟩, hgq, fq⟩
      rw [hpq] at hgq
      replace hg := hide hgq
      replace hf := hide (hf.out.trans fq)
      clear hgq fq hpq hcat1 hcat2 hz1 hz2
      go_wp2_with fail
      refine (gen_leaf (w.heap.size + 1) w.heap.size a c zs p7 v9 (render (chainT t0 ps) ++ (32 :: (ot ++ [32]))) w9 hg (by simp only [List.length_append, List.length_cons, List.length_nil]; omega)).mono ?_
      rintro e wa ⟨rfl, pa, va, la, ⟨hpa, tk, htk, htl, rfl⟩, hgq, fq⟩
      have htt := ttext_len tk htk
      have hre : Hid (render (chainT t0 (ps ++ [(o, tk)])) = render (chainT t0 ps) ++ (32 :: (ot ++ [32])) ++ ttext tk) := by
        rw [render_chain, ← hot.out, hoe]; rfl
      have hI1 : Hid (∃ (p : Nat) (v : Value) (ps : List ((Int × Int) × (Int × Int))), FlatC t0 ps ∧ (render (chainT t0 ps)).length ≤ 64 * p + 64 ∧ GenAt wa (w.heap.size + 1) w.heap.size a c zs p v (render (chainT t0 ps)) ∧ FrG w.heap.size X wa) := by
        refine ⟨pa, va, ps ++ [(o, tk)], ⟨hfl.out.1, fun q hq => ?_⟩, ?_, by rw [hre.out]; exact hgq, hf.out.trans fq⟩
        · rcases List.mem_append.1 hq with hq | hq
          · exact hfl.out.2 q hq
          · simp at hq; subst hq; exact ⟨ho.out, htk, htl⟩
        · rw [hre.out]
          simp only [List.length_append, List.length_cons, List.length_nil]
          omega
      have hpN := hide hgq.src.posOf
      have hle := hide hgq.src.le
      clear hgq fq hg hf hoe hot ho htt htk htl
      go_wp2
      go_roundw
      case rel => exact hI1.out
      case measure =>
        have h6 := hle.out
        rw [hpN.out, hpW.out]
        omega
    · have hu3' : (u % 3 == 0) = false := by simpa using hu3
      clear hpW
      obtain ⟨pv, cv, rfl, _⟩ := hg.out.out.form
      have hcv := conv_any hg.out.out
      have k1 := hg.out.c1
      have fz := hg.out.g.frozen 1
      obtain ⟨bt, hbt⟩ : ∃ bt, Hid (render (chainT t0 ps) = bt) := ⟨_, rfl⟩
      rw [hbt.out] at hcv k1 hl4
      have hg2 := hide hg.out.reset
      have hf2 : Hid (FrG w.heap.size X (w6.setCell ⟨w.heap.size + 1, 1, none⟩ (.slice none 0 0))) := hf.out.trans (But.of_grown (grown_setCell _ ⟨w.heap.size + 1, 1, none⟩ _) (fun q hq => by cases hq; exact Nat.le_succ _))
      clear hg hf
      have hg := hg2
      have hf := hf2
      clear hg2 hf2
      go_wp2_with fail
      obtain ⟨W2, hW2⟩ : ∃ W2, w6.setCell ⟨w.heap.size + 1, 1, none⟩ (.slice none 0 0) = W2 := ⟨_, rfl⟩
      rw [hW2] at hg hf
      rw [hW2]
      clear k1 fz hcv hW2
      refine (gen_tail true (w.heap.size + 1) w.heap.size a c zs p6 (.slice none 0 0) [] W2 hg (by simp)).mono ?_
      rintro e w7 ⟨rfl, p7, v7, m, hpm, hsp, hlm, hgq, fq⟩
      obtain ⟨pm, cm, rfl, _⟩ := hgq.out.form
      have hcv := conv_any hgq.out
      have k1 := hgq.c1
      have hps7 := hgq.small
      rw [List.nil_append] at hcv k1
      have hX7 : Hid (Ext w w7) := by
        have h1 := hf.out.trans fq
        have h2 := hx0.out.size
        exact Below.trans hx0.out (h1.below (fun k hk => hk) h2)
      replace hsp := hide hsp
      clear hgq fq hg hf hpm
      go_wp2
      go_loopw [11, 12, 13, 14, 15] (fun vp vq ng nt ii wr => ∃ (k g t : Nat), ii = .int .i64 k ∧ k ≤ n ∧ ng = .int .i64 g ∧ nt = .int .i64 t ∧ Hid (g = (k + 1) / 3 ∧ t = k / 3) ∧ Hid (OwnB wr w.heap.size vp (wpre k)) ∧ Hid (OwnB wr w.heap.size vq (List.replicate ((k + 2) / 3) 41)) ∧ Hid (Apart vp vq) ∧ Hid (Ext w wr)) (fun _ _ _ _ ii _ => n - (intOf ii).toNat)
      case atStart => exact ⟨0, 0, 0, rfl, Nat.zero_le _, rfl, rfl, ⟨rfl, rfl⟩, OwnB.nil _ _, OwnB.nil _ _, apart_nil _ _ _, hX7⟩
      obtain ⟨k, g, t, rfl, hk, rfl, rfl, hgt, hOp, hOq, hap, hext⟩ := hrel
      have hgb : g ≤ 65536 ∧ t ≤ 65536 := by have := hgt.out; omega
      have hwl := wpre_len k
      by_cases hkn : k < n
      · have hkn' : (k : Int) < n := by omega
        have hlp : Hid ((wpre k).length < 2 ^ 39) := by show (wpre k).length < 2 ^ 39; omega
        have hm3 : k % 3 = 0 ∨ k % 3 = 1 ∨ k % 3 = 2 := by omega
        rcases hm3 with e3 | e3 | e3
        · have e3' : (k : Int) % 3 = 0 := by omega
          have hw0 := hide (wpre_0 k e3)
          replace e3 := hide e3
          have hlq : Hid ((List.replicate ((k + 2) / 3) (41 : UInt8)).length < 2 ^ 39) := by show _ < _; rw [List.length_replicate]; omega
          have hsz8 : Hid (w.heap.size ≤ wr.heap.size) := hext.out.size
          have hOq1 := hide (hOq.out.alloc (.cells #[.int .u8 40] 5))
          go_wp2_with (first
            | (at_builtin; refine app_byteL rfl rfl w.heap.size (by have := hsz8.out; simp; omega) u11 (wpre k) 40 40 rfl rfl (OwnB.alloc hOp.out _) wr.heap.size 1 (by rfl) (heap_alloc_new wr _) hlp.out ?_; intro vA wA OA hgrA hlocA; have hOqA := hide (hOq1.out.but hgrA hap.out.symm); have hextA : Hid (Ext w wA) := (hext.out.alloc (.cells #[.int .u8 40] 5)).grown hgrA (fun q hq => hOp.out.block q hq); have hapA : Hid (Apart vA u12) := apart_loc hap.out hlocA (fun q hq => by have := hOq.out.lt q hq; simp; omega); replace OA := hide OA; clear hgrA hlocA)
            | (at_builtin; refine app_byteL rfl rfl w.heap.size (by have := hextA.out.size; simp; omega) u12 (List.replicate ((k + 2) / 3) 41) 41 41 rfl rfl (OwnB.alloc hOqA.out _) wA.heap.size 1 (by rfl) (heap_alloc_new wA _) hlq.out ?_; intro vB wB OB hgrB hlocB; have hOpB := hide ((OA.out.alloc (.cells #[.int .u8 41] 5)).but hgrB hapA.out); have hextB : Hid (Ext w wB) := (hextA.out.alloc (.cells #[.int .u8 41] 5)).grown hgrB (fun q hq => hOqA.out.block q hq); have hapB : Hid (Apart vB vA) := apart_loc hapA.out.symm hlocB (fun q hq => by have := OA.out.lt q hq; simp; omega); replace OB := hide OB; clear hgrB hlocB))
          have hrp : Hid (List.replicate ((k + 1 + 2) / 3) (41 : UInt8) = List.replicate ((k + 2) / 3) 41 ++ [41]) := by
            have h3 := e3.out
            rw [show (k + 1 + 2) / 3 = (k + 2) / 3 + 1 by omega, List.replicate_succ']
            rfl
          go_roundw
          case rel => exact ⟨k + 1, g, t, by go_num, by omega, rfl, rfl, by have h3 := e3.out; have := hgt.out; exact ⟨by omega, by omega⟩, hOpB.out.congr hw0.out.symm, OB.out.congr hrp.out.symm, hapB.out.symm, hextB.out⟩
          case measure => simp [intOf]; omega
        · have e3' : (k : Int) % 3 = 1 := by omega
          have hw0 := hide (wpre_1 k e3)
          replace e3 := hide e3
          have hsz8 : Hid (w.heap.size ≤ wr.heap.size) := hext.out.size
          have hOq1 := hide (hOq.out.alloc (.cells #[.int .u8 45] 5))
          go_wp2_with (at_builtin; refine app_byteL rfl rfl w.heap.size (by have := hsz8.out; simp; omega) u11 (wpre k) 45 45 rfl rfl (OwnB.alloc hOp.out _) wr.heap.size 1 (by rfl) (heap_alloc_new wr _) hlp.out ?_; intro vA wA OA hgrA hlocA; have hOqA := hide (hOq1.out.but hgrA hap.out.symm); have hextA : Hid (Ext w wA) := (hext.out.alloc (.cells #[.int .u8 45] 5)).grown hgrA (fun q hq => hOp.out.block q hq); have hapA : Hid (Apart vA u12) := apart_loc hap.out hlocA (fun q hq => by have := hOq.out.lt q hq; simp; omega); replace OA := hide OA; clear hgrA hlocA)
          have hrp : Hid ((k + 2) / 3 = (k + 1 + 2) / 3) := by have h3 := e3.out; show _ = _; omega
          go_roundw
          case rel => exact ⟨k + 1, g + 1, t, by go_num, by omega, by go_num, rfl, by have h3 := e3.out; have := hgt.out; exact ⟨by omega, by omega⟩, OA.out.congr hw0.out.symm, by rw [← hrp.out]; exact hOqA.out, hapA.out, hextA.out⟩
          case measure => simp [intOf]; omega
        · have e3' : (k : Int) % 3 = 2 := by omega
          have hw0 := hide (wpre_2 k e3)
          replace e3 := hide e3
          have hsz8 : Hid (w.heap.size ≤ wr.heap.size) := hext.out.size
          have hlp2 : Hid ((wpre k).length + [84, 79, 78, 32].length < 2 ^ 40) := by show _ < _; simp only [List.length_cons, List.length_nil]; omega
          go_wp2_with (at_builtin; refine app_str rfl rfl w.heap.size hsz8.out u11 (wpre k) [84, 79, 78, 32] rfl hOp.out rfl hlp2.out ?_; intro vA wA OA hgrA; have hOqA := hide (hOq.out.but hgrA hap.out.symm); have hextA : Hid (Ext w wA) := hext.out.grown hgrA (fun q hq => hOp.out.block q hq); replace OA := hide OA; clear hgrA)
          have hapA : Hid (Apart vA u12) := by
            have h3 := e3.out
            refine OA.out.apart hOqA.out 40 41 ?_ ?_ (by decide)
            · rw [← hw0.out]; exact wpre_head (k + 1) (by omega)
            · rw [show (k + 2) / 3 = (k + 2) / 3 - 1 + 1 by omega, List.replicate_succ]; rfl
          have hrp : Hid ((k + 2) / 3 = (k + 1 + 2) / 3) := by have h3 := e3.out; show _ = _; omega
          go_roundw
          case rel => exact ⟨k + 1, g, t + 1, by go_num, by omega, rfl, by go_num, by have h3 := e3.out; have := hgt.out; exact ⟨by omega, by omega⟩, OA.out.congr hw0.out.symm, by rw [← hrp.out]; exact hOqA.out, hapA.out, hextA.out⟩
          case measure => simp [intOf]; omega
      · obtain rfl : k = n := by omega
        clear hk hkn
        obtain ⟨pa, ca, rfl, hfa⟩ := hOp.out.form
        obtain ⟨pq, cq, rfl⟩ := hOq.out.formN ((k + 2) / 3) List.length_replicate
        clear hfa
        go_wp2
        go_loopw [16, 17] (fun vf ii wr => ∃ r : Nat, ii = .int .i64 ((r : Int) - 1) ∧ r ≤ (wpre k).length ∧ Hid (OwnB wr w.heap.size vf ((wpre k).drop r).reverse) ∧ Hid (OwnB wr w.heap.size (.slice pa (wpre k).length ca) (wpre k)) ∧ Hid (OwnB wr w.heap.size (.slice pq ((k + 2) / 3) cq) (List.replicate ((k + 2) / 3) 41)) ∧ Hid (Apart vf (.slice pa (wpre k).length ca)) ∧ Hid (Apart vf (.slice pq ((k + 2) / 3) cq)) ∧ Hid (Ext w wr)) (fun _ ii _ => (intOf ii + 1).toNat)
        case atStart => exact ⟨(wpre k).length, rfl, Nat.le_refl _, by rw [List.drop_length]; exact OwnB.nil _ _, hOp, hOq, apart_nil _ _ _, apart_nil _ _ _, hext⟩
        clear hOp hOq hap hext
        obtain ⟨r, rfl, hr, hOf, hOp, hOq, hapf, hapg, hext⟩ := hrel
        by_cases hr0 : r = 0
        · subst hr0
          rw [List.drop_zero] at hOf
          obtain ⟨pf, cf, rfl⟩ := hOf.out.formN (wpre k).length List.length_reverse
          have hcf := conv_any (l := (wpre k).reverse) (a := pf) (cap := cf) (w := wr) (base := w.heap.size) (by rw [List.length_reverse]; exact hOf.out)
          have hcp := conv_any (l := List.replicate ((k + 2) / 3) (41 : UInt8)) (a := pq) (cap := cq) (w := wr) (base := w.heap.size) (by rw [List.length_replicate]; exact hOq.out)
          rw [List.length_reverse] at hcf
          rw [List.length_replicate] at hcp
          obtain ⟨F, hF⟩ : ∃ F, Hid ((wpre k).reverse = F) := ⟨_, rfl⟩
          rw [hF.out] at hcf
          obtain ⟨P, hP⟩ : ∃ P, Hid (List.replicate ((k + 2) / 3) (41 : UInt8) = P) := ⟨_, rfl⟩
          rw [hP.out] at hcp
          have zF : (tx F).size ≤ 262140 := by rw [tx_size, ← hF.out, List.length_reverse]; omega
          have zP : (tx P).size ≤ 65537 := by rw [tx_size, ← hP.out, List.length_replicate]; omega
          have zB : (tx bt).size ≤ 67108928 := by rw [tx_size]; omega
          have zM : (tx m).size ≤ 67109064 := by rw [tx_size]; omega
          obtain ⟨s1, c1⟩ : ∃ s, (({ data := #[83, 69, 76, 69, 67, 84, 32] } : ByteArray) ++ tx F) = s := ⟨_, rfl⟩
          obtain ⟨s2, c2⟩ : ∃ s, s1 ++ tx bt = s := ⟨_, rfl⟩
          obtain ⟨s3, c3⟩ : ∃ s, s2 ++ tx P = s := ⟨_, rfl⟩
          obtain ⟨s4, c4⟩ : ∃ s, s3 ++ tx m = s := ⟨_, rfl⟩
          obtain ⟨e1, d1⟩ : ∃ s, (({ data := #[83, 69, 76, 69, 67, 84, 32] } : ByteArray) ++ tx bt) = s := ⟨_, rfl⟩
          obtain ⟨e2, d2⟩ : ∃ s, e1 ++ tx m = s := ⟨_, rfl⟩
          have t1 : s1 = tx (sel ++ F) := by rw [← c1]; exact tx_append sel F
          have t2 : s2 = tx (sel ++ F ++ bt) := by rw [← c2, t1]; exact tx_append _ _
          have t3 : s3 = tx (sel ++ F ++ bt ++ P) := by rw [← c3, t2]; exact tx_append _ _
          have t4 : Hid (s4 = tx (sel ++ F ++ bt ++ P ++ m)) := by rw [← c4, t3]; exact tx_append _ _
          have q1 : e1 = tx (sel ++ bt) := by rw [← d1]; exact tx_append sel bt
          have q2 : Hid (e2 = tx (sel ++ bt ++ m)) := by rw [← d2, q1]; exact tx_append _ _
          have y1 : s1.size = 7 + (tx F).size := by rw [t1, tx_size, tx_size]; simp [sel]; omega
          have y2 : s2.size = 7 + (tx F).size + (tx bt).size := by rw [t2, tx_size, tx_size, tx_size]; simp [sel]; omega
          have y3 : s3.size = 7 + (tx F).size + (tx bt).size + (tx P).size := by rw [t3, tx_size, tx_size, tx_size, tx_size]; simp [sel]; omega
          have y4 : e1.size = 7 + (tx bt).size := by rw [q1, tx_size, tx_size]; simp [sel]; omega
          have z1 : ¬ 9223372036854775807 < 7 + (tx F).size := by omega
          have z2 : ¬ 9223372036854775807 < s1.size + (tx bt).size := by omega
          have z3 : ¬ 9223372036854775807 < s2.size + (tx P).size := by omega
          have z4 : ¬ 9223372036854775807 < s3.size + (tx m).size := by omega
          have z5 : ¬ 9223372036854775807 < 7 + (tx bt).size := by omega
          have z6 : ¬ 9223372036854775807 < e1.size + (tx m).size := by omega
          clear t1 t2 t3 q1 y1 y2 y3 y4 zF zP zB zM hr
          go_wp2
          refine bodyPost_ret (results_tmp4 rfl _ _ _) rfl ?_
          refine ⟨t0, ps, m, hfl.out, hsp.out, hext.out, ?_⟩
          have h1 := hgt.out.1
          have h2 := hgt.out.2
          rw [hF.out, hbt.out, hP.out, ← t4.out, ← q2.out, ← h1, ← h2]
          rfl
        · obtain ⟨q, rfl⟩ : ∃ q, r = q + 1 := ⟨r - 1, by omega⟩
          clear hr0
          obtain ⟨pg, hpg⟩ : ∃ g, pa = some ⟨g, 0, none⟩ := by
            obtain ⟨a', c', e', h'⟩ := hOp.out.form
            injection e' with e1 _ _
            rcases h' with ⟨_, _, h0⟩ | ⟨g, h1⟩
            · rw [h0] at hr; simp at hr
            · exact ⟨g, e1.trans h1⟩
          subst hpg
          have hc := hOp.out.cell q (by omega)
          have hdr : Hid (((wpre k).drop q).reverse = ((wpre k).drop (q + 1)).reverse ++ [(wpre k)[q]]) := by
            rw [List.drop_eq_getElem_cons (by omega)]; simp [Hid]
          obtain ⟨yb, hyb⟩ : ∃ y, (wpre k)[q] = y := ⟨_, rfl⟩
          rw [hyb] at hc hdr
          replace hyb := hide hyb
          have hq1 : (q : Int) < (wpre k).length := by omega
          have hq2 : 0 ≤ (q : Int) := by omega
          have hlf : Hid ((((wpre k).drop (q + 1)).reverse).length < 2 ^ 39) := by show _ < _; simp; omega
          have hsz8 : Hid (w.heap.size ≤ wr.heap.size) := hext.out.size
          go_wp2_with (at_builtin; refine app_byteL rfl rfl w.heap.size (by have := hsz8.out; simp; omega) u16 (((wpre k).drop (q + 1)).reverse) yb (yb.toNat : Int) rfl rfl (OwnB.alloc hOf.out _) wr.heap.size 1 (by rfl) (heap_alloc_new wr _) hlf.out ?_; intro vA wA OA hgrA hlocA; have hOpA := hide ((hOp.out.alloc (.cells #[.int .u8 (yb.toNat : Int)] 5)).but hgrA hapf.out.symm); have hOqA := hide ((hOq.out.alloc (.cells #[.int .u8 (yb.toNat : Int)] 5)).but hgrA hapg.out.symm); have hextA : Hid (Ext w wA) := (hext.out.alloc (.cells #[.int .u8 (yb.toNat : Int)] 5)).grown hgrA (fun q hq => hOf.out.block q hq); have hapfA : Hid (Apart vA (.slice (some ⟨pg, 0, none⟩) (wpre k).length ca)) := apart_loc hapf.out hlocA (fun q hq => by have := hOp.out.lt q hq; simp; omega); have hapgA : Hid (Apart vA (.slice pq ((k + 2) / 3) cq)) := apart_loc hapg.out hlocA (fun q hq => by have := hOq.out.lt q hq; simp; omega); replace OA := hide OA; clear hgrA hlocA)
          go_roundw
          case rel => exact ⟨q, by go_num, by omega, OA.out.congr hdr.out.symm, hOpA.out, hOqA.out, hapfA.out, hapgA.out, hextA.out⟩
          case measure => simp [intOf]
  | false =>
    clear hb hpW
    obtain ⟨pv, cv, rfl, _⟩ := hg.out.out.form
    have hcv := conv_any hg.out.out
    have k1 := hg.out.c1
    have fz := hg.out.g.frozen 1
    obtain ⟨bt, hbt⟩ : ∃ bt, Hid (render (chainT t0 ps) = bt) := ⟨_, rfl⟩
    rw [hbt.out] at hcv k1 hl4
    have hg2 := hide hg.out.reset
    have hf2 : Hid (FrG w.heap.size X (w5.setCell ⟨w.heap.size + 1, 1, none⟩ (.slice none 0 0))) := hf.out.trans (But.of_grown (grown_setCell _ ⟨w.heap.size + 1, 1, none⟩ _) (fun q hq => by cases hq; exact Nat.le_succ _))
    clear hg hf
    have hg := hg2
    have hf := hf2
    clear hg2 hf2
    go_wp2_with fail
    obtain ⟨W2, hW2⟩ : ∃ W2, w5.setCell ⟨w.heap.size + 1, 1, none⟩ (.slice none 0 0) = W2 := ⟨_, rfl⟩
    rw [hW2] at hg hf
    rw [hW2]
    clear k1 fz hcv hW2
    refine (gen_tail true (w.heap.size + 1) w.heap.size a c zs p4 (.slice none 0 0) [] W2 hg (by simp)).mono ?_
    rintro e w7 ⟨rfl, p7, v7, m, hpm, hsp, hlm, hgq, fq⟩
    obtain ⟨pm, cm, rfl, _⟩ := hgq.out.form
    have hcv := conv_any hgq.out
    have k1 := hgq.c1
    have hps7 := hgq.small
    rw [List.nil_append] at hcv k1
    have hX7 : Hid (Ext w w7) := by
      have h1 := hf.out.trans fq
      have h2 := hx0.out.size
      exact Below.trans hx0.out (h1.below (fun k hk => hk) h2)
    replace hsp := hide hsp
    clear hgq fq hg hf hpm
    go_wp2
    go_loopw [11, 12, 13, 14, 15] (fun vp vq ng nt ii wr => ∃ (k g t : Nat), ii = .int .i64 k ∧ k ≤ n ∧ ng = .int .i64 g ∧ nt = .int .i64 t ∧ Hid (g = (k + 1) / 3 ∧ t = k / 3) ∧ Hid (OwnB wr w.heap.size vp (wpre k)) ∧ Hid (OwnB wr w.heap.size vq (List.replicate ((k + 2) / 3) 41)) ∧ Hid (Apart vp vq) ∧ Hid (Ext w wr)) (fun _ _ _ _ ii _ => n - (intOf ii).toNat)
    case atStart => exact ⟨0, 0, 0, rfl, Nat.zero_le _, rfl, rfl, ⟨rfl, rfl⟩, OwnB.nil _ _, OwnB.nil _ _, apart_nil _ _ _, hX7⟩
    obtain ⟨k, g, t, rfl, hk, rfl, rfl, hgt, hOp, hOq, hap, hext⟩ := hrel
    have hgb : g ≤ 65536 ∧ t ≤ 65536 := by have := hgt.out; omega
    have hwl := wpre_len k
    by_cases hkn : k < n
    · have hkn' : (k : Int) < n := by omega
      have hlp : Hid ((wpre k).length < 2 ^ 39) := by show (wpre k).length < 2 ^ 39; omega
      have hm3 : k % 3 = 0 ∨ k % 3 = 1 ∨ k % 3 = 2 := by omega
      rcases hm3 with e3 | e3 | e3
      · have e3' : (k : Int) % 3 = 0 := by omega
        have hw0 := hide (wpre_0 k e3)
        replace e3 := hide e3
        have hlq : Hid ((List.replicate ((k + 2) / 3) (41 : UInt8)).length < 2 ^ 39) := by show _ < _; rw [List.length_replicate]; omega
        have hsz8 : Hid (w.heap.size ≤ wr.heap.size) := hext.out.size
        have hOq1 := hide (hOq.out.alloc (.cells #[.int .u8 40] 5))
        go_wp2_with (first
          | (at_builtin; refine app_byteL rfl rfl w.heap.size (by have := hsz8.out; simp; omega) u11 (wpre k) 40 40 rfl rfl (OwnB.alloc hOp.out _) wr.heap.size 1 (by rfl) (heap_alloc_new wr _) hlp.out ?_; intro vA wA OA hgrA hlocA; have hOqA := hide (hOq1.out.but hgrA hap.out.symm); have hextA : Hid (Ext w wA) := (hext.out.alloc (.cells #[.int .u8 40] 5)).grown hgrA (fun q hq => hOp.out.block q hq); have hapA : Hid (Apart vA u12) := apart_loc hap.out hlocA (fun q hq => by have := hOq.out.lt q hq; simp; omega); replace OA := hide OA; clear hgrA hlocA)
          | (at_builtin; refine app_byteL rfl rfl w.heap.size (by have := hextA.out.size; simp; omega) u12 (List.replicate ((k + 2) / 3) 41) 41 41 rfl rfl (OwnB.alloc hOqA.out _) wA.heap.size 1 (by rfl) (heap_alloc_new wA _) hlq.out ?_; intro vB wB OB hgrB hlocB; have hOpB := hide ((OA.out.alloc (.cells #[.int .u8 41] 5)).but hgrB hapA.out); have hextB : Hid (Ext w wB) := (hextA.out.alloc (.cells #[.int .u8 41] 5)).grown hgrB (fun q hq => hOqA.out.block q hq); have hapB : Hid (Apart vB vA) := apart_loc hapA.out.symm hlocB (fun q hq => by have := OA.out.lt q hq; simp; omega); replace OB := hide OB; clear hgrB hlocB))
        have hrp : Hid (List.replicate ((k + 1 + 2) / 3) (41 : UInt8) = List.replicate ((k + 2) / 3) 41 ++ [41]) := by
          have h3 := e3.out
          rw [show (k + 1 + 2) / 3 = (k + 2) / 3 + 1 by omega, List.replicate_succ']
          rfl
        go_roundw
        case rel => exact ⟨k + 1, g, t, by go_num, by omega, rfl, rfl, by have h3 := e3.out; have := hgt.out; exact ⟨by omega, by omega⟩, hOpB.out.congr hw0.out.symm, OB.out.congr hrp.out.symm, hapB.out.symm, hextB.out⟩
        case measure => simp [intOf]; omega
      · have e3' : (k : Int) % 3 = 1 := by omega
        have hw0 := hide (wpre_1 k e3)
        replace e3 := hide e3
        have hsz8 : Hid (w.heap.size ≤ wr.heap.size) := hext.out.size
        have hOq1 := hide (hOq.out.alloc (.cells #[.int .u8 45] 5))
        go_wp2_with (at_builtin; refine app_byteL rfl rfl w.heap.size (by have := hsz8.out; simp; omega) u11 (wpre k) 45 45 rfl rfl (OwnB.alloc hOp.out _) wr.heap.size 1 (by rfl) (heap_alloc_new wr _) hlp.out ?_; intro vA wA OA hgrA hlocA; have hOqA := hide (hOq1.out.but hgrA hap.out.symm); have hextA : Hid (Ext w wA) := (hext.out.alloc (.cells #[.int .u8 45] 5)).grown hgrA (fun q hq => hOp.out.block q hq); have hapA : Hid (Apart vA u12) := apart_loc hap.out hlocA (fun q hq => by have := hOq.out.lt q hq; simp; omega); replace OA := hide OA; clear hgrA hlocA)
        have hrp : Hid ((k + 2) / 3 = (k + 1 + 2) / 3) := by have h3 := e3.out; show _ = _; omega
        go_roundw
        case rel => exact ⟨k + 1, g + 1, t, by go_num, by omega, by go_num, rfl, by have h3 := e3.out; have := hgt.out; exact ⟨by omega, by omega⟩, OA.out.congr hw0.out.symm, by rw [← hrp.out]; exact hOqA.out, hapA.out, hextA.out⟩
        case measure => simp [intOf]; omega
      · have e3' : (k : Int) % 3 = 2 := by omega
        have hw0 := hide (wpre_2 k e3)
        replace e3 := hide e3
        have hsz8 : Hid (w.heap.size ≤ wr.heap.size) := hext.out.size
        have hlp2 : Hid ((wpre k).length + [84, 79, 78, 32].length < 2 ^ 40) := by show _ < _; simp only [List.length_cons, List.length_nil]; omega
        go_wp2_with (at_builtin; refine app_str rfl rfl w.heap.size hsz8.out u11 (wpre k) [84, 79, 78, 32] rfl hOp.out rfl hlp2.out ?_; intro vA wA OA hgrA; have hOqA := hide (hOq.out.but hgrA hap.out.symm); have hextA : Hid (Ext w wA) := hext.out.grown hgrA (fun q hq => hOp.out.block q hq); replace OA := hide OA; clear hgrA)
        have hapA : Hid (Apart vA u12) := by
          have h3 := e3.out
          refine OA.out.apart hOqA.out 40 41 ?_ ?_ (by decide)
          · rw [← hw0.out]; exact wpre_head (k + 1) (by omega)
          · rw [show (k + 2) / 3 = (k + 2) / 3 - 1 + 1 by omega, List.replicate_succ]; rfl
        have hrp : Hid ((k + 2) / 3 = (k + 1 + 2) / 3) := by have h3 := e3.out; show _ = _; omega
        go_roundw
        case rel => exact ⟨k + 1, g, t + 1, by go_num, by omega, rfl, by go_num, by have h3 := e3.out; have := hgt.out; exact ⟨by omega, by omega⟩, OA.out.congr hw0.out.symm, by rw [← hrp.out]; exact hOqA.out, hapA.out, hextA.out⟩
        case measure => simp [intOf]; omega
    · obtain rfl : k = n := by omega
      clear hk hkn
      obtain ⟨pa, ca, rfl, hfa⟩ := hOp.out.form
      obtain ⟨pq, cq, rfl⟩ := hOq.out.formN ((k + 2) / 3) List.length_replicate
      clear hfa
      go_wp2
      go_loopw [16, 17] (fun vf ii wr => ∃ r : Nat, ii = .int .i64 ((r : Int) - 1) ∧ r ≤ (wpre k).length ∧ Hid (OwnB wr w.heap.size vf ((wpre k).drop r).reverse) ∧ Hid (OwnB wr w.heap.size (.slice pa (wpre k).length ca) (wpre k)) ∧ Hid (OwnB wr w.heap.size (.slice pq ((k + 2) / 3) cq) (List.replicate ((k + 2) / 3) 41)) ∧ Hid (Apart vf (.slice pa (wpre k).length ca)) ∧ Hid (Apart vf (.slice pq ((k + 2) / 3) cq)) ∧ Hid (Ext w wr)) (fun _ ii _ => (intOf ii + 1).toNat)
      case atStart => exact ⟨(wpre k).length, rfl, Nat.le_refl _, by rw [List.drop_length]; exact OwnB.nil _ _, hOp, hOq, apart_nil _ _ _, apart_nil _ _ _, hext⟩
      clear hOp hOq hap hext
      obtain ⟨r, rfl, hr, hOf, hOp, hOq, hapf, hapg, hext⟩ := hrel
      by_cases hr0 : r = 0
      · subst hr0
        rw [List.drop_zero] at hOf
        obtain ⟨pf, cf, rfl⟩ := hOf.out.formN (wpre k).length List.length_reverse
        have hcf := conv_any (l := (wpre k).reverse) (a := pf) (cap := cf) (w := wr) (base := w.heap.size) (by rw [List.length_reverse]; exact hOf.out)
        have hcp := conv_any (l := List.replicate ((k + 2) / 3) (41 : UInt8)) (a := pq) (cap := cq) (w := wr) (base := w.heap.size) (by rw [List.length_replicate]; exact hOq.out)
        rw [List.length_reverse] at hcf
        rw [List.length_replicate] at hcp
        obtain ⟨F, hF⟩ : ∃ F, Hid ((wpre k).reverse = F) := ⟨_, rfl⟩
        rw [hF.out] at hcf
        obtain ⟨P, hP⟩ : ∃ P, Hid (List.replicate ((k + 2) / 3) (41 : UInt8) = P) := ⟨_, rfl⟩
        rw [hP.out] at hcp
        have zF : (tx F).size ≤ 262140 := by rw [tx_size, ← hF.out, List.length_reverse]; omega
        have zP : (tx P).size ≤ 65537 := by rw [tx_size, ← hP.out, List.length_replicate]; omega
        have zB : (tx bt).size ≤ 67108928 := by rw [tx_size]; omega
        have zM : (tx m).size ≤ 67109064 := by rw [tx_size]; omega
        obtain ⟨s1, c1⟩ : ∃ s, (({ data := #[83, 69, 76, 69, 67, 84, 32] } : ByteArray) ++ tx F) = s := ⟨_, rfl⟩
        obtain ⟨s2, c2⟩ : ∃ s, s1 ++ tx bt = s := ⟨_, rfl⟩
        obtain ⟨s3, c3⟩ : ∃ s, s2 ++ tx P = s := ⟨_, rfl⟩
        obtain ⟨s4, c4⟩ : ∃ s, s3 ++ tx m = s := ⟨_, rfl⟩
        obtain ⟨e1, d1⟩ : ∃ s, (({ data := #[83, 69, 76, 69, 67, 84, 32] } : ByteArray) ++ tx bt) = s := ⟨_, rfl⟩
        obtain ⟨e2, d2⟩ : ∃ s, e1 ++ tx m = s := ⟨_, rfl⟩
        have t1 : s1 = tx (sel ++ F) := by rw [← c1]; exact tx_append sel F
        have t2 : s2 = tx (sel ++ F ++ bt) := by rw [← c2, t1]; exact tx_append _ _
        have t3 : s3 = tx (sel ++ F ++ bt ++ P) := by rw [← c3, t2]; exact tx_append _ _
        have t4 : Hid (s4 = tx (sel ++ F ++ bt ++ P ++ m)) := by rw [← c4, t3]; exact tx_append _ _
        have q1 : e1 = tx (sel ++ bt) := by rw [← d1]; exact tx_append sel bt
        have q2 : Hid (e2 = tx (sel ++ bt ++ m)) := by rw [← d2, q1]; exact tx_append _ _
        have y1 : s1.size = 7 + (tx F).size := by rw [t1, tx_size, tx_size]; simp [sel]; omega
        have y2 : s2.size = 7 + (tx F).size + (tx bt).size := by rw [t2, tx_size, tx_size, tx_size]; simp [sel]; omega
        have y3 : s3.size = 7 + (tx F).size + (tx bt).size + (tx P).size := by rw [t3, tx_size, tx_size, tx_size, tx_size]; simp [sel]; omega
        have y4 : e1.size = 7 + (tx bt).size := by rw [q1, tx_size, tx_size]; simp [sel]; omega
        have z1 : ¬ 9223372036854775807 < 7 + (tx F).size := by omega
        have z2 : ¬ 9223372036854775807 < s1.size + (tx bt).size := by omega
        have z3 : ¬ 9223372036854775807 < s2.size + (tx P).size := by omega
        have z4 : ¬ 9223372036854775807 < s3.size + (tx m).size := by omega
        have z5 : ¬ 9223372036854775807 < 7 + (tx bt).size := by omega
        have z6 : ¬ 9223372036854775807 < e1.size + (tx m).size := by omega
        clear t1 t2 t3 q1 y1 y2 y3 y4 zF zP zB zM hr
        go_wp2
        refine bodyPost_ret (results_tmp4 rfl _ _ _) rfl ?_
        refine ⟨t0, ps, m, hfl.out, hsp.out, hext.out, ?_⟩
        have h1 := hgt.out.1
        have h2 := hgt.out.2
        rw [hF.out, hbt.out, hP.out, ← t4.out, ← q2.out, ← h1, ← h2]
        rfl
      · obtain ⟨q, rfl⟩ : ∃ q, r = q + 1 := ⟨r - 1, by omega⟩
        clear hr0
        obtain ⟨pg, hpg⟩ : ∃ g, pa = some ⟨g, 0, none⟩ := by
          obtain ⟨a', c', e', h'⟩ := hOp.out.form
          injection e' with e1 _ _
          rcases h' with ⟨_, _, h0⟩ | ⟨g, h1⟩
          · rw [h0] at hr; simp at hr
          · exact ⟨g, e1.trans h1⟩
        subst hpg
        have hc := hOp.out.cell q (by omega)
        have hdr : Hid (((wpre k).drop q).reverse = ((wpre k).drop (q + 1)).reverse ++ [(wpre k)[q]]) := by
          rw [List.drop_eq_getElem_cons (by omega)]; simp [Hid]
        obtain ⟨yb, hyb⟩ : ∃ y, (wpre k)[q] = y := ⟨_, rfl⟩
        rw [hyb] at hc hdr
        replace hyb := hide hyb
        have hq1 : (q : Int) < (wpre k).length := by omega
        have hq2 : 0 ≤ (q : Int) := by omega
        have hlf : Hid ((((wpre k).drop (q + 1)).reverse).length < 2 ^ 39) := by show _ < _; simp; omega
        have hsz8 : Hid (w.heap.size ≤ wr.heap.size) := hext.out.size
        go_wp2_with (at_builtin; refine app_byteL rfl rfl w.heap.size (by have := hsz8.out; simp; omega) u16 (((wpre k).drop (q + 1)).reverse) yb (yb.toNat : Int) rfl rfl (OwnB.alloc hOf.out _) wr.heap.size 1 (by rfl) (heap_alloc_new wr _) hlf.out ?_; intro vA wA OA hgrA hlocA; have hOpA := hide ((hOp.out.alloc (.cells #[.int .u8 (yb.toNat : Int)] 5)).but hgrA hapf.out.symm); have hOqA := hide ((hOq.out.alloc (.cells #[.int .u8 (yb.toNat : Int)] 5)).but hgrA hapg.out.symm); have hextA : Hid (Ext w wA) := (hext.out.alloc (.cells #[.int .u8 (yb.toNat : Int)] 5)).grown hgrA (fun q hq => hOf.out.block q hq); have hapfA : Hid (Apart vA (.slice (some ⟨pg, 0, none⟩) (wpre k).length ca)) := apart_loc hapf.out hlocA (fun q hq => by have := hOp.out.lt q hq; simp; omega); have hapgA : Hid (Apart vA (.slice pq ((k + 2) / 3) cq)) := apart_loc hapg.out hlocA (fun q hq => by have := hOq.out.lt q hq; simp; omega); replace OA := hide OA; clear hgrA hlocA)
        go_roundw
        case rel => exact ⟨q, by go_num, by omega, OA.out.congr hdr.out.symm, hOpA.out, hOqA.out, hapfA.out, hapgA.out, hextA.out⟩
        case measure => simp [intOf]
end Go.Proofs.Ybyaaw
