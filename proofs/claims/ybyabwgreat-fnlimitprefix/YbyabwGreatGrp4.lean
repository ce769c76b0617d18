/- Walk: impl.groupRows -/
import Derived.Test.YbyabwGreatGrp3
namespace Go.Proofs.YbyabwGreat
open Go.RowKit
set_option maxRecDepth 100000
set_option linter.unusedVariables false
set_option linter.unusedSimpArgs false

set_option maxHeartbeats 16000000 in
theorem groupRows (p : Pl) (ca ia ga : Option Addr) (cc ic gc : Nat) (f : Nat → List Int) (k n : Nat) (ra sa : Option Addr) (rc sc : Nat) (sel : List Int) (w : World) (hp : Hid (PAt w p ca ia ga)) (hgr : Hid (GrP k p.gr)) (hr : Hid (IRows w ra k f)) (hf : Hid (∀ j, j < k → (f j).length = n)) (hs : Hid (IntsAt w sa sel)) (hsn : Hid (∀ j, j < sel.length → 0 ≤ sel.getD j 0 ∧ sel.getD j 0 < n)) (hk : k ≤ 256) (hn : n ≤ 65536) (hm : sel.length ≤ 65536) (hcost : sel.length * p.gr.length ≤ 16777216) :
    Calls Yabn.prog 51 #[.agg (plCells p ca ia ga cc ic gc).toArray, .slice ra k rc, .slice sa sel.length sc] w (RetGrp p.gr (rowAt f k) sel w) := by
  have hlg := hp.out.lg
  have hgi := hide hp.out.gr
  obtain ⟨nc, code, wh, its, gr, li, ag⟩ := p
  simp only at hlg hcost
  have hKl := keyJ_len gr (rowAt f k) sel
  have hB0 : Hid (Blk ((w.alloc (.cells #[.int .i64 nc, .slice ca code.length cc, .int .i64 wh, .slice ia its.length ic, .slice ga gr.length gc, .int .i64 li, .bool ag] 57)).alloc (.cells #[.int .i64 0, .int .i64 0, .slice none 0 0, .slice none 0 0] 113)) w.heap.size 57 [.int .i64 nc, .slice ca code.length cc, .int .i64 wh, .slice ia its.length ic, .slice ga gr.length gc, .int .i64 li, .bool ag]) := (Blk.new w _ _).alloc _
  have hG0 : Hid (Blk ((w.alloc (.cells #[.int .i64 nc, .slice ca code.length cc, .int .i64 wh, .slice ia its.length ic, .slice ga gr.length gc, .int .i64 li, .bool ag] 57)).alloc (.cells #[.int .i64 0, .int .i64 0, .slice none 0 0, .slice none 0 0] 113)) (w.heap.size + 1) 113 gpz) := by
    have := Blk.new (w.alloc (.cells #[.int .i64 nc, .slice ca code.length cc, .int .i64 wh, .slice ia its.length ic, .slice ga gr.length gc, .int .i64 li, .bool ag] 57)) #[.int .i64 0, .int .i64 0, .slice none 0 0, .slice none 0 0] 113
    rw [show (w.alloc (.cells #[.int .i64 nc, .slice ca code.length cc, .int .i64 wh, .slice ia its.length ic, .slice ga gr.length gc, .int .i64 li, .bool ag] 57)).heap.size = w.heap.size + 1 by simp] at this
    exact this
  have hX0 : Hid (Ext w ((w.alloc (.cells #[.int .i64 nc, .slice ca code.length cc, .int .i64 wh, .slice ia its.length ic, .slice ga gr.length gc, .int .i64 li, .bool ag] 57)).alloc (.cells #[.int .i64 0, .int .i64 0, .slice none 0 0, .slice none 0 0] 113))) := ((Ext.refl w).alloc _).alloc _
  have hs0 : Hid (((w.alloc (.cells #[.int .i64 nc, .slice ca code.length cc, .int .i64 wh, .slice ia its.length ic, .slice ga gr.length gc, .int .i64 li, .bool ag] 57)).alloc (.cells #[.int .i64 0, .int .i64 0, .slice none 0 0, .slice none 0 0] 113)).heap.size = w.heap.size + 2) := by show _ = _; simp
  have q4 := hB0.out.box 4 _ rfl
  simp only [plCells]
  by_cases hw0 : gr.length = 0
  · have hwb : ((gr.length : Int) == 0) = true := by simp [hw0]
    have e1 := hide (gKeys_nil (rowAt f k) sel gr hw0)
    have e2 := hide (gIds_nil (rowAt f k) sel gr hw0)
    have e3 : Hid (gNum gr (rowAt f k) sel = 1) := by show _ = _; unfold gNum; rw [if_pos hw0]
    replace hw0 := hide hw0
    go_enter Yabn.func51, Yabn.ntmps51
    go_wp2_with (first | (at_make; refine mk_int rfl rfl sel.length rfl rfl (by omega) (w.heap.size + 2) hs0.out ?_; intro w1 O1 x1 z1; have hO1 := hide O1; have hX1 : Hid (Ext w w1) := hX0.out.trans x1; have hG1 := hide (hG0.out.ext x1); clear O1 x1 z1) | (refine wpList_storeB (vs := [.int .i64 0, .int .i64 1, .slice none 0 0, .slice (some ⟨w.heap.size + 2, 0, none⟩) sel.length sel.length]) rfl rfl (by rfl) (by rfl) hG1.out size_gp rfl (by simp [Value.oneCell']) ?_; intro w9 hb9 hg9; replace hb9 := hide hb9; replace hg9 := hide hg9))
    refine bodyPost_ret (results_cell1 rfl (by rfl) hb9.out Yabn.underlying113 size_gp) rfl ?_
    refine ⟨none, some ⟨w.heap.size + 2, 0, none⟩, 0, sel.length, ?_, ⟨?_, ?_⟩, hX1.out.grown hg9.out (fun q hq => by cases hq; omega)⟩
    · simp only [gpCells]
      rw [hw0.out, e1.out, e3.out]
      rfl
    · rw [e1.out]
      exact OwnI.nil _ _ _
    · rw [e2.out]
      exact OwnI.mono (OwnI.kept hO1.out hg9.out (by omega)) (by omega)
  · have hwb : ((gr.length : Int) == 0) = false := by simp [hw0]
    have hwp : 0 < gr.length := by omega
    have e3 : Hid (gNum gr (rowAt f k) sel = (gKeys gr (rowAt f k) sel).length) := by show _ = _; unfold gNum; rw [if_neg hw0]
    obtain ⟨K, hKe⟩ : ∃ K, Hid (keyJ gr (rowAt f k) sel = K) := ⟨_, rfl⟩
    have hKat : Hid (∀ j c, j < sel.length → c < gr.length → (K j).getD c 0 = (f (gr.getD c 0).toNat).getD (sel.getD j 0).toNat 0) := fun j c hj hc => by
      have h1 := hgr.out _ (getD_mem_I gr c hc)
      rw [← hKe.out, keyJ_at _ _ _ _ _ hc, rowAt_at _ _ _ _ (by omega)]
    rw [hKe.out] at hKl
    replace hw0 := hide hw0
    replace hKl := hide hKl
    obtain ⟨M, hM⟩ : ∃ M : Nat, M = sel.length * gr.length := ⟨_, rfl⟩
    have hMI : (sel.length : Int) * (gr.length : Int) = (M : Int) := by rw [hM]; simp
    have hMl : M ≤ 16777216 := by omega
    obtain ⟨FK, hFK⟩ : ∃ F, Hid (flK K gr.length sel.length = F) := ⟨_, rfl⟩
    have hFl : FK.length = M := by rw [← hFK.out, flK_len, hM]
    have hFat : Hid (∀ j c, j < sel.length → c < gr.length → FK.getD (j * gr.length + c) 0 = (K j).getD c 0) := fun j c hj hc => by rw [← hFK.out]; exact flK_at K _ _ j c hj hc
    have hflat : Hid (FlatK K gr.length sel.length FK) := by rw [← hFK.out]; exact flK_flat K _ _ hKl.out
    replace hM := hide hM
    go_enter Yabn.func51, Yabn.ntmps51
    go_wp2_with (first | (at_make; refine mk_int rfl rfl sel.length rfl rfl (by omega) (w.heap.size + 2) hs0.out ?_; intro w1 O1 x1 z1; have hO1 := hide O1; have hX1 : Hid (Ext w w1) := hX0.out.trans x1; have hG1 := hide (hG0.out.ext x1); have hB1 := hide (hB0.out.ext x1); have hz1 := hide z1; clear O1 x1 z1) | (at_make; refine mk_i64 rfl rfl M (by rfl) (by rfl) (by omega) (w.heap.size + 2 + 1) hz1.out ?_; intro w2 O2 x2 z2; have hR2 := hide O2; have hO2 := hide (OwnI.ext hO1.out x2); have hX2 : Hid (Ext w w2) := hX1.out.trans x2; have hG2 := hide (hG1.out.ext x2); have hB2 := hide (hB1.out.ext x2); have hz2 := hide z2; clear O2 x2 z2 hO1 hX1 hG1 hB1))
    obtain ⟨GB, hGB⟩ : ∃ GB, w.heap.size + 2 = GB := ⟨_, rfl⟩
    obtain ⟨RB, hRB⟩ : ∃ RB, GB + 1 = RB := ⟨_, rfl⟩
    rw [hGB, hRB] at hR2
    rw [hGB] at hO2
    simp only [hGB, hRB]
    have hGw : w.heap.size + 2 = GB := hGB
    have hRw : GB + 1 = RB := hRB
    have hw2s : RB < w2.heap.size := (OwnI.lt hR2.out).2
    replace hR2 := hide (OwnI.mono hR2.out (show w.heap.size ≤ RB by omega))
    replace hO2 := hide (OwnI.mono hO2.out (show w.heap.size ≤ GB by omega))
    clear hz1 hz2 hGB hRB q4 hB0 hG0 hX0 hs0
    go_loopw [37] (fun i wr => ∃ j : Nat, i = .int .i64 j ∧ j ≤ sel.length ∧ Hid (OwnI wr w.heap.size 2 (.slice (some ⟨RB, 0, none⟩) M M) (mixR FK (List.replicate M 0) (j * gr.length))) ∧ Hid (But (fun q => q = RB) w2 wr)) (fun i _ => sel.length - (intOf i).toNat)
    case atStart => exact ⟨0, rfl, Nat.zero_le _, by rw [Nat.zero_mul, mixR_zero]; exact hR2, But.refl _ _⟩
    obtain ⟨j, rfl, hj, hRr, hbt⟩ := hrel
    by_cases hlt : j < sel.length
    · have hlt' : (j : Int) < sel.length := by omega
      have hXr : Hid (Ext w wr) := Below.trans hX2.out (hbt.out.below (fun q hq => by omega) hX2.out.size)
      obtain ⟨b1, off1, hsa, c1⟩ := (hs.out.ext hXr.out) j hlt
      subst hsa
      obtain ⟨s0, hs0⟩ : ∃ s0 : Nat, Hid (sel.getD j 0 = (s0 : Int)) := ⟨(sel.getD j 0).toNat, by have := (hsn.out j hlt).1; show _ = _; omega⟩
      have hs0n : s0 < n := by have h1 := (hsn.out j hlt).2; have := hs0.out; omega
      rw [hs0.out] at c1
      obtain ⟨J, hJ⟩ : ∃ J : Nat, J = j * gr.length := ⟨_, rfl⟩
      have hJI : (j : Int) * (gr.length : Int) = (J : Int) := by rw [hJ]; simp
      rw [← hJ] at hRr
      replace hJ := hide hJ
      go_wp2_with fail
      obtain ⟨W4, hW4⟩ : ∃ W4, W4 = wr := ⟨_, rfl⟩
      go_loopw [13] (fun i wr => ∃ c : Nat, i = .int .i64 c ∧ c ≤ gr.length ∧ Hid (OwnI wr w.heap.size 2 (.slice (some ⟨RB, 0, none⟩) M M) (mixR FK (List.replicate M 0) (J + c))) ∧ Hid (But (fun q => q = RB) w2 wr)) (fun i _ => gr.length - (intOf i).toNat)
      case atStart => exact ⟨0, rfl, Nat.zero_le _, hRr, hbt⟩
      clear hRr hbt hXr c1 hW4
      obtain ⟨c, rfl, hc, hRr, hbt⟩ := hrel
      by_cases hcl : c < gr.length
      · have hcl' : (c : Int) < gr.length := by omega
        have hXr : Hid (Ext w wr) := Below.trans hX2.out (hbt.out.below (fun q hq => by omega) hX2.out.size)
        have q4 := (hbt.out.blk hB2.out (by omega)).box 4 _ rfl
        obtain ⟨b2, off2, hga, c2⟩ := (hgi.out.ext hXr.out) c hcl
        subst hga
        have hgc := hgr.out _ (getD_mem_I gr c hcl)
        obtain ⟨g0, hg0⟩ : ∃ g0 : Nat, Hid (gr.getD c 0 = (g0 : Int)) := ⟨(gr.getD c 0).toNat, by have := hgc.1; show _ = _; omega⟩
        have hg0k : g0 < k := by have h1 := hgc.2; have := hg0.out; omega
        have hg0k' : (g0 : Int) < k := by omega
        rw [hg0.out] at c2
        obtain ⟨b3, off3, a3, c3, hra, c4, hin⟩ := (hr.out.ext hXr.out) g0 hg0k
        subst hra
        rw [hf.out g0 hg0k] at c4
        obtain ⟨b5, off5, hra5, c5⟩ := hin s0 (by rw [hf.out g0 hg0k]; exact hs0n)
        subst hra5
        have hs0n' : (s0 : Int) < n := by omega
        have hJc := at_lt hlt hcl
        have hJl : J + c < M := by rw [hJ.out, hM.out]; exact hJc
        have hJl' : (J : Int) + c < M := by omega
        have hset := hide (mixR_set FK (List.replicate M 0) (J + c) (by simp [hFl]) (by omega))
        have hval : Hid (FK.getD (J + c) 0 = (f g0).getD s0 0) := by show _ = _; rw [hJ.out, hFat.out j c hlt hcl, hKat.out j c hlt hcl, hg0.out, hs0.out, Int.toNat_natCast, Int.toNat_natCast]
        rw [hval.out] at hset
        have hml : Hid ((mixR FK (List.replicate M 0) (J + c)).length = M) := by show _ = _; rw [mixR_len _ _ _ (by simp [hFl])]; simp
        obtain ⟨y, hy⟩ : ∃ y, Hid ((f g0).getD s0 0 = y) := ⟨_, rfl⟩
        rw [hy.out] at c5 hset
        clear hgc hin hJc
        go_wp2_with (refine wpList_stI (g := RB) (i := J + c) (u := y) rfl rfl (by rfl) (by rfl) hRr.out hml.out.symm (by rw [hml.out]; omega) size_int64 ?_; intro w7 hU7 hg7; have hR7 := hide (hU7.congr hset.out); have hb7 : Hid (But (fun q => q = RB) w2 w7) := hbt.out.trans (But.of_grown hg7 (fun q hq => by cases hq; rfl)); clear hU7 hg7)
        go_roundw
        case rel => exact ⟨c + 1, by go_num, by omega, hR7.out, hb7.out⟩
        case measure => simp [intOf]; omega
      · have hcl' : ¬ (c : Int) < gr.length := by omega
        have hnx : Hid (J + c = (j + 1) * gr.length) := by show _ = _; rw [hJ.out, Nat.add_mul]; omega
        rw [hnx.out] at hRr
        clear hcl hc
        go_wp2_with fail
        go_roundw
        case rel => exact ⟨j + 1, by go_num, by omega, hRr.out, hbt.out⟩
        case measure => simp [intOf]; omega
    · have hlt' : ¬ (j : Int) < sel.length := by omega
      have hXr : Hid (Ext w wr) := Below.trans hX2.out (hbt.out.below (fun q hq => by omega) hX2.out.size)
      have hfin : Hid (mixR FK (List.replicate M 0) (j * gr.length) = FK) := by
        obtain rfl : j = sel.length := by omega
        have := mixR_all FK (List.replicate M 0) (by simp [hFl])
        rw [hFl, hM.out] at this
        rw [hM.out]
        exact this
      rw [hfin.out] at hRr
      have hG4 := hide (hO2.out.butS hbt.out (fun q hq hh => by cases hq; have h2 : GB = RB := hh; omega))
      have hB4 := hide (hbt.out.blk hB2.out (by omega))
      have hZ4 := hide (hbt.out.blk hG2.out (by omega))
      have hwrs : RB < wr.heap.size := Nat.lt_of_lt_of_le hw2s hbt.out.size
      have hsort := sortIdx K gr.length sel.length FK (some ⟨RB, 0, none⟩) M wr hflat hRr.out.ints (by omega) (by omega) hm
      rw [hFl] at hsort
      replace hsort := hide hsort
      clear hlt hj hbt hfin
      go_wp2_with fail
      refine hsort.out.mono ?_
      rintro e W5 ⟨ord, oa, ocap, rfl, oO, hso, x5⟩
      have hX5 : Hid (Ext w W5) := hXr.out.trans x5
      have hR5 := hide (hRr.out.ext x5)
      have hG5 := hide (hG4.out.ext x5)
      have hB5 := hide (hB4.out.ext x5)
      have hZ5 := hide (hZ4.out.ext x5)
      have hO5 := hide (OwnI.mono oO (show RB + 1 ≤ wr.heap.size by omega))
      have hol : Hid (ord.length = sel.length) := hso.len.trans (idxL_len _)
      have hup : Hid (KS.SegUp (RK K) ord 0 ord.length) := hso.up
      have hom : Hid (∀ v, v ∈ ord ↔ ∃ j : Nat, j < sel.length ∧ (j : Int) = v) := fun v => by rw [hso.mem v]; exact idxL_mem _ _
      have hordm : Hid (∀ y, y < sel.length → ∃ jy : Nat, jy < sel.length ∧ ord.getD y 0 = (jy : Int)) := fun y hy => by
        have hmem : ord.getD y 0 ∈ ord := getD_mem_I ord y (by rw [hol.out]; exact hy)
        obtain ⟨jy, h1, h2⟩ := (hom.out _).1 hmem
        exact ⟨jy, h1, h2.symm⟩
      have hgat : Hid (∀ x, x < sel.length → 0 < (ddK K ord (x + 1)).length ∧ gidK (ddK K ord sel.length) (K (ord.getD x 0).toNat) = (ddK K ord (x + 1)).length - 1) := fun x hx => gid_at hKl.out ord hol.out hup.out x hx
      have hdl : Hid (∀ x, x ≤ sel.length → (∀ d ∈ ddK K ord x, d.length = gr.length) ∧ (ddK K ord x).length ≤ x) := fun x hx => by
        have := ddK_law hKl.out ord hup.out x (by rw [hol.out]; exact hx)
        exact ⟨this.up.len, this.len⟩
      have hW5s : RB < W5.heap.size := Nat.lt_of_lt_of_le hwrs x5.size
      clear x5 oO hso hXr hRr hG4 hB4 hZ4 hsort
      go_wp2_with fail
      go_loopw [15, 16, 17] (fun v g i wr => ∃ (x : Nat) (Gl : List Int), i = .int .i64 x ∧ x ≤ sel.length ∧ g = .int .i64 ((ddK K ord x).length : Nat) ∧ Hid (OwnI wr W5.heap.size 2 v (ddK K ord x).flatten) ∧ Hid (OwnI wr w.heap.size 3 (.slice (some ⟨GB, 0, none⟩) sel.length sel.length) Gl) ∧ Hid (Gl.length = sel.length) ∧ Hid (∀ y, y < x → Gl.getD (ord.getD y 0).toNat 0 = ((gidK (ddK K ord sel.length) (K (ord.getD y 0).toNat) : Nat) : Int)) ∧ Hid (But (fun q => q = GB ∨ W5.heap.size ≤ q) W5 wr)) (fun _ _ i _ => sel.length - (intOf i).toNat)
      case atStart => exact ⟨0, _, rfl, Nat.zero_le _, rfl, OwnI.nil _ _ _, hG5, by simp [Hid], fun y hy => by omega, But.refl _ _⟩
      clear hG5
      obtain ⟨x, Gl, rfl, hx, rfl, hKey, hGl, hGll, hgl, hbt⟩ := hrel
      by_cases hlt : x < sel.length
      · have hlt' : (x : Int) < sel.length := by omega
        have hOr := hO5.out.butS hbt.out (fun q hq hh => by have := (World.ownsRow.lt hO5.out q hq).1; have := (World.ownsRow.lt hO5.out q hq).2; omega)
        obtain ⟨b1, off1, hoa, c1⟩ := hOr.ints x (by rw [hol.out]; exact hlt)
        obtain ⟨ja, hja, hox⟩ := hordm.out x hlt
        replace hox := hide hox
        rw [hox.out] at c1
        have hja' : (ja : Int) < sel.length := by omega
        have hdlx := (hdl.out x (by omega)).2
        subst hoa
        by_cases hx0 : x = 0
        · have hx0b : ((x : Int) == 0) = true := by simp [hx0]
          have hnewc : Hid (x = 0 ∨ cmpL (K (ord.getD (x - 1) 0).toNat) (K (ord.getD x 0).toNat) ≠ 0) := .inl hx0
          replace hx0 := hide hx0
          have hdn : Hid (ddK K ord (x + 1) = (ddK K ord x) ++ [K ja]) := by have := ddK_new (K := K) (ord := ord) (x := x) hnewc.out; rw [hox.out, Int.toNat_natCast] at this; exact this
          have hga : Hid (gidK (ddK K ord sel.length) (K ja) = (ddK K ord x).length) := by have := (hgat.out x hlt).2; rw [hox.out, Int.toNat_natCast, hdn.out, List.length_append, List.length_singleton] at this; exact this
          go_wp2_with fail
          go_loopw [15, 19] (fun v i wr => ∃ c : Nat, i = .int .i64 c ∧ c ≤ gr.length ∧ Hid (OwnI wr W5.heap.size 2 v ((ddK K ord x).flatten ++ (K ja).take c)) ∧ Hid (OwnI wr w.heap.size 3 (.slice (some ⟨GB, 0, none⟩) sel.length sel.length) Gl) ∧ Hid (But (fun q => q = GB ∨ W5.heap.size ≤ q) W5 wr)) (fun _ i _ => gr.length - (intOf i).toNat)
          case atStart => exact ⟨0, rfl, Nat.zero_le _, by rw [List.take_zero, List.append_nil]; exact hKey, hGl, hbt⟩
          clear hKey hGl hbt
          obtain ⟨c, rfl, hc, hKey, hGl, hbt⟩ := hrel
          by_cases hcl : c < gr.length
          · have hcl' : (c : Int) < gr.length := by omega
            have hR9 := hR5.out.butS hbt.out (fun q hq hh => by cases hq; have h2 : RB = GB ∨ W5.heap.size ≤ RB := hh; omega)
            have hJc := at_lt hja hcl
            obtain ⟨JA, hJA⟩ : ∃ JA : Nat, JA = ja * gr.length := ⟨_, rfl⟩
            have hJI : (ja : Int) * (gr.length : Int) = (JA : Int) := by rw [hJA]; simp
            have hJl : JA + c < M := by rw [hJA, hM.out]; exact hJc
            have hJl' : (JA : Int) + c < M := by omega
            have c1 := OwnI.cellAt hR9 (JA + c) (by omega)
            rw [hJA, hFat.out ja c hja hcl, ← hJA] at c1
            have htk := hide (take_snoc_I (K ja) c (by rw [hKl.out]; exact hcl))
            have hkl : Hid (((ddK K ord x).flatten ++ (K ja).take c).length < 2 ^ 39) := by
              have h1 := flat_len (w := gr.length) (ddK K ord x) (hdl.out x (by omega)).1
              have h2 := (hdl.out x (by omega)).2
              have h3 : (ddK K ord x).length * gr.length ≤ sel.length * gr.length := Nat.mul_le_mul_right _ (by omega)
              show _ < _
              rw [List.length_append, h1]
              simp
              omega
            obtain ⟨y, hy⟩ : ∃ y, Hid ((K ja).getD c 0 = y) := ⟨_, rfl⟩
            rw [hy.out] at c1 htk
            clear hJc hJA hR9
            have hX3 : Hid (Ext wr (wr.alloc (.cells #[.int .i64 y] 2))) := (Ext.refl _).alloc _
            have hG3 := hide (OwnI.ext hKey.out hX3.out)
            have hsz3 : Hid (W5.heap.size ≤ (wr.alloc (.cells #[.int .i64 y] 2)).heap.size) := Nat.le_trans hbt.out.size hX3.out.size
            have hblk := hide (heap_alloc_new wr (.cells #[.int .i64 y] 2))
            have hgl3 := hide (OwnI.ext hGl.out hX3.out)
            obtain ⟨FL, hFL⟩ : ∃ L, Hid ((ddK K ord x).flatten ++ (K ja).take c = L) := ⟨_, rfl⟩
            rw [hFL.out] at hG3 hkl
            go_wp2_with (at_builtin; refine app_i64 rfl rfl W5.heap.size hsz3.out _ FL y rfl hG3.out wr.heap.size 1 (by rfl) hblk.out hkl.out ?_; intro g7 cap7 w7 O7 hgr7 hor7 hlt7; have hf7 : FrT 2 W5.heap.size (wr.alloc (.cells #[.int .i64 y] 2)) w7 := FrT.grown hG3.out hgr7; have hGl7 : Hid (OwnI w7 w.heap.size 3 (.slice (some ⟨GB, 0, none⟩) sel.length sel.length) Gl) := hf7.row hgl3.out (by decide); have hb7 : Hid (But (fun q => q = GB ∨ W5.heap.size ≤ q) W5 w7) := (hbt.out.trans (But.of_ext hX3.out)).trans (hf7.mono (fun q hq => .inr hq.1)); have hO7 := hide O7; clear O7 hgr7 hor7 hlt7 hf7)
            go_roundw
            case rel => exact ⟨c + 1, by go_num, by omega, by rw [htk.out, ← List.append_assoc, hFL.out]; exact hO7.out, hGl7.out, hb7.out⟩
            case measure => simp [intOf]; omega
          · have hcl' : ¬ (c : Int) < gr.length := by omega
            have hfin : Hid ((ddK K ord x).flatten ++ (K ja).take c = ((ddK K ord x) ++ [K ja]).flatten) := by show _ = _; rw [List.take_of_length_le (by rw [hKl.out]; omega)]; simp
            rw [hfin.out] at hKey
            clear hc hcl
            go_wp2_with (refine wpList_stI (g := GB) (i := ja) (u := ((ddK K ord x).length : Int)) rfl rfl (by rfl) (by rfl) hGl.out hGll.out.symm (by rw [hGll.out]; exact hja) size_int ?_; intro w7 hU7 hg7; have hG7 := hide hU7; have hb7 : But (fun q => q = GB ∨ W5.heap.size ≤ q) W5 w7 := hbt.out.trans (But.of_grown hg7 (fun q hq => by cases hq; exact .inl rfl)); have hK7 := hide (OwnI.butS hKey.out (But.of_grown (S := fun q => q = GB) hg7 (fun q hq => by cases hq; rfl)) (fun q hq hh => by have := (World.ownsRow.lt hKey.out q hq).1; omega)); replace hb7 := hide hb7; clear hU7 hg7)
            go_roundw
            case rel =>
              refine ⟨x + 1, Gl.set ja ((ddK K ord x).length : Int), by go_num, by omega, ?_, ?_, hG7.out, by rw [List.length_set]; exact hGll.out, ?_, hb7.out⟩
              · (rw [hdn.out, List.length_append]; go_num)
              · rw [hdn.out]; exact hK7.out
              · intro y hy
                have hy1 : (ord.getD y 0).toNat < sel.length := by obtain ⟨jy, hjy, e⟩ := hordm.out y (by omega); rw [e, Int.toNat_natCast]; exact hjy
                rw [getD_set Gl ja ((ddK K ord x).length : Int) (by rw [hGll.out]; exact hja)]
                by_cases hyj : (ord.getD y 0).toNat = ja
                · rw [if_pos hyj, hyj]
                  (rw [hga.out])
                · rw [if_neg hyj]
                  by_cases hyx : y = x
                  · subst hyx
                    rw [hox.out, Int.toNat_natCast] at hyj
                    exact absurd rfl hyj
                  · exact hgl.out y (by omega)
            case measure => simp [intOf]; omega
        · have hx0b : ((x : Int) == 0) = false := by simp [hx0]
          obtain ⟨b2, off2, e2, c2⟩ := hOr.ints (x - 1) (by rw [hol.out]; omega)
          cases e2
          obtain ⟨jp, hjp, hop⟩ := hordm.out (x - 1) (by omega)
          replace hop := hide hop
          rw [hop.out] at c2
          obtain ⟨xp, hxp⟩ : ∃ xp : Nat, Hid (x - 1 = xp) := ⟨_, rfl⟩
          have hxpI : (x : Int) - 1 = (xp : Int) := by have := hxp.out; omega
          have hxpn : (xp : Int) < sel.length := by have := hxp.out; omega
          rw [hxp.out] at c2
          have hRi := hide (hR5.out.butS hbt.out (fun q hq hh => by cases hq; have h2 : RB = GB ∨ W5.heap.size ≤ RB := hh; omega)).ints
          obtain ⟨CV, hCV⟩ : ∃ v, Hid (cmpL (K jp) (K ja) = v) := ⟨_, rfl⟩
          have hcmp := cmpKey K gr.length sel.length FK (some ⟨RB, 0, none⟩) M jp ja (jp : Int) (ja : Int) rfl rfl wr hflat hRi hjp hja (by omega) (by omega)
          rw [hFl, hCV.out] at hcmp
          have hcw : Hid (cmpL (K (ord.getD (x - 1) 0).toNat) (K (ord.getD x 0).toNat) = CV) := by show _ = _; rw [hop.out, hox.out, Int.toNat_natCast, Int.toNat_natCast, hCV.out]
          replace hcmp := hide hcmp
          go_wp2_with fail
          refine hcmp.out.mono ?_
          rintro e wx ⟨rfl, rfl⟩
          clear c1 c2
          by_cases hcz : CV = 0
          · have hczb : (CV != 0) = false := by simp [hcz]
            have hdn : Hid (ddK K ord (x + 1) = (ddK K ord x)) := ddK_old hx0 (by rw [hcw.out]; exact hcz)
            have hgax := hgat.out x hlt
            rw [hdn.out] at hgax
            have hga : Hid (gidK (ddK K ord sel.length) (K ja) = (ddK K ord x).length - 1) := by have := hgax.2; rw [hox.out, Int.toNat_natCast] at this; exact this
            have hLp := hgax.1
            replace hcz := hide hcz
            replace hx0 := hide hx0
            clear hgax
            dsimp only
            go_wp2_with (refine wpList_stI (g := GB) (i := ja) (u := (((ddK K ord x).length : Int) - 1)) rfl rfl (by rfl) (by rfl) hGl.out hGll.out.symm (by rw [hGll.out]; exact hja) size_int ?_; intro w7 hU7 hg7; have hG7 := hide hU7; have hb7 : But (fun q => q = GB ∨ W5.heap.size ≤ q) W5 w7 := hbt.out.trans (But.of_grown hg7 (fun q hq => by cases hq; exact .inl rfl)); have hK7 := hide (OwnI.butS hKey.out (But.of_grown (S := fun q => q = GB) hg7 (fun q hq => by cases hq; rfl)) (fun q hq hh => by have := (World.ownsRow.lt hKey.out q hq).1; omega)); replace hb7 := hide hb7; clear hU7 hg7)
            go_roundw
            case rel =>
              refine ⟨x + 1, Gl.set ja (((ddK K ord x).length : Int) - 1), by go_num, by omega, ?_, ?_, hG7.out, by rw [List.length_set]; exact hGll.out, ?_, hb7.out⟩
              · (rw [hdn.out])
              · rw [hdn.out]; exact hK7.out
              · intro y hy
                have hy1 : (ord.getD y 0).toNat < sel.length := by obtain ⟨jy, hjy, e⟩ := hordm.out y (by omega); rw [e, Int.toNat_natCast]; exact hjy
                rw [getD_set Gl ja (((ddK K ord x).length : Int) - 1) (by rw [hGll.out]; exact hja)]
                by_cases hyj : (ord.getD y 0).toNat = ja
                · rw [if_pos hyj, hyj]
                  (rw [hga.out]; omega)
                · rw [if_neg hyj]
                  by_cases hyx : y = x
                  · subst hyx
                    rw [hox.out, Int.toNat_natCast] at hyj
                    exact absurd rfl hyj
                  · exact hgl.out y (by omega)
            case measure => simp [intOf]; omega
          · have hczb : (CV != 0) = true := by simp [hcz]
            have hnewc : Hid (x = 0 ∨ cmpL (K (ord.getD (x - 1) 0).toNat) (K (ord.getD x 0).toNat) ≠ 0) := .inr (by rw [hcw.out]; exact hcz)
            replace hcz := hide hcz
            replace hx0 := hide hx0
            dsimp only
            have hdn : Hid (ddK K ord (x + 1) = (ddK K ord x) ++ [K ja]) := by have := ddK_new (K := K) (ord := ord) (x := x) hnewc.out; rw [hox.out, Int.toNat_natCast] at this; exact this
            have hga : Hid (gidK (ddK K ord sel.length) (K ja) = (ddK K ord x).length) := by have := (hgat.out x hlt).2; rw [hox.out, Int.toNat_natCast, hdn.out, List.length_append, List.length_singleton] at this; exact this
            go_wp2_with fail
            go_loopw [15, 19] (fun v i wr => ∃ c : Nat, i = .int .i64 c ∧ c ≤ gr.length ∧ Hid (OwnI wr W5.heap.size 2 v ((ddK K ord x).flatten ++ (K ja).take c)) ∧ Hid (OwnI wr w.heap.size 3 (.slice (some ⟨GB, 0, none⟩) sel.length sel.length) Gl) ∧ Hid (But (fun q => q = GB ∨ W5.heap.size ≤ q) W5 wr)) (fun _ i _ => gr.length - (intOf i).toNat)
            case atStart => exact ⟨0, rfl, Nat.zero_le _, by rw [List.take_zero, List.append_nil]; exact hKey, hGl, hbt⟩
            clear hKey hGl hbt
            obtain ⟨c, rfl, hc, hKey, hGl, hbt⟩ := hrel
            by_cases hcl : c < gr.length
            · have hcl' : (c : Int) < gr.length := by omega
              have hR9 := hR5.out.butS hbt.out (fun q hq hh => by cases hq; have h2 : RB = GB ∨ W5.heap.size ≤ RB := hh; omega)
              have hJc := at_lt hja hcl
              obtain ⟨JA, hJA⟩ : ∃ JA : Nat, JA = ja * gr.length := ⟨_, rfl⟩
              have hJI : (ja : Int) * (gr.length : Int) = (JA : Int) := by rw [hJA]; simp
              have hJl : JA + c < M := by rw [hJA, hM.out]; exact hJc
              have hJl' : (JA : Int) + c < M := by omega
              have c1 := OwnI.cellAt hR9 (JA + c) (by omega)
              rw [hJA, hFat.out ja c hja hcl, ← hJA] at c1
              have htk := hide (take_snoc_I (K ja) c (by rw [hKl.out]; exact hcl))
              have hkl : Hid (((ddK K ord x).flatten ++ (K ja).take c).length < 2 ^ 39) := by
                have h1 := flat_len (w := gr.length) (ddK K ord x) (hdl.out x (by omega)).1
                have h2 := (hdl.out x (by omega)).2
                have h3 : (ddK K ord x).length * gr.length ≤ sel.length * gr.length := Nat.mul_le_mul_right _ (by omega)
                show _ < _
                rw [List.length_append, h1]
                simp
                omega
              obtain ⟨y, hy⟩ : ∃ y, Hid ((K ja).getD c 0 = y) := ⟨_, rfl⟩
              rw [hy.out] at c1 htk
              clear hJc hJA hR9
              have hX3 : Hid (Ext wr (wr.alloc (.cells #[.int .i64 y] 2))) := (Ext.refl _).alloc _
              have hG3 := hide (OwnI.ext hKey.out hX3.out)
              have hsz3 : Hid (W5.heap.size ≤ (wr.alloc (.cells #[.int .i64 y] 2)).heap.size) := Nat.le_trans hbt.out.size hX3.out.size
              have hblk := hide (heap_alloc_new wr (.cells #[.int .i64 y] 2))
              have hgl3 := hide (OwnI.ext hGl.out hX3.out)
              obtain ⟨FL, hFL⟩ : ∃ L, Hid ((ddK K ord x).flatten ++ (K ja).take c = L) := ⟨_, rfl⟩
              rw [hFL.out] at hG3 hkl
              go_wp2_with (at_builtin; refine app_i64 rfl rfl W5.heap.size hsz3.out _ FL y rfl hG3.out wr.heap.size 1 (by rfl) hblk.out hkl.out ?_; intro g7 cap7 w7 O7 hgr7 hor7 hlt7; have hf7 : FrT 2 W5.heap.size (wr.alloc (.cells #[.int .i64 y] 2)) w7 := FrT.grown hG3.out hgr7; have hGl7 : Hid (OwnI w7 w.heap.size 3 (.slice (some ⟨GB, 0, none⟩) sel.length sel.length) Gl) := hf7.row hgl3.out (by decide); have hb7 : Hid (But (fun q => q = GB ∨ W5.heap.size ≤ q) W5 w7) := (hbt.out.trans (But.of_ext hX3.out)).trans (hf7.mono (fun q hq => .inr hq.1)); have hO7 := hide O7; clear O7 hgr7 hor7 hlt7 hf7)
              go_roundw
              case rel => exact ⟨c + 1, by go_num, by omega, by rw [htk.out, ← List.append_assoc, hFL.out]; exact hO7.out, hGl7.out, hb7.out⟩
              case measure => simp [intOf]; omega
            · have hcl' : ¬ (c : Int) < gr.length := by omega
              have hfin : Hid ((ddK K ord x).flatten ++ (K ja).take c = ((ddK K ord x) ++ [K ja]).flatten) := by show _ = _; rw [List.take_of_length_le (by rw [hKl.out]; omega)]; simp
              rw [hfin.out] at hKey
              clear hc hcl
              go_wp2_with (refine wpList_stI (g := GB) (i := ja) (u := ((ddK K ord x).length : Int)) rfl rfl (by rfl) (by rfl) hGl.out hGll.out.symm (by rw [hGll.out]; exact hja) size_int ?_; intro w7 hU7 hg7; have hG7 := hide hU7; have hb7 : But (fun q => q = GB ∨ W5.heap.size ≤ q) W5 w7 := hbt.out.trans (But.of_grown hg7 (fun q hq => by cases hq; exact .inl rfl)); have hK7 := hide (OwnI.butS hKey.out (But.of_grown (S := fun q => q = GB) hg7 (fun q hq => by cases hq; rfl)) (fun q hq hh => by have := (World.ownsRow.lt hKey.out q hq).1; omega)); replace hb7 := hide hb7; clear hU7 hg7)
              go_roundw
              case rel =>
                refine ⟨x + 1, Gl.set ja ((ddK K ord x).length : Int), by go_num, by omega, ?_, ?_, hG7.out, by rw [List.length_set]; exact hGll.out, ?_, hb7.out⟩
                · (rw [hdn.out, List.length_append]; go_num)
                · rw [hdn.out]; exact hK7.out
                · intro y hy
                  have hy1 : (ord.getD y 0).toNat < sel.length := by obtain ⟨jy, hjy, e⟩ := hordm.out y (by omega); rw [e, Int.toNat_natCast]; exact hjy
                  rw [getD_set Gl ja ((ddK K ord x).length : Int) (by rw [hGll.out]; exact hja)]
                  by_cases hyj : (ord.getD y 0).toNat = ja
                  · rw [if_pos hyj, hyj]
                    (rw [hga.out])
                  · rw [if_neg hyj]
                    by_cases hyx : y = x
                    · subst hyx
                      rw [hox.out, Int.toNat_natCast] at hyj
                      exact absurd rfl hyj
                    · exact hgl.out y (by omega)
              case measure => simp [intOf]; omega
      · have hlt' : ¬ (x : Int) < sel.length := by omega
        obtain rfl : x = sel.length := by omega
        have hdg : Hid (ddK K ord sel.length = gKeys gr (rowAt f k) sel) := by show _ = _; rw [ddK_grK hKl.out ord hol.out hup.out hom.out]; unfold gKeys; rw [hKe.out]
        have hGi : Hid (Gl = gIds gr (rowAt f k) sel) := list_extI (by rw [hGll.out, gIds_len]) (fun j hj => by
          rw [hGll.out] at hj
          rw [gIds_at _ _ _ _ hj, hKe.out, ← hdg.out]
          obtain ⟨y, hy, e⟩ := List.getElem_of_mem ((hom.out (j : Int)).2 ⟨j, hj, rfl⟩)
          have hyv : ord.getD y 0 = (j : Int) := by rw [List.getD_eq_getElem?_getD, List.getElem?_eq_getElem hy]; exact e
          have := hgl.out y (by rw [← hol.out]; exact hy)
          rw [hyv, Int.toNat_natCast] at this
          exact this)
        obtain ⟨FD, hFD⟩ : ∃ FD, Hid ((ddK K ord sel.length).flatten = FD) := ⟨_, rfl⟩
        rw [hFD.out] at hKey
        obtain ⟨ka, kc, rfl, _⟩ := hKey.out.form
        have hZ9 := hide (hbt.out.blk hZ5.out (by omega))
        have hX9 : Hid (Ext w wr) := Below.trans hX5.out (hbt.out.below (fun q hq => by rcases hq with h | h; omega; exact Nat.le_trans hX5.out.size h) hX5.out.size)
        have hKb := hide (OwnI.mono hKey.out hX5.out.size)
        have hKlow : Hid (∀ q, (Value.slice ka FD.length kc).ownBlock = some q → W5.heap.size ≤ q) := fun q hq => (World.ownsRow.lt hKey.out q hq).1
        clear hlt hx
        go_wp2_with (refine wpList_storeB (vs := [.int .i64 gr.length, .int .i64 ((ddK K ord sel.length).length : Nat), .slice ka FD.length kc, (.slice (some ⟨GB, 0, none⟩) sel.length sel.length)]) rfl rfl (by rfl) (by rfl) hZ9.out size_gp rfl (by simp [Value.oneCell']) ?_; intro w9 hb9 hg9; replace hb9 := hide hb9; replace hg9 := hide hg9)
        refine bodyPost_ret (results_cell1 rfl (by rfl) hb9.out Yabn.underlying113 size_gp) rfl ?_
        have hbb : But (fun q => q = w.heap.size + 1) wr w9 := But.of_grown hg9.out (fun q hq => by cases hq; rfl)
        refine ⟨ka, some ⟨GB, 0, none⟩, kc, sel.length, ?_, ⟨?_, ?_⟩, hX9.out.grown hg9.out (fun q hq => by cases hq; omega)⟩
        · simp only [gpCells]
          rw [e3.out, ← hdg.out, hFD.out]
        · rw [← hdg.out, hFD.out]
          exact hKb.out.butS hbb (fun q hq hh => by have := hKlow.out q hq; omega)
        · rw [← hGi.out]
          exact hGl.out.butS hbb (fun q hq hh => by cases hq; have h2 : GB = w.heap.size + 1 := hh; omega)
end Go.Proofs.YbyabwGreat
