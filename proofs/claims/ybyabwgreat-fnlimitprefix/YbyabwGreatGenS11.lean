/- Walk: spec.genQuery, spec.QueryText -/
import Derived.Test.YbyabwGreatGenS10
import Derived.Test.YbyabwGreatGen11
import Derived.Test.YbyabwGreatLimP2
import Derived.Test.YbyabwGreatDep1
namespace Go.Proofs.YbyabwGreat
open Go.RowKit
set_option maxRecDepth 100000
set_option linter.unusedVariables false
set_option linter.unusedSimpArgs false

def RetLim (w : World) : Ending → World → Prop := fun en w' => Ext w w' ∧ ∃ l : List UInt8, LimT l ∧ l.length ≤ 1073741824 ∧ en = .returned (.string (tx l))
theorem LimT.of {l m : List UInt8} (h : nli l = true) (hm : SfJ m) : LimT (l ++ m) := by
  rcases hm with hm | ⟨A, hA, rfl⟩
  · exact ⟨l ++ m, nli_app l m h hm.nli hm.head, .inl rfl⟩
  · exact ⟨l ++ A, nli_app l A h hA.nli hA.head, .inr (List.append_assoc _ _ _).symm⟩
set_option maxHeartbeats 8000000 in
theorem genQueryS (zs : List Int) (a : Option Addr) (c : Nat) (w : World) (h : Hid (BytesAt w a zs)) (hzl : zs.length ≤ 1048576) :
    Calls Yabn.prog 15 #[.slice a zs.length c, .bool false] w (RetLim w) := by
  have ha : Hid (0 < zs.length → ∀ p, a = some p → p.block < w.heap.size) := fun h0 p hp => by
    obtain ⟨b, off, e, hc, _⟩ := h.out 0 h0
    rw [hp] at e
    cases e
    exact cell_lt hc
  have hg : Hid (GenAt ((w.alloc (.cells #[.slice a zs.length c, .int .i64 0] 74)).alloc (.cells #[.pointer (some ⟨w.heap.size, 0, none⟩), .slice none 0 0] 76)) (w.heap.size + 1) w.heap.size a c zs 0 (.slice none 0 0) []) := by
    refine ⟨?_, ⟨(Blk.new w _ _).alloc _, Nat.zero_le _, hzl, (h.out.ext ((Ext.refl w).alloc _)).ext ((Ext.refl _).alloc _), fun h0 p hp => by have := ha.out h0 p hp; omega⟩, OwnB.nil _ _, Nat.lt_succ_self _, ha.out⟩
    have := Blk.new (w.alloc (.cells #[.slice a zs.length c, .int .i64 0] 74)) #[.pointer (some ⟨w.heap.size, 0, none⟩), .slice none 0 0] 76
    simpa using this
  have hx0 : Hid (Ext w ((w.alloc (.cells #[.slice a zs.length c, .int .i64 0] 74)).alloc (.cells #[.pointer (some ⟨w.heap.size, 0, none⟩), .slice none 0 0] 76))) := ((Ext.refl w).alloc _).alloc _
  clear ha h
  go_enter Yabn.func15, Yabn.ntmps15
  go_wp2_with fail
  generalize ((w.alloc (.cells #[.slice a zs.length c, .int .i64 0] 74)).alloc (.cells #[.pointer (some ⟨w.heap.size, 0, none⟩), .slice none 0 0] 76)) = X at *
  refine (gen_str (w.heap.size + 1) w.heap.size a c zs 0 (.slice none 0 0) [] [83, 69, 76, 69, 67, 84, 32] X hg (by simp)).mono ?_
  rintro e w1 ⟨rfl, pq, v1, lq, ⟨hpq, rfl⟩, hgq, fq⟩
  rw [hpq] at hgq
  replace hg := hide hgq
  have hf : Hid (FrG w.heap.size X w1) := fq
  clear hgq fq hpq
  go_wp2_with fail
  refine (gen_itemS (w.heap.size + 1) w.heap.size a c zs 0 v1 _ w1 hg (by simp)).mono ?_
  rintro e w2 ⟨rfl, p2, v2, l2, ⟨hp2, ⟨m2, rfl, hsm2⟩, hl2⟩, hgq, fq⟩
  have hI0 : Hid (∃ (p : Nat) (v : Value) (l : List UInt8), l.length ≤ 64 * p + 64 ∧ nli l = true ∧ GenAt w2 (w.heap.size + 1) w.heap.size a c zs p v l ∧ FrG w.heap.size X w2) :=
    ⟨p2, v2, _, by simp at hl2 ⊢; omega, nli_app _ _ rfl hsm2.nli hsm2.head, hgq, hf.out.trans fq⟩
  clear hgq fq hg hf hp2 hl2
  go_wp2
  go_loopw [] (fun wr => Hid (∃ (p : Nat) (v : Value) (l : List UInt8), l.length ≤ 64 * p + 64 ∧ nli l = true ∧ GenAt wr (w.heap.size + 1) w.heap.size a c zs p v l ∧ FrG w.heap.size X wr)) (fun wr => zs.length - posOf wr w.heap.size)
  case atStart => exact hI0
  clear hI0
  obtain ⟨p4, v4, l4, hl4, hnl, hg, hf⟩ := hrel.out
  replace hnl := hide hnl
  have hpW := hide hg.src.posOf
  replace hg := hide hg
  replace hf := hide hf
  have hps4 := hg.out.small
  clear hrel
  have k0 := hg.out.c0
  go_wp2_with fail
  clear k0
  refine (src_left w.heap.size a c zs p4 wr hg.out.src).mono ?_
  rintro e w5 ⟨b, rfl, hb, x5⟩
  replace hg := hide (hg.out.ext x5)
  replace hf : Hid (FrG w.heap.size X w5) := hf.out.trans (But.of_ext x5)
  clear x5
  cases b with
  | true =>
    have hlt : p4 < zs.length := hb.1 rfl
    clear hb
    have k0 := hg.out.c0
    go_wp2_with fail
    clear k0
    refine (src_next w.heap.size a c zs p4 w5 hg.out.src).mono ?_
    rintro e w6 ⟨u, p6, rfl, u0, u1, s2, hnp, hnq, b2⟩
    have hp6 := hnq hlt
    have hgn := hide (hg.out.next b2 s2)
    replace hf : Hid (FrG w.heap.size X w6) := hf.out.trans (FrG.of_S b2)
    clear hg
    have hg := hgn
    clear b2 s2 hgn hnp hnq
    by_cases hu3 : u % 3 = 0
    · have hu3' : (u % 3 != 0) = false := by simpa using hu3
      clear hpW
      have k0 := hg.out.c0
      go_wp2_with fail
      clear k0
      refine (gen_tailS (w.heap.size + 1) w.heap.size a c zs p6 v4 l4 w6 hg (by omega)).mono ?_
      rintro e w7 ⟨rfl, p7, v7, m, hpm, hsp, hlm, hgq, fq⟩
      have hlt9 := hide (LimT.of hnl.out hsp)
      obtain ⟨L, hL⟩ : ∃ L, l4 ++ m = L := ⟨_, rfl⟩
      rw [hL] at hgq hlt9
      obtain ⟨pm, cm, rfl, _⟩ := hgq.out.form
      have hcv := conv_any hgq.out
      have k1 := hgq.c1
      have hX7 : Hid (Ext w w7) := by
        have h1 := hf.out.trans fq
        have h2 := hx0.out.size
        exact Below.trans hx0.out (h1.below (fun k hk => hk) h2)
      have hsm9 := hgq.small
      have hln9 : Hid (L.length ≤ 1073741824) := by show _ ≤ _; rw [← hL, List.length_append]; omega
      clear hgq fq hg hf hpm hsp hL hsm9
      go_wp2
      go_ret
      exact ⟨hX7.out, _, hlt9.out, hln9.out, rfl⟩
    · have hu3' : (u % 3 != 0) = true := by simpa using hu3
      have k0 := hg.out.c0
      go_wp2_with fail
      clear k0
      refine (gen_str (w.heap.size + 1) w.heap.size a c zs p6 v4 l4 [44, 32] w6 hg (by simp only [List.length_cons, List.length_nil]; omega)).mono ?_
      rintro e w7 ⟨rfl, pq, v7, lq, ⟨hpq, rfl⟩, hgq, fq⟩
      rw [hpq] at hgq
      replace hg := hide hgq
      replace hf := hide (hf.out.trans fq)
      clear hgq fq hpq
      go_wp2_with fail
      refine (gen_itemS (w.heap.size + 1) w.heap.size a c zs p6 v7 (l4 ++ [44, 32]) w7 hg (by simp only [List.length_append, List.length_cons, List.length_nil]; omega)).mono ?_
      rintro e w8 ⟨rfl, p8, v8, l8, ⟨hp8, ⟨m8, rfl, hsm8⟩, hl8⟩, hgq, fq⟩
      simp only [List.length_append, List.length_cons, List.length_nil] at hl8
      have hI1 : Hid (∃ (p : Nat) (v : Value) (l : List UInt8), l.length ≤ 64 * p + 64 ∧ nli l = true ∧ GenAt w8 (w.heap.size + 1) w.heap.size a c zs p v l ∧ FrG w.heap.size X w8) :=
        ⟨p8, v8, _, by simp only [List.length_append, List.length_cons, List.length_nil]; omega, nli_app _ _ (nli_app _ _ hnl.out rfl (by decide)) hsm8.nli hsm8.head, hgq, hf.out.trans fq⟩
      have hpN := hide hgq.src.posOf
      have hle := hide hgq.src.le
      clear hgq fq hg hf
      go_wp2
      go_roundw
      case rel => exact hI1.out
      case measure =>
        have h6 := hle.out
        rw [hpN.out, hpW.out]
        omega
  | false =>
    clear hb hpW
    have k0 := hg.out.c0
    go_wp2_with fail
    clear k0
    refine (gen_tailS (w.heap.size + 1) w.heap.size a c zs p4 v4 l4 w5 hg (by omega)).mono ?_
    rintro e w7 ⟨rfl, p7, v7, m, hpm, hsp, hlm, hgq, fq⟩
    have hlt9 := hide (LimT.of hnl.out hsp)
    obtain ⟨L, hL⟩ : ∃ L, l4 ++ m = L := ⟨_, rfl⟩
    rw [hL] at hgq hlt9
    obtain ⟨pm, cm, rfl, _⟩ := hgq.out.form
    have hcv := conv_any hgq.out
    have k1 := hgq.c1
    have hX7 : Hid (Ext w w7) := by
      have h1 := hf.out.trans fq
      have h2 := hx0.out.size
      exact Below.trans hx0.out (h1.below (fun k hk => hk) h2)
    have hsm9 := hgq.small
    have hln9 : Hid (L.length ≤ 1073741824) := by show _ ≤ _; rw [← hL, List.length_append]; omega
    clear hgq fq hg hf hpm hsp hL hsm9
    go_wp2
    go_ret
    exact ⟨hX7.out, _, hlt9.out, hln9.out, rfl⟩
set_option maxHeartbeats 1000000 in
theorem QueryTextNoLimit (zs : List Int) (a : Option Addr) (c : Nat) (w : World) (h : Hid (BytesAt w a zs)) (hzl : zs.length ≤ 1048576) :
    Calls Yabn.prog 5 #[.slice a zs.length c] w (RetLim w) := by
  go_enter Yabn.func5, Yabn.ntmps5
  go_wp2_with fail
  refine (genQueryS zs a c w h hzl).mono ?_
  rintro e w1 ⟨x1, l, hl, hll, rfl⟩
  replace x1 := hide x1
  replace hl := hide hl
  replace hll := hide hll
  go_wp2
  go_ret
  exact ⟨x1.out, l, hl.out, hll.out, rfl⟩
end Go.Proofs.YbyabwGreat
