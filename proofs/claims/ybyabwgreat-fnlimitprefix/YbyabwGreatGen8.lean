/- Walk: qgen.expr -/
import Derived.Test.YbyabwGreatGen7
namespace Go.Proofs.YbyabwGreat
open Go.RowKit
set_option maxRecDepth 100000
set_option linter.unusedVariables false
set_option linter.unusedSimpArgs false

/-- What an expression adds: some text, not too long. -/
def ExprR (pos : Nat) (l : List UInt8) : Nat → List UInt8 → Prop := fun p t => pos ≤ p ∧ (∃ m, t = l ++ m) ∧ t.length + 64 * pos ≤ l.length + 64 * p + 32
def OkG (n : Nat) : Prop := ∀ (d : Nat), d ≤ 200 → 200 - d < n → ∀ (G S : Nat) (a : Option Addr) (c : Nat) (zs : List Int) (pos : Nat) (v : Value) (l : List UInt8) (w : World), GenAt w G S a c zs pos v l → l.length ≤ 64 * pos + 1073741824 →
  Calls Yabn.prog 69 #[.pointer (some ⟨G, 0, none⟩), .int .i64 d] w (RetG G S a c zs (ExprR pos l) w)
theorem GenAt.small {w : World} {G S : Nat} {a : Option Addr} {c : Nat} {zs : List Int} {pos : Nat} {v : Value} {l : List UInt8} (h : GenAt w G S a c zs pos v l) : pos ≤ 1048576 := Nat.le_trans h.src.le h.src.len

set_option maxHeartbeats 16000000 in
theorem gen_expr1 (n : Nat) (ih : Hid (OkG n)) (d : Nat) (hd : d ≤ 200) (hn : 200 - d ≤ n) (G S : Nat) (a : Option Addr) (c : Nat) (zs : List Int) (pos : Nat) (v : Value) (l : List UInt8) (w : World) (h : Hid (GenAt w G S a c zs pos v l)) (hl : l.length ≤ 64 * pos + 1073741824) :
    Calls Yabn.prog 69 #[.pointer (some ⟨G, 0, none⟩), .int .i64 d] w (RetG G S a c zs (ExprR pos l) w) := by
  have hps := h.out.small
  have k0 := h.out.c0
  have hl39 : Hid (l.length < 2 ^ 39) := by show l.length < 2 ^ 39; omega
  go_enter Yabn.func69, Yabn.ntmps69
  go_wp2_with fail
  refine (src_left S a c zs pos w h.out.src).mono ?_
  rintro e w1 ⟨b, rfl, hb, x1⟩
  have h1 := hide (h.out.ext x1)
  have f1 : Hid (FrG S w w1) := But.of_ext x1
  clear x1 k0 h
  cases b with
  | false =>
    clear hb
    go_wp2_with fail
    refine (gen_leaf G S a c zs pos v l w1 h1 hl39.out).mono ?_
    rintro e w2 ⟨rfl, p2, v2, l2, ⟨hp, tk, ht, _, rfl⟩, h2, f2⟩
    have htl := ttext_len tk ht
    replace h2 := hide h2
    replace f2 := hide (f1.out.trans f2)
    go_wp2
    go_end0
    exact ⟨rfl, p2, v2, _, ⟨hp, ⟨_, rfl⟩, by rw [List.length_append]; omega⟩, h2.out, f2.out⟩
  | true =>
    have hlt : pos < zs.length := hb.1 rfl
    clear hb
    by_cases hd2 : ¬ d < 200
    · have hd3 : ((200 : Int) ≤ (d : Int)) := by omega
      go_wp2_with fail
      refine (gen_leaf G S a c zs pos v l w1 h1 hl39.out).mono ?_
      rintro e w2 ⟨rfl, p2, v2, l2, ⟨hp, tk, ht, _, rfl⟩, h2, f2⟩
      have htl := ttext_len tk ht
      replace h2 := hide h2
      replace f2 := hide (f1.out.trans f2)
      go_wp2
      go_end0
      exact ⟨rfl, p2, v2, _, ⟨hp, ⟨_, rfl⟩, by rw [List.length_append]; omega⟩, h2.out, f2.out⟩
    have hd2 : d < 200 := by omega
    have hd3 : ¬ ((200 : Int) ≤ (d : Int)) := by omega
    have k0 := h1.out.c0
    go_wp2_with fail
    refine (src_next S a c zs pos w1 h1.out.src).mono ?_
    rintro e w2 ⟨x, pos2, rfl, x0, x1, s2, p2, p2', b2⟩
    have hp2 := p2' hlt
    have hg := hide (h1.out.next b2 s2)
    have hf : Hid (FrG S w w2) := f1.out.trans (FrG.of_S b2)
    have hps2 := hg.out.small
    clear b2 s2 k0 h1 p2' p2 f1
    obtain ⟨m12, hm⟩ : ∃ m, m = x % 12 := ⟨_, rfl⟩
    have hm0 : 0 ≤ m12 ∧ m12 < 12 := by omega
    by_cases hleaf : m12 ≤ 3 ∨ m12 = 11
    · have hm4 : x % 12 = 0 ∨ x % 12 = 1 ∨ x % 12 = 2 ∨ x % 12 = 3 ∨ x % 12 = 11 := by omega
      clear hm hm0 hleaf
      rcases hm4 with e | e | e | e | e
      all_goals
        go_wp2_with fail
        refine (gen_leaf G S a c zs pos2 v l w2 hg hl39.out).mono ?_
        rintro e w3 ⟨rfl, p3, v3, l3, ⟨hp, tk, ht, _, rfl⟩, h3, f3⟩
        have htl := ttext_len tk ht
        replace h3 := hide h3
        replace f3 := hide (hf.out.trans f3)
        go_wp2
        go_end0
        exact ⟨rfl, p3, v3, _, ⟨by omega, ⟨_, rfl⟩, by rw [List.length_append]; omega⟩, h3.out, f3.out⟩
    · by_cases h8 : m12 = 8
      · have e : x % 12 = 8 := by omega
        clear hm hm0 hleaf h8
        go_wp2_with fail
        refine (gen_str G S a c zs pos2 v l [45, 32] w2 hg (by have := hl; first | (simp only [List.length_cons, List.length_append, List.length_nil] at this ⊢; omega) | (simp only [List.length_cons, List.length_append, List.length_nil]; omega))).mono ?_
        rintro e w3 ⟨rfl, pq, v3, lq, ⟨hpq, rfl⟩, hgq, fq⟩
        rw [hpq] at hgq
        clear hpq
        replace hg := hide hgq
        replace hf := hide (hf.out.trans fq)
        clear hgq fq
        have hrl : (l ++ [45, 32]).length ≤ 64 * pos2 + 1073741824 := by simp only [List.length_append, List.length_cons, List.length_nil]; omega
        go_wp2_with fail
        have hlr := hide hrl
        refine (ih.out (d + 1) (by omega) (by omega) G S a c zs pos2 v3 (l ++ [45, 32]) w3 hg.out hlr.out).mono ?_
        rintro e w4 ⟨rfl, p4, v4, lq, ⟨hpq, ⟨m4, rfl⟩, hlq⟩, hgq, fq⟩
        replace hg := hide hgq
        replace hf := hide (hf.out.trans fq)
        clear hgq fq hrl hlr
        go_wp2
        go_end0
        exact ⟨rfl, p4, v4, _, ⟨by omega, ⟨_, List.append_assoc _ _ _⟩, by simp only [List.length_append, List.length_cons, List.length_nil] at hlq ⊢; omega⟩, hg.out, hf.out⟩
      · by_cases h9 : m12 = 9
        · have e : x % 12 = 9 := by omega
          clear hm hm0 hleaf h8 h9
          go_wp2_with fail
          refine (gen_str G S a c zs pos2 v l [40, 78, 79, 84, 32] w2 hg (by have := hl; first | (simp only [List.length_cons, List.length_append, List.length_nil] at this ⊢; omega) | (simp only [List.length_cons, List.length_append, List.length_nil]; omega))).mono ?_
          rintro e w3 ⟨rfl, pq, v3, lq, ⟨hpq, rfl⟩, hgq, fq⟩
          rw [hpq] at hgq
          clear hpq
          replace hg := hide hgq
          replace hf := hide (hf.out.trans fq)
          clear hgq fq
          have hrl : (l ++ [40, 78, 79, 84, 32]).length ≤ 64 * pos2 + 1073741824 := by simp only [List.length_append, List.length_cons, List.length_nil]; omega
          go_wp2_with fail
          have hlr := hide hrl
          refine (ih.out (d + 1) (by omega) (by omega) G S a c zs pos2 v3 (l ++ [40, 78, 79, 84, 32]) w3 hg.out hlr.out).mono ?_
          rintro e w4 ⟨rfl, p4, v4, lq, ⟨hpq, ⟨m4, rfl⟩, hlq⟩, hgq, fq⟩
          replace hg := hide hgq
          replace hf := hide (hf.out.trans fq)
          clear hgq fq hrl hlr
          go_wp2_with fail
          have hps4 := hg.out.small
          have hq4 : (l ++ [40, 78, 79, 84, 32] ++ m4).length < 2 ^ 39 := by simp only [List.length_append, List.length_cons, List.length_nil] at hlq ⊢; omega
          refine (gen_str G S a c zs p4 v4 (l ++ [40, 78, 79, 84, 32] ++ m4) [41] w4 hg (by have := hq4; first | (simp only [List.length_cons, List.length_append, List.length_nil] at this ⊢; omega) | (simp only [List.length_cons, List.length_append, List.length_nil]; omega))).mono ?_
          rintro e w5 ⟨rfl, pq, v5, lq, ⟨hpq, rfl⟩, hgq, fq⟩
          rw [hpq] at hgq
          clear hpq
          replace hg := hide hgq
          replace hf := hide (hf.out.trans fq)
          clear hgq fq
          go_wp2
          go_end0
          exact ⟨rfl, p4, v5, _, ⟨by omega, ⟨_, by rw [List.append_assoc, List.append_assoc]⟩, by simp only [List.length_append, List.length_cons, List.length_nil] at hlq ⊢; omega⟩, hg.out, hf.out⟩
        · by_cases h10 : m12 = 10
          · have e : x % 12 = 10 := by omega
            clear hm hm0 hleaf h8 h9 h10
            go_wp2_with fail
            refine (gen_str G S a c zs pos2 v l [40] w2 hg (by have := hl; first | (simp only [List.length_cons, List.length_append, List.length_nil] at this ⊢; omega) | (simp only [List.length_cons, List.length_append, List.length_nil]; omega))).mono ?_
            rintro e w3 ⟨rfl, pq, v3, lq, ⟨hpq, rfl⟩, hgq, fq⟩
            rw [hpq] at hgq
            clear hpq
            replace hg := hide hgq
            replace hf := hide (hf.out.trans fq)
            clear hgq fq
            have hrl : (l ++ [40]).length ≤ 64 * pos2 + 1073741824 := by simp only [List.length_append, List.length_cons, List.length_nil]; omega
            go_wp2_with fail
            have hlr := hide hrl
            refine (ih.out (d + 1) (by omega) (by omega) G S a c zs pos2 v3 (l ++ [40]) w3 hg.out hlr.out).mono ?_
            rintro e w4 ⟨rfl, p4, v4, lq, ⟨hpq, ⟨m4, rfl⟩, hlq⟩, hgq, fq⟩
            replace hg := hide hgq
            replace hf := hide (hf.out.trans fq)
            clear hgq fq hrl hlr
            go_wp2_with fail
            have hps4 := hg.out.small
            have hq4 : (l ++ [40] ++ m4).length < 2 ^ 39 := by simp only [List.length_append, List.length_cons, List.length_nil] at hlq ⊢; omega
            refine (gen_str G S a c zs p4 v4 (l ++ [40] ++ m4) [41] w4 hg (by have := hq4; first | (simp only [List.length_cons, List.length_append, List.length_nil] at this ⊢; omega) | (simp only [List.length_cons, List.length_append, List.length_nil]; omega))).mono ?_
            rintro e w5 ⟨rfl, pq, v5, lq, ⟨hpq, rfl⟩, hgq, fq⟩
            rw [hpq] at hgq
            clear hpq
            replace hg := hide hgq
            replace hf := hide (hf.out.trans fq)
            clear hgq fq
            go_wp2
            go_end0
            exact ⟨rfl, p4, v5, _, ⟨by omega, ⟨_, by rw [List.append_assoc, List.append_assoc]⟩, by simp only [List.length_append, List.length_cons, List.length_nil] at hlq ⊢; omega⟩, hg.out, hf.out⟩
          · have hm4 : x % 12 = 4 ∨ x % 12 = 5 ∨ x % 12 = 6 ∨ x % 12 = 7 := by omega
            clear hm hm0 hleaf h8 h9 h10
            rcases hm4 with e | e | e | e
            · skip
              have k0 := hg.out.c0
              go_wp2_with fail
              refine (src_next S a c zs pos2 w2 hg.out.src).mono ?_
              rintro e w3 ⟨y, pos3, rfl, y0, y1, s3, p3, _, b3⟩
              have hgn := hide (hg.out.next b3 s3)
              replace hf : Hid (FrG S w w3) := hf.out.trans (FrG.of_S b3)
              clear hg
              have hg := hgn
              have hps3 := hg.out.small
              clear b3 s3 k0 hgn
              have hk1 : 4 ≤ 4 + y % 3 := by omega
              have hk2 : 4 + y % 3 ≤ 14 := by omega
              obtain ⟨k, hk⟩ : ∃ k, 4 + y % 3 = k := ⟨_, rfl⟩
              rw [hk] at hk1 hk2
              go_wp2_with fail
              refine (opText k hk1 hk2 w3).mono ?_
              rintro e w4 ⟨rfl, x4⟩
              replace hg := hide (hg.out.ext x4)
              replace hf : Hid (FrG S w w4) := hf.out.trans (But.of_ext x4)
              clear x4
              have hol := opT_len k hk1 hk2
              replace hk := hide hk
              generalize opT k = ot at *
              by_cases hpar : (x / 16 % 4 != 0) = true
              · go_wp2_with fail
                refine (gen_str G S a c zs pos3 v l [40] w4 hg (by have := hl; first | (simp only [List.length_cons, List.length_append, List.length_nil] at this ⊢; omega) | (simp only [List.length_cons, List.length_append, List.length_nil]; omega))).mono ?_
                rintro e w5 ⟨rfl, pq, v5, lq, ⟨hpq, rfl⟩, hgq, fq⟩
                rw [hpq] at hgq
                clear hpq
                replace hg := hide hgq
                replace hf := hide (hf.out.trans fq)
                clear hgq fq
                have hrl : ((l ++ [40])).length ≤ 64 * pos3 + 1073741824 := by first | omega | (simp only [List.length_append, List.length_cons, List.length_nil]; omega)
                go_wp2_with fail
                have hlr := hide hrl
                refine (ih.out (d + 1) (by omega) (by omega) G S a c zs pos3 v5 (l ++ [40]) w5 hg.out hlr.out).mono ?_
                rintro e w6 ⟨rfl, p6, v6, lq, ⟨hpq, ⟨m6, rfl⟩, hlq⟩, hgq, fq⟩
                replace hg := hide hgq
                replace hf := hide (hf.out.trans fq)
                clear hgq fq hrl hlr
                have hps6 := hg.out.small
                have hq6 : ((l ++ [40]) ++ m6).length ≤ l.length + 1 + 64 * (p6 - pos3) + 32 := by simp only [List.length_append, List.length_cons, List.length_nil] at hlq ⊢; omega
                clear hlq
                have hcat1 : (({ data := #[32] } : ByteArray) ++ tx ot) = tx (32 :: ot) := tx_append [32] ot
                have hcat2 : (tx (32 :: ot) ++ ({ data := #[32] } : ByteArray)) = tx (32 :: (ot ++ [32])) := tx_append (32 :: ot) [32]
                have hz1 : ¬ 9223372036854775807 < 1 + (tx ot).size := by rw [tx_size]; omega
                have hz2 : ¬ 9223372036854775807 < (tx (32 :: ot)).size + 1 := by rw [tx_size]; simp only [List.length_cons]; omega
                go_wp2_with fail
                refine (gen_str G S a c zs p6 v6 ((l ++ [40]) ++ m6) (32 :: (ot ++ [32])) w6 hg (by have := hq6; first | (simp only [List.length_cons, List.length_append, List.length_nil] at this ⊢; omega) | (simp only [List.length_cons, List.length_append, List.length_nil]; omega))).mono ?_
                rintro e w7 ⟨rfl, pq, v7, lq, ⟨hpq, rfl⟩, hgq, fq⟩
                rw [hpq] at hgq
                clear hpq
                replace hg := hide hgq
                replace hf := hide (hf.out.trans fq)
                clear hgq fq
                clear hcat1 hcat2 hz1 hz2
                have hrl : ((l ++ [40]) ++ m6 ++ (32 :: (ot ++ [32]))).length ≤ 64 * p6 + 1073741824 := by simp only [List.length_append, List.length_cons, List.length_nil] at hq6 ⊢; omega
                go_wp2_with fail
                have hlr := hide hrl
                refine (ih.out (d + 1) (by omega) (by omega) G S a c zs p6 v7 ((l ++ [40]) ++ m6 ++ (32 :: (ot ++ [32]))) w7 hg.out hlr.out).mono ?_
                rintro e w8 ⟨rfl, p8, v8, lq, ⟨hpq, ⟨m8, rfl⟩, hlq⟩, hgq, fq⟩
                replace hg := hide hgq
                replace hf := hide (hf.out.trans fq)
                clear hgq fq hrl hlr
                have hps8 := hg.out.small
                have hq8 : ((l ++ [40]) ++ m6 ++ (32 :: (ot ++ [32])) ++ m8).length ≤ l.length + 1 + 64 * (p8 - pos3) + 72 := by simp only [List.length_append, List.length_cons, List.length_nil] at hq6 hlq ⊢; omega
                clear hlq
                go_wp2_with fail
                refine (gen_str G S a c zs p8 v8 (l ++ [40] ++ m6 ++ (32 :: (ot ++ [32])) ++ m8) [41] w8 hg (by have := hq8; first | (simp only [List.length_cons, List.length_append, List.length_nil] at this ⊢; omega) | (simp only [List.length_cons, List.length_append, List.length_nil]; omega))).mono ?_
                rintro e w9 ⟨rfl, pq, v9, lq, ⟨hpq, rfl⟩, hgq, fq⟩
                rw [hpq] at hgq
                clear hpq
                replace hg := hide hgq
                replace hf := hide (hf.out.trans fq)
                clear hgq fq
                go_wp2
                go_end0
                exact ⟨rfl, p8, v9, _, ⟨by omega, ⟨_, by simp only [List.append_assoc]; rfl⟩, by rw [List.length_append]; simp only [List.length_cons, List.length_nil]; omega⟩, hg.out, hf.out⟩
              · have hpar : (x / 16 % 4 != 0) = false := by simpa using hpar
                have hrl : (l).length ≤ 64 * pos3 + 1073741824 := by first | omega | (simp only [List.length_append, List.length_cons, List.length_nil]; omega)
                go_wp2_with fail
                have hlr := hide hrl
                refine (ih.out (d + 1) (by omega) (by omega) G S a c zs pos3 v l w4 hg.out hlr.out).mono ?_
                rintro e w6 ⟨rfl, p6, v6, lq, ⟨hpq, ⟨m6, rfl⟩, hlq⟩, hgq, fq⟩
                replace hg := hide hgq
                replace hf := hide (hf.out.trans fq)
                clear hgq fq hrl hlr
                have hps6 := hg.out.small
                have hq6 : (l ++ m6).length ≤ l.length + 1 + 64 * (p6 - pos3) + 32 := by simp only [List.length_append, List.length_cons, List.length_nil] at hlq ⊢; omega
                clear hlq
                have hcat1 : (({ data := #[32] } : ByteArray) ++ tx ot) = tx (32 :: ot) := tx_append [32] ot
                have hcat2 : (tx (32 :: ot) ++ ({ data := #[32] } : ByteArray)) = tx (32 :: (ot ++ [32])) := tx_append (32 :: ot) [32]
                have hz1 : ¬ 9223372036854775807 < 1 + (tx ot).size := by rw [tx_size]; omega
                have hz2 : ¬ 9223372036854775807 < (tx (32 :: ot)).size + 1 := by rw [tx_size]; simp only [List.length_cons]; omega
                go_wp2_with fail
                refine (gen_str G S a c zs p6 v6 (l ++ m6) (32 :: (ot ++ [32])) w6 hg (by have := hq6; first | (simp only [List.length_cons, List.length_append, List.length_nil] at this ⊢; omega) | (simp only [List.length_cons, List.length_append, List.length_nil]; omega))).mono ?_
                rintro e w7 ⟨rfl, pq, v7, lq, ⟨hpq, rfl⟩, hgq, fq⟩
                rw [hpq] at hgq
                clear hpq
                replace hg := hide hgq
                replace hf := hide (hf.out.trans fq)
                clear hgq fq
                clear hcat1 hcat2 hz1 hz2
                have hrl : (l ++ m6 ++ (32 :: (ot ++ [32]))).length ≤ 64 * p6 + 1073741824 := by simp only [List.length_append, List.length_cons, List.length_nil] at hq6 ⊢; omega
                go_wp2_with fail
                have hlr := hide hrl
                refine (ih.out (d + 1) (by omega) (by omega) G S a c zs p6 v7 (l ++ m6 ++ (32 :: (ot ++ [32]))) w7 hg.out hlr.out).mono ?_
                rintro e w8 ⟨rfl, p8, v8, lq, ⟨hpq, ⟨m8, rfl⟩, hlq⟩, hgq, fq⟩
                replace hg := hide hgq
                replace hf := hide (hf.out.trans fq)
                clear hgq fq hrl hlr
                have hps8 := hg.out.small
                have hq8 : (l ++ m6 ++ (32 :: (ot ++ [32])) ++ m8).length ≤ l.length + 1 + 64 * (p8 - pos3) + 72 := by simp only [List.length_append, List.length_cons, List.length_nil] at hq6 hlq ⊢; omega
                clear hlq
                go_wp2
                go_end0
                exact ⟨rfl, p8, v8, _, ⟨by omega, ⟨_, by simp only [List.append_assoc]; rfl⟩, by omega⟩, hg.out, hf.out⟩
            · skip
              have k0 := hg.out.c0
              go_wp2_with fail
              refine (src_next S a c zs pos2 w2 hg.out.src).mono ?_
              rintro e w3 ⟨y, pos3, rfl, y0, y1, s3, p3, _, b3⟩
              have hgn := hide (hg.out.next b3 s3)
              replace hf : Hid (FrG S w w3) := hf.out.trans (FrG.of_S b3)
              clear hg
              have hg := hgn
              have hps3 := hg.out.small
              clear b3 s3 k0 hgn
              have hk1 : 4 ≤ 4 + y % 3 := by omega
              have hk2 : 4 + y % 3 ≤ 14 := by omega
              obtain ⟨k, hk⟩ : ∃ k, 4 + y % 3 = k := ⟨_, rfl⟩
              rw [hk] at hk1 hk2
              go_wp2_with fail
              refine (opText k hk1 hk2 w3).mono ?_
              rintro e w4 ⟨rfl, x4⟩
              replace hg := hide (hg.out.ext x4)
              replace hf : Hid (FrG S w w4) := hf.out.trans (But.of_ext x4)
              clear x4
              have hol := opT_len k hk1 hk2
              replace hk := hide hk
              generalize opT k = ot at *
              by_cases hpar : (x / 16 % 4 != 0) = true
              · go_wp2_with fail
                refine (gen_str G S a c zs pos3 v l [40] w4 hg (by have := hl; first | (simp only [List.length_cons, List.length_append, List.length_nil] at this ⊢; omega) | (simp only [List.length_cons, List.length_append, List.length_nil]; omega))).mono ?_
                rintro e w5 ⟨rfl, pq, v5, lq, ⟨hpq, rfl⟩, hgq, fq⟩
                rw [hpq] at hgq
                clear hpq
                replace hg := hide hgq
                replace hf := hide (hf.out.trans fq)
                clear hgq fq
                have hrl : ((l ++ [40])).length ≤ 64 * pos3 + 1073741824 := by first | omega | (simp only [List.length_append, List.length_cons, List.length_nil]; omega)
                go_wp2_with fail
                have hlr := hide hrl
                refine (ih.out (d + 1) (by omega) (by omega) G S a c zs pos3 v5 (l ++ [40]) w5 hg.out hlr.out).mono ?_
                rintro e w6 ⟨rfl, p6, v6, lq, ⟨hpq, ⟨m6, rfl⟩, hlq⟩, hgq, fq⟩
                replace hg := hide hgq
                replace hf := hide (hf.out.trans fq)
                clear hgq fq hrl hlr
                have hps6 := hg.out.small
                have hq6 : ((l ++ [40]) ++ m6).length ≤ l.length + 1 + 64 * (p6 - pos3) + 32 := by simp only [List.length_append, List.length_cons, List.length_nil] at hlq ⊢; omega
                clear hlq
                have hcat1 : (({ data := #[32] } : ByteArray) ++ tx ot) = tx (32 :: ot) := tx_append [32] ot
                have hcat2 : (tx (32 :: ot) ++ ({ data := #[32] } : ByteArray)) = tx (32 :: (ot ++ [32])) := tx_append (32 :: ot) [32]
                have hz1 : ¬ 9223372036854775807 < 1 + (tx ot).size := by rw [tx_size]; omega
                have hz2 : ¬ 9223372036854775807 < (tx (32 :: ot)).size + 1 := by rw [tx_size]; simp only [List.length_cons]; omega
                go_wp2_with fail
                refine (gen_str G S a c zs p6 v6 ((l ++ [40]) ++ m6) (32 :: (ot ++ [32])) w6 hg (by have := hq6; first | (simp only [List.length_cons, List.length_append, List.length_nil] at this ⊢; omega) | (simp only [List.length_cons, List.length_append, List.length_nil]; omega))).mono ?_
                rintro e w7 ⟨rfl, pq, v7, lq, ⟨hpq, rfl⟩, hgq, fq⟩
                rw [hpq] at hgq
                clear hpq
                replace hg := hide hgq
                replace hf := hide (hf.out.trans fq)
                clear hgq fq
                clear hcat1 hcat2 hz1 hz2
                have hrl : ((l ++ [40]) ++ m6 ++ (32 :: (ot ++ [32]))).length ≤ 64 * p6 + 1073741824 := by simp only [List.length_append, List.length_cons, List.length_nil] at hq6 ⊢; omega
                go_wp2_with fail
                have hlr := hide hrl
                refine (ih.out (d + 1) (by omega) (by omega) G S a c zs p6 v7 ((l ++ [40]) ++ m6 ++ (32 :: (ot ++ [32]))) w7 hg.out hlr.out).mono ?_
                rintro e w8 ⟨rfl, p8, v8, lq, ⟨hpq, ⟨m8, rfl⟩, hlq⟩, hgq, fq⟩
                replace hg := hide hgq
                replace hf := hide (hf.out.trans fq)
                clear hgq fq hrl hlr
                have hps8 := hg.out.small
                have hq8 : ((l ++ [40]) ++ m6 ++ (32 :: (ot ++ [32])) ++ m8).length ≤ l.length + 1 + 64 * (p8 - pos3) + 72 := by simp only [List.length_append, List.length_cons, List.length_nil] at hq6 hlq ⊢; omega
                clear hlq
                go_wp2_with fail
                refine (gen_str G S a c zs p8 v8 (l ++ [40] ++ m6 ++ (32 :: (ot ++ [32])) ++ m8) [41] w8 hg (by have := hq8; first | (simp only [List.length_cons, List.length_append, List.length_nil] at this ⊢; omega) | (simp only [List.length_cons, List.length_append, List.length_nil]; omega))).mono ?_
                rintro e w9 ⟨rfl, pq, v9, lq, ⟨hpq, rfl⟩, hgq, fq⟩
                rw [hpq] at hgq
                clear hpq
                replace hg := hide hgq
                replace hf := hide (hf.out.trans fq)
                clear hgq fq
                go_wp2
                go_end0
                exact ⟨rfl, p8, v9, _, ⟨by omega, ⟨_, by simp only [List.append_assoc]; rfl⟩, by rw [List.length_append]; simp only [List.length_cons, List.length_nil]; omega⟩, hg.out, hf.out⟩
              · have hpar : (x / 16 % 4 != 0) = false := by simpa using hpar
                have hrl : (l).length ≤ 64 * pos3 + 1073741824 := by first | omega | (simp only [List.length_append, List.length_cons, List.length_nil]; omega)
                go_wp2_with fail
                have hlr := hide hrl
                refine (ih.out (d + 1) (by omega) (by omega) G S a c zs pos3 v l w4 hg.out hlr.out).mono ?_
                rintro e w6 ⟨rfl, p6, v6, lq, ⟨hpq, ⟨m6, rfl⟩, hlq⟩, hgq, fq⟩
                replace hg := hide hgq
                replace hf := hide (hf.out.trans fq)
                clear hgq fq hrl hlr
                have hps6 := hg.out.small
                have hq6 : (l ++ m6).length ≤ l.length + 1 + 64 * (p6 - pos3) + 32 := by simp only [List.length_append, List.length_cons, List.length_nil] at hlq ⊢; omega
                clear hlq
                have hcat1 : (({ data := #[32] } : ByteArray) ++ tx ot) = tx (32 :: ot) := tx_append [32] ot
                have hcat2 : (tx (32 :: ot) ++ ({ data := #[32] } : ByteArray)) = tx (32 :: (ot ++ [32])) := tx_append (32 :: ot) [32]
                have hz1 : ¬ 9223372036854775807 < 1 + (tx ot).size := by rw [tx_size]; omega
                have hz2 : ¬ 9223372036854775807 < (tx (32 :: ot)).size + 1 := by rw [tx_size]; simp only [List.length_cons]; omega
                go_wp2_with fail
                refine (gen_str G S a c zs p6 v6 (l ++ m6) (32 :: (ot ++ [32])) w6 hg (by have := hq6; first | (simp only [List.length_cons, List.length_append, List.length_nil] at this ⊢; omega) | (simp only [List.length_cons, List.length_append, List.length_nil]; omega))).mono ?_
                rintro e w7 ⟨rfl, pq, v7, lq, ⟨hpq, rfl⟩, hgq, fq⟩
                rw [hpq] at hgq
                clear hpq
                replace hg := hide hgq
                replace hf := hide (hf.out.trans fq)
                clear hgq fq
                clear hcat1 hcat2 hz1 hz2
                have hrl : (l ++ m6 ++ (32 :: (ot ++ [32]))).length ≤ 64 * p6 + 1073741824 := by simp only [List.length_append, List.length_cons, List.length_nil] at hq6 ⊢; omega
                go_wp2_with fail
                have hlr := hide hrl
                refine (ih.out (d + 1) (by omega) (by omega) G S a c zs p6 v7 (l ++ m6 ++ (32 :: (ot ++ [32]))) w7 hg.out hlr.out).mono ?_
                rintro e w8 ⟨rfl, p8, v8, lq, ⟨hpq, ⟨m8, rfl⟩, hlq⟩, hgq, fq⟩
                replace hg := hide hgq
                replace hf := hide (hf.out.trans fq)
                clear hgq fq hrl hlr
                have hps8 := hg.out.small
                have hq8 : (l ++ m6 ++ (32 :: (ot ++ [32])) ++ m8).length ≤ l.length + 1 + 64 * (p8 - pos3) + 72 := by simp only [List.length_append, List.length_cons, List.length_nil] at hq6 hlq ⊢; omega
                clear hlq
                go_wp2
                go_end0
                exact ⟨rfl, p8, v8, _, ⟨by omega, ⟨_, by simp only [List.append_assoc]; rfl⟩, by omega⟩, hg.out, hf.out⟩
            · skip
              have k0 := hg.out.c0
              go_wp2_with fail
              refine (src_next S a c zs pos2 w2 hg.out.src).mono ?_
              rintro e w3 ⟨y, pos3, rfl, y0, y1, s3, p3, _, b3⟩
              have hgn := hide (hg.out.next b3 s3)
              replace hf : Hid (FrG S w w3) := hf.out.trans (FrG.of_S b3)
              clear hg
              have hg := hgn
              have hps3 := hg.out.small
              clear b3 s3 k0 hgn
              have hk1 : 4 ≤ 7 + y % 6 := by omega
              have hk2 : 7 + y % 6 ≤ 14 := by omega
              obtain ⟨k, hk⟩ : ∃ k, 7 + y % 6 = k := ⟨_, rfl⟩
              rw [hk] at hk1 hk2
              go_wp2_with fail
              refine (opText k hk1 hk2 w3).mono ?_
              rintro e w4 ⟨rfl, x4⟩
              replace hg := hide (hg.out.ext x4)
              replace hf : Hid (FrG S w w4) := hf.out.trans (But.of_ext x4)
              clear x4
              have hol := opT_len k hk1 hk2
              replace hk := hide hk
              generalize opT k = ot at *
              by_cases hpar : (x / 16 % 4 != 0) = true
              · go_wp2_with fail
                refine (gen_str G S a c zs pos3 v l [40] w4 hg (by have := hl; first | (simp only [List.length_cons, List.length_append, List.length_nil] at this ⊢; omega) | (simp only [List.length_cons, List.length_append, List.length_nil]; omega))).mono ?_
                rintro e w5 ⟨rfl, pq, v5, lq, ⟨hpq, rfl⟩, hgq, fq⟩
                rw [hpq] at hgq
                clear hpq
                replace hg := hide hgq
                replace hf := hide (hf.out.trans fq)
                clear hgq fq
                have hrl : ((l ++ [40])).length ≤ 64 * pos3 + 1073741824 := by first | omega | (simp only [List.length_append, List.length_cons, List.length_nil]; omega)
                go_wp2_with fail
                have hlr := hide hrl
                refine (ih.out (d + 1) (by omega) (by omega) G S a c zs pos3 v5 (l ++ [40]) w5 hg.out hlr.out).mono ?_
                rintro e w6 ⟨rfl, p6, v6, lq, ⟨hpq, ⟨m6, rfl⟩, hlq⟩, hgq, fq⟩
                replace hg := hide hgq
                replace hf := hide (hf.out.trans fq)
                clear hgq fq hrl hlr
                have hps6 := hg.out.small
                have hq6 : ((l ++ [40]) ++ m6).length ≤ l.length + 1 + 64 * (p6 - pos3) + 32 := by simp only [List.length_append, List.length_cons, List.length_nil] at hlq ⊢; omega
                clear hlq
                have hcat1 : (({ data := #[32] } : ByteArray) ++ tx ot) = tx (32 :: ot) := tx_append [32] ot
                have hcat2 : (tx (32 :: ot) ++ ({ data := #[32] } : ByteArray)) = tx (32 :: (ot ++ [32])) := tx_append (32 :: ot) [32]
                have hz1 : ¬ 9223372036854775807 < 1 + (tx ot).size := by rw [tx_size]; omega
                have hz2 : ¬ 9223372036854775807 < (tx (32 :: ot)).size + 1 := by rw [tx_size]; simp only [List.length_cons]; omega
                go_wp2_with fail
                refine (gen_str G S a c zs p6 v6 ((l ++ [40]) ++ m6) (32 :: (ot ++ [32])) w6 hg (by have := hq6; first | (simp only [List.length_cons, List.length_append, List.length_nil] at this ⊢; omega) | (simp only [List.length_cons, List.length_append, List.length_nil]; omega))).mono ?_
                rintro e w7 ⟨rfl, pq, v7, lq, ⟨hpq, rfl⟩, hgq, fq⟩
                rw [hpq] at hgq
                clear hpq
                replace hg := hide hgq
                replace hf := hide (hf.out.trans fq)
                clear hgq fq
                clear hcat1 hcat2 hz1 hz2
                have hrl : ((l ++ [40]) ++ m6 ++ (32 :: (ot ++ [32]))).length ≤ 64 * p6 + 1073741824 := by simp only [List.length_append, List.length_cons, List.length_nil] at hq6 ⊢; omega
                go_wp2_with fail
                have hlr := hide hrl
                refine (ih.out (d + 1) (by omega) (by omega) G S a c zs p6 v7 ((l ++ [40]) ++ m6 ++ (32 :: (ot ++ [32]))) w7 hg.out hlr.out).mono ?_
                rintro e w8 ⟨rfl, p8, v8, lq, ⟨hpq, ⟨m8, rfl⟩, hlq⟩, hgq, fq⟩
                replace hg := hide hgq
                replace hf := hide (hf.out.trans fq)
                clear hgq fq hrl hlr
                have hps8 := hg.out.small
                have hq8 : ((l ++ [40]) ++ m6 ++ (32 :: (ot ++ [32])) ++ m8).length ≤ l.length + 1 + 64 * (p8 - pos3) + 72 := by simp only [List.length_append, List.length_cons, List.length_nil] at hq6 hlq ⊢; omega
                clear hlq
                go_wp2_with fail
                refine (gen_str G S a c zs p8 v8 (l ++ [40] ++ m6 ++ (32 :: (ot ++ [32])) ++ m8) [41] w8 hg (by have := hq8; first | (simp only [List.length_cons, List.length_append, List.length_nil] at this ⊢; omega) | (simp only [List.length_cons, List.length_append, List.length_nil]; omega))).mono ?_
                rintro e w9 ⟨rfl, pq, v9, lq, ⟨hpq, rfl⟩, hgq, fq⟩
                rw [hpq] at hgq
                clear hpq
                replace hg := hide hgq
                replace hf := hide (hf.out.trans fq)
                clear hgq fq
                go_wp2
                go_end0
                exact ⟨rfl, p8, v9, _, ⟨by omega, ⟨_, by simp only [List.append_assoc]; rfl⟩, by rw [List.length_append]; simp only [List.length_cons, List.length_nil]; omega⟩, hg.out, hf.out⟩
              · have hpar : (x / 16 % 4 != 0) = false := by simpa using hpar
                have hrl : (l).length ≤ 64 * pos3 + 1073741824 := by first | omega | (simp only [List.length_append, List.length_cons, List.length_nil]; omega)
                go_wp2_with fail
                have hlr := hide hrl
                refine (ih.out (d + 1) (by omega) (by omega) G S a c zs pos3 v l w4 hg.out hlr.out).mono ?_
                rintro e w6 ⟨rfl, p6, v6, lq, ⟨hpq, ⟨m6, rfl⟩, hlq⟩, hgq, fq⟩
                replace hg := hide hgq
                replace hf := hide (hf.out.trans fq)
                clear hgq fq hrl hlr
                have hps6 := hg.out.small
                have hq6 : (l ++ m6).length ≤ l.length + 1 + 64 * (p6 - pos3) + 32 := by simp only [List.length_append, List.length_cons, List.length_nil] at hlq ⊢; omega
                clear hlq
                have hcat1 : (({ data := #[32] } : ByteArray) ++ tx ot) = tx (32 :: ot) := tx_append [32] ot
                have hcat2 : (tx (32 :: ot) ++ ({ data := #[32] } : ByteArray)) = tx (32 :: (ot ++ [32])) := tx_append (32 :: ot) [32]
                have hz1 : ¬ 9223372036854775807 < 1 + (tx ot).size := by rw [tx_size]; omega
                have hz2 : ¬ 9223372036854775807 < (tx (32 :: ot)).size + 1 := by rw [tx_size]; simp only [List.length_cons]; omega
                go_wp2_with fail
                refine (gen_str G S a c zs p6 v6 (l ++ m6) (32 :: (ot ++ [32])) w6 hg (by have := hq6; first | (simp only [List.length_cons, List.length_append, List.length_nil] at this ⊢; omega) | (simp only [List.length_cons, List.length_append, List.length_nil]; omega))).mono ?_
                rintro e w7 ⟨rfl, pq, v7, lq, ⟨hpq, rfl⟩, hgq, fq⟩
                rw [hpq] at hgq
                clear hpq
                replace hg := hide hgq
                replace hf := hide (hf.out.trans fq)
                clear hgq fq
                clear hcat1 hcat2 hz1 hz2
                have hrl : (l ++ m6 ++ (32 :: (ot ++ [32]))).length ≤ 64 * p6 + 1073741824 := by simp only [List.length_append, List.length_cons, List.length_nil] at hq6 ⊢; omega
                go_wp2_with fail
                have hlr := hide hrl
                refine (ih.out (d + 1) (by omega) (by omega) G S a c zs p6 v7 (l ++ m6 ++ (32 :: (ot ++ [32]))) w7 hg.out hlr.out).mono ?_
                rintro e w8 ⟨rfl, p8, v8, lq, ⟨hpq, ⟨m8, rfl⟩, hlq⟩, hgq, fq⟩
                replace hg := hide hgq
                replace hf := hide (hf.out.trans fq)
                clear hgq fq hrl hlr
                have hps8 := hg.out.small
                have hq8 : (l ++ m6 ++ (32 :: (ot ++ [32])) ++ m8).length ≤ l.length + 1 + 64 * (p8 - pos3) + 72 := by simp only [List.length_append, List.length_cons, List.length_nil] at hq6 hlq ⊢; omega
                clear hlq
                go_wp2
                go_end0
                exact ⟨rfl, p8, v8, _, ⟨by omega, ⟨_, by simp only [List.append_assoc]; rfl⟩, by omega⟩, hg.out, hf.out⟩
            · skip
              have k0 := hg.out.c0
              go_wp2_with fail
              refine (src_next S a c zs pos2 w2 hg.out.src).mono ?_
              rintro e w3 ⟨y, pos3, rfl, y0, y1, s3, p3, _, b3⟩
              have hgn := hide (hg.out.next b3 s3)
              replace hf : Hid (FrG S w w3) := hf.out.trans (FrG.of_S b3)
              clear hg
              have hg := hgn
              have hps3 := hg.out.small
              clear b3 s3 k0 hgn
              have hk1 : 4 ≤ 13 + y % 2 := by omega
              have hk2 : 13 + y % 2 ≤ 14 := by omega
              obtain ⟨k, hk⟩ : ∃ k, 13 + y % 2 = k := ⟨_, rfl⟩
              rw [hk] at hk1 hk2
              go_wp2_with fail
              refine (opText k hk1 hk2 w3).mono ?_
              rintro e w4 ⟨rfl, x4⟩
              replace hg := hide (hg.out.ext x4)
              replace hf : Hid (FrG S w w4) := hf.out.trans (But.of_ext x4)
              clear x4
              have hol := opT_len k hk1 hk2
              replace hk := hide hk
              generalize opT k = ot at *
              by_cases hpar : (x / 16 % 4 != 0) = true
              · go_wp2_with fail
                refine (gen_str G S a c zs pos3 v l [40] w4 hg (by have := hl; first | (simp only [List.length_cons, List.length_append, List.length_nil] at this ⊢; omega) | (simp only [List.length_cons, List.length_append, List.length_nil]; omega))).mono ?_
                rintro e w5 ⟨rfl, pq, v5, lq, ⟨hpq, rfl⟩, hgq, fq⟩
                rw [hpq] at hgq
                clear hpq
                replace hg := hide hgq
                replace hf := hide (hf.out.trans fq)
                clear hgq fq
                have hrl : ((l ++ [40])).length ≤ 64 * pos3 + 1073741824 := by first | omega | (simp only [List.length_append, List.length_cons, List.length_nil]; omega)
                go_wp2_with fail
                have hlr := hide hrl
                refine (ih.out (d + 1) (by omega) (by omega) G S a c zs pos3 v5 (l ++ [40]) w5 hg.out hlr.out).mono ?_
                rintro e w6 ⟨rfl, p6, v6, lq, ⟨hpq, ⟨m6, rfl⟩, hlq⟩, hgq, fq⟩
                replace hg := hide hgq
                replace hf := hide (hf.out.trans fq)
                clear hgq fq hrl hlr
                have hps6 := hg.out.small
                have hq6 : ((l ++ [40]) ++ m6).length ≤ l.length + 1 + 64 * (p6 - pos3) + 32 := by simp only [List.length_append, List.length_cons, List.length_nil] at hlq ⊢; omega
                clear hlq
                have hcat1 : (({ data := #[32] } : ByteArray) ++ tx ot) = tx (32 :: ot) := tx_append [32] ot
                have hcat2 : (tx (32 :: ot) ++ ({ data := #[32] } : ByteArray)) = tx (32 :: (ot ++ [32])) := tx_append (32 :: ot) [32]
                have hz1 : ¬ 9223372036854775807 < 1 + (tx ot).size := by rw [tx_size]; omega
                have hz2 : ¬ 9223372036854775807 < (tx (32 :: ot)).size + 1 := by rw [tx_size]; simp only [List.length_cons]; omega
                go_wp2_with fail
                refine (gen_str G S a c zs p6 v6 ((l ++ [40]) ++ m6) (32 :: (ot ++ [32])) w6 hg (by have := hq6; first | (simp only [List.length_cons, List.length_append, List.length_nil] at this ⊢; omega) | (simp only [List.length_cons, List.length_append, List.length_nil]; omega))).mono ?_
                rintro e w7 ⟨rfl, pq, v7, lq, ⟨hpq, rfl⟩, hgq, fq⟩
                rw [hpq] at hgq
                clear hpq
                replace hg := hide hgq
                replace hf := hide (hf.out.trans fq)
                clear hgq fq
                clear hcat1 hcat2 hz1 hz2
                have hrl : ((l ++ [40]) ++ m6 ++ (32 :: (ot ++ [32]))).length ≤ 64 * p6 + 1073741824 := by simp only [List.length_append, List.length_cons, List.length_nil] at hq6 ⊢; omega
                go_wp2_with fail
                have hlr := hide hrl
                refine (ih.out (d + 1) (by omega) (by omega) G S a c zs p6 v7 ((l ++ [40]) ++ m6 ++ (32 :: (ot ++ [32]))) w7 hg.out hlr.out).mono ?_
                rintro e w8 ⟨rfl, p8, v8, lq, ⟨hpq, ⟨m8, rfl⟩, hlq⟩, hgq, fq⟩
                replace hg := hide hgq
                replace hf := hide (hf.out.trans fq)
                clear hgq fq hrl hlr
                have hps8 := hg.out.small
                have hq8 : ((l ++ [40]) ++ m6 ++ (32 :: (ot ++ [32])) ++ m8).length ≤ l.length + 1 + 64 * (p8 - pos3) + 72 := by simp only [List.length_append, List.length_cons, List.length_nil] at hq6 hlq ⊢; omega
                clear hlq
                go_wp2_with fail
                refine (gen_str G S a c zs p8 v8 (l ++ [40] ++ m6 ++ (32 :: (ot ++ [32])) ++ m8) [41] w8 hg (by have := hq8; first | (simp only [List.length_cons, List.length_append, List.length_nil] at this ⊢; omega) | (simp only [List.length_cons, List.length_append, List.length_nil]; omega))).mono ?_
                rintro e w9 ⟨rfl, pq, v9, lq, ⟨hpq, rfl⟩, hgq, fq⟩
                rw [hpq] at hgq
                clear hpq
                replace hg := hide hgq
                replace hf := hide (hf.out.trans fq)
                clear hgq fq
                go_wp2
                go_end0
                exact ⟨rfl, p8, v9, _, ⟨by omega, ⟨_, by simp only [List.append_assoc]; rfl⟩, by rw [List.length_append]; simp only [List.length_cons, List.length_nil]; omega⟩, hg.out, hf.out⟩
              · have hpar : (x / 16 % 4 != 0) = false := by simpa using hpar
                have hrl : (l).length ≤ 64 * pos3 + 1073741824 := by first | omega | (simp only [List.length_append, List.length_cons, List.length_nil]; omega)
                go_wp2_with fail
                have hlr := hide hrl
                refine (ih.out (d + 1) (by omega) (by omega) G S a c zs pos3 v l w4 hg.out hlr.out).mono ?_
                rintro e w6 ⟨rfl, p6, v6, lq, ⟨hpq, ⟨m6, rfl⟩, hlq⟩, hgq, fq⟩
                replace hg := hide hgq
                replace hf := hide (hf.out.trans fq)
                clear hgq fq hrl hlr
                have hps6 := hg.out.small
                have hq6 : (l ++ m6).length ≤ l.length + 1 + 64 * (p6 - pos3) + 32 := by simp only [List.length_append, List.length_cons, List.length_nil] at hlq ⊢; omega
                clear hlq
                have hcat1 : (({ data := #[32] } : ByteArray) ++ tx ot) = tx (32 :: ot) := tx_append [32] ot
                have hcat2 : (tx (32 :: ot) ++ ({ data := #[32] } : ByteArray)) = tx (32 :: (ot ++ [32])) := tx_append (32 :: ot) [32]
                have hz1 : ¬ 9223372036854775807 < 1 + (tx ot).size := by rw [tx_size]; omega
                have hz2 : ¬ 9223372036854775807 < (tx (32 :: ot)).size + 1 := by rw [tx_size]; simp only [List.length_cons]; omega
                go_wp2_with fail
                refine (gen_str G S a c zs p6 v6 (l ++ m6) (32 :: (ot ++ [32])) w6 hg (by have := hq6; first | (simp only [List.length_cons, List.length_append, List.length_nil] at this ⊢; omega) | (simp only [List.length_cons, List.length_append, List.length_nil]; omega))).mono ?_
                rintro e w7 ⟨rfl, pq, v7, lq, ⟨hpq, rfl⟩, hgq, fq⟩
                rw [hpq] at hgq
                clear hpq
                replace hg := hide hgq
                replace hf := hide (hf.out.trans fq)
                clear hgq fq
                clear hcat1 hcat2 hz1 hz2
                have hrl : (l ++ m6 ++ (32 :: (ot ++ [32]))).length ≤ 64 * p6 + 1073741824 := by simp only [List.length_append, List.length_cons, List.length_nil] at hq6 ⊢; omega
                go_wp2_with fail
                have hlr := hide hrl
                refine (ih.out (d + 1) (by omega) (by omega) G S a c zs p6 v7 (l ++ m6 ++ (32 :: (ot ++ [32]))) w7 hg.out hlr.out).mono ?_
                rintro e w8 ⟨rfl, p8, v8, lq, ⟨hpq, ⟨m8, rfl⟩, hlq⟩, hgq, fq⟩
                replace hg := hide hgq
                replace hf := hide (hf.out.trans fq)
                clear hgq fq hrl hlr
                have hps8 := hg.out.small
                have hq8 : (l ++ m6 ++ (32 :: (ot ++ [32])) ++ m8).length ≤ l.length + 1 + 64 * (p8 - pos3) + 72 := by simp only [List.length_append, List.length_cons, List.length_nil] at hq6 hlq ⊢; omega
                clear hlq
                go_wp2
                go_end0
                exact ⟨rfl, p8, v8, _, ⟨by omega, ⟨_, by simp only [List.append_assoc]; rfl⟩, by omega⟩, hg.out, hf.out⟩
theorem gen_exprAll : ∀ n, OkG n := by
  intro n
  induction n with
  | zero => intro d _ hn; omega
  | succ n ih => intro d hd hn G S a c zs pos v l w h hl; exact gen_expr1 n ih d hd (by omega) G S a c zs pos v l w h hl
theorem gen_expr (G S : Nat) (a : Option Addr) (c : Nat) (zs : List Int) (pos : Nat) (v : Value) (l : List UInt8) (w : World) (h : Hid (GenAt w G S a c zs pos v l)) (hl : l.length ≤ 64 * pos + 1073741824) :
    Calls Yabn.prog 69 #[.pointer (some ⟨G, 0, none⟩), .int .i64 0] w (RetG G S a c zs (ExprR pos l) w) := gen_exprAll 201 0 (by omega) (by omega) G S a c zs pos v l w h hl
end Go.Proofs.YbyabwGreat
