/- Walk: qgen.item -/
import Derived.Test.YbyabwGreatGenS9
import Derived.Test.YbyabwGreatGen10
namespace Go.Proofs.YbyabwGreat
open Go.RowKit
set_option maxRecDepth 100000
set_option linter.unusedVariables false
set_option linter.unusedSimpArgs false

def ItemS (pos : Nat) (l : List UInt8) : Nat → List UInt8 → Prop := fun p t => pos ≤ p ∧ (∃ m, t = l ++ m ∧ Sf m) ∧ t.length + 64 * pos ≤ l.length + 64 * p + 48
set_option maxHeartbeats 8000000 in
theorem gen_itemS (G S : Nat) (a : Option Addr) (c : Nat) (zs : List Int) (pos : Nat) (v : Value) (l : List UInt8) (w : World) (h : Hid (GenAt w G S a c zs pos v l)) (hl : l.length ≤ 64 * pos + 536870912) :
    Calls Yabn.prog 29 #[.pointer (some ⟨G, 0, none⟩)] w (RetG G S a c zs (ItemS pos l) w) := by
  have hg := h
  have hf : Hid (FrG S w w) := But.refl _ _
  have k0 := hg.out.c0
  go_enter Yabn.func29, Yabn.ntmps29
  go_wp2_with fail
  clear k0 h
  refine (src_next S a c zs pos w hg.out.src).mono ?_
  rintro e w1 ⟨x, p1, rfl, x0, x1, s2, hnp, hnq, b2⟩
  have hgn := hide (hg.out.next b2 s2)
  replace hf : Hid (FrG S w w1) := hf.out.trans (FrG.of_S b2)
  clear hg
  have hg := hgn
  clear b2 s2 hgn hnq
  have hps := hg.out.small
  have hm : x % 9 = 0 ∨ x % 9 = 1 ∨ x % 9 = 2 ∨ x % 9 = 3 ∨ x % 9 = 4 ∨ x % 9 = 5 ∨ x % 9 = 6 ∨ x % 9 = 7 ∨ x % 9 = 8 := by omega
  rcases hm with e | e | e | e | e | e | e | e | e
  · skip
    go_wp2_with fail
    refine (gen_str G S a c zs p1 v l [83, 85, 77, 40] w1 hg (by simp only [List.length_cons, List.length_nil]; omega)).mono ?_
    rintro e w2 ⟨rfl, pq, v2, lq, ⟨hpq, rfl⟩, hgq, fq⟩
    rw [hpq] at hgq
    replace hg := hide hgq
    replace hf := hide (hf.out.trans fq)
    clear hgq fq hpq
    go_wp2_with fail
    refine (gen_exprS G S a c zs p1 v2 (l ++ [83, 85, 77, 40]) w2 hg (by simp only [List.length_append, List.length_cons, List.length_nil]; omega)).mono ?_
    rintro e w3 ⟨rfl, p3, v3, lq, ⟨hpq, ⟨m3, rfl, hsm3⟩, hlq⟩, hgq, fq⟩; replace hsm3 := hide hsm3
    replace hg := hide hgq
    replace hf := hide (hf.out.trans fq)
    clear hgq fq
    have hps3 := hg.out.small
    simp only [List.length_append, List.length_cons, List.length_nil] at hlq
    go_wp2_with fail
    refine (gen_str G S a c zs p3 v3 (l ++ [83, 85, 77, 40] ++ m3) [41] w3 hg (by simp only [List.length_append, List.length_cons, List.length_nil]; omega)).mono ?_
    rintro e w4 ⟨rfl, pq, v4, lq, ⟨hpr, rfl⟩, hgq, fq⟩
    rw [hpr] at hgq
    replace hg := hide hgq
    replace hf := hide (hf.out.trans fq)
    clear hgq fq hpr
    go_wp2
    go_end0
    exact ⟨rfl, p3, v4, _, ⟨by omega, ⟨[83, 85, 77, 40] ++ (m3 ++ [41]), by rw [List.append_assoc, List.append_assoc], Sf.app (Sf.lit rfl) (Sf.app hsm3.out (Sf.lit rfl))⟩, by simp only [List.length_append, List.length_cons, List.length_nil]; omega⟩, hg.out, hf.out⟩
  · skip
    go_wp2_with fail
    refine (gen_str G S a c zs p1 v l [77, 73, 78, 40] w1 hg (by simp only [List.length_cons, List.length_nil]; omega)).mono ?_
    rintro e w2 ⟨rfl, pq, v2, lq, ⟨hpq, rfl⟩, hgq, fq⟩
    rw [hpq] at hgq
    replace hg := hide hgq
    replace hf := hide (hf.out.trans fq)
    clear hgq fq hpq
    go_wp2_with fail
    refine (gen_exprS G S a c zs p1 v2 (l ++ [77, 73, 78, 40]) w2 hg (by simp only [List.length_append, List.length_cons, List.length_nil]; omega)).mono ?_
    rintro e w3 ⟨rfl, p3, v3, lq, ⟨hpq, ⟨m3, rfl, hsm3⟩, hlq⟩, hgq, fq⟩; replace hsm3 := hide hsm3
    replace hg := hide hgq
    replace hf := hide (hf.out.trans fq)
    clear hgq fq
    have hps3 := hg.out.small
    simp only [List.length_append, List.length_cons, List.length_nil] at hlq
    go_wp2_with fail
    refine (gen_str G S a c zs p3 v3 (l ++ [77, 73, 78, 40] ++ m3) [41] w3 hg (by simp only [List.length_append, List.length_cons, List.length_nil]; omega)).mono ?_
    rintro e w4 ⟨rfl, pq, v4, lq, ⟨hpr, rfl⟩, hgq, fq⟩
    rw [hpr] at hgq
    replace hg := hide hgq
    replace hf := hide (hf.out.trans fq)
    clear hgq fq hpr
    go_wp2
    go_end0
    exact ⟨rfl, p3, v4, _, ⟨by omega, ⟨[77, 73, 78, 40] ++ (m3 ++ [41]), by rw [List.append_assoc, List.append_assoc], Sf.app (Sf.lit rfl) (Sf.app hsm3.out (Sf.lit rfl))⟩, by simp only [List.length_append, List.length_cons, List.length_nil]; omega⟩, hg.out, hf.out⟩
  · skip
    go_wp2_with fail
    refine (gen_str G S a c zs p1 v l [77, 65, 88, 40] w1 hg (by simp only [List.length_cons, List.length_nil]; omega)).mono ?_
    rintro e w2 ⟨rfl, pq, v2, lq, ⟨hpq, rfl⟩, hgq, fq⟩
    rw [hpq] at hgq
    replace hg := hide hgq
    replace hf := hide (hf.out.trans fq)
    clear hgq fq hpq
    go_wp2_with fail
    refine (gen_exprS G S a c zs p1 v2 (l ++ [77, 65, 88, 40]) w2 hg (by simp only [List.length_append, List.length_cons, List.length_nil]; omega)).mono ?_
    rintro e w3 ⟨rfl, p3, v3, lq, ⟨hpq, ⟨m3, rfl, hsm3⟩, hlq⟩, hgq, fq⟩; replace hsm3 := hide hsm3
    replace hg := hide hgq
    replace hf := hide (hf.out.trans fq)
    clear hgq fq
    have hps3 := hg.out.small
    simp only [List.length_append, List.length_cons, List.length_nil] at hlq
    go_wp2_with fail
    refine (gen_str G S a c zs p3 v3 (l ++ [77, 65, 88, 40] ++ m3) [41] w3 hg (by simp only [List.length_append, List.length_cons, List.length_nil]; omega)).mono ?_
    rintro e w4 ⟨rfl, pq, v4, lq, ⟨hpr, rfl⟩, hgq, fq⟩
    rw [hpr] at hgq
    replace hg := hide hgq
    replace hf := hide (hf.out.trans fq)
    clear hgq fq hpr
    go_wp2
    go_end0
    exact ⟨rfl, p3, v4, _, ⟨by omega, ⟨[77, 65, 88, 40] ++ (m3 ++ [41]), by rw [List.append_assoc, List.append_assoc], Sf.app (Sf.lit rfl) (Sf.app hsm3.out (Sf.lit rfl))⟩, by simp only [List.length_append, List.length_cons, List.length_nil]; omega⟩, hg.out, hf.out⟩
  · skip
    go_wp2_with fail
    refine (gen_str G S a c zs p1 v l [67, 79, 85, 78, 84, 40] w1 hg (by simp only [List.length_cons, List.length_nil]; omega)).mono ?_
    rintro e w2 ⟨rfl, pq, v2, lq, ⟨hpq, rfl⟩, hgq, fq⟩
    rw [hpq] at hgq
    replace hg := hide hgq
    replace hf := hide (hf.out.trans fq)
    clear hgq fq hpq
    go_wp2_with fail
    refine (gen_exprS G S a c zs p1 v2 (l ++ [67, 79, 85, 78, 84, 40]) w2 hg (by simp only [List.length_append, List.length_cons, List.length_nil]; omega)).mono ?_
    rintro e w3 ⟨rfl, p3, v3, lq, ⟨hpq, ⟨m3, rfl, hsm3⟩, hlq⟩, hgq, fq⟩; replace hsm3 := hide hsm3
    replace hg := hide hgq
    replace hf := hide (hf.out.trans fq)
    clear hgq fq
    have hps3 := hg.out.small
    simp only [List.length_append, List.length_cons, List.length_nil] at hlq
    go_wp2_with fail
    refine (gen_str G S a c zs p3 v3 (l ++ [67, 79, 85, 78, 84, 40] ++ m3) [41] w3 hg (by simp only [List.length_append, List.length_cons, List.length_nil]; omega)).mono ?_
    rintro e w4 ⟨rfl, pq, v4, lq, ⟨hpr, rfl⟩, hgq, fq⟩
    rw [hpr] at hgq
    replace hg := hide hgq
    replace hf := hide (hf.out.trans fq)
    clear hgq fq hpr
    go_wp2
    go_end0
    exact ⟨rfl, p3, v4, _, ⟨by omega, ⟨[67, 79, 85, 78, 84, 40] ++ (m3 ++ [41]), by rw [List.append_assoc, List.append_assoc], Sf.app (Sf.lit rfl) (Sf.app hsm3.out (Sf.lit rfl))⟩, by simp only [List.length_append, List.length_cons, List.length_nil]; omega⟩, hg.out, hf.out⟩
  · go_wp2_with fail
    refine (gen_str G S a c zs p1 v l [67, 79, 85, 78, 84, 40, 42, 41] w1 hg (by simp only [List.length_cons, List.length_nil]; omega)).mono ?_
    rintro e w2 ⟨rfl, pq, v2, lq, ⟨hpq, rfl⟩, hgq, fq⟩
    rw [hpq] at hgq
    replace hg := hide hgq
    replace hf := hide (hf.out.trans fq)
    clear hgq fq hpq
    go_wp2
    go_end0
    exact ⟨rfl, p1, v2, _, ⟨by omega, ⟨[67, 79, 85, 78, 84, 40, 42, 41], rfl, Sf.lit rfl⟩, by simp only [List.length_append, List.length_cons, List.length_nil]; omega⟩, hg.out, hf.out⟩
  all_goals
    go_wp2_with fail
    refine (gen_exprS G S a c zs p1 v l w1 hg (by omega)).mono ?_
    rintro e w3 ⟨rfl, p3, v3, lq, ⟨hpq, ⟨m3, rfl, hsm3⟩, hlq⟩, hgq, fq⟩; replace hsm3 := hide hsm3
    replace hg := hide hgq
    replace hf := hide (hf.out.trans fq)
    clear hgq fq
    go_wp2
    go_end0
    exact ⟨rfl, p3, v3, _, ⟨by omega, ⟨m3, rfl, hsm3.out⟩, by omega⟩, hg.out, hf.out⟩
end Go.Proofs.YbyabwGreat
