/- Walk: qgen.leaf -/
import Derived.Test.YbyabwGreatGen6
namespace Go.Proofs.YbyabwGreat
open Go.RowKit
set_option maxRecDepth 100000
set_option linter.unusedVariables false

theorem ItoaI (z : Int) (h0 : 0 ≤ z) (h1 : z ≤ 9223372036854775807) (w : World) : Calls Yabn.prog 6 #[.int .i64 z] w (RetStr (itoa z.toNat) w) := by
  obtain ⟨n, rfl⟩ := Int.eq_ofNat_of_zero_le h0
  rw [Int.toNat_natCast]
  exact Itoa n h1 w
theorem itoa_len20 (z : Int) (h1 : z ≤ 9223372036854775807) : (itoa z.toNat).length ≤ 20 := itoa_len 20 z.toNat (by omega) (by omega)

/-- What a leaf adds: the text of a column or of a number. -/
def LeafR (pos : Nat) (l : List UInt8) : Nat → List UInt8 → Prop := fun p t => pos ≤ p ∧ ∃ tk : Int × Int, TokOK tk ∧ (tk.1 = 13 ∨ tk.1 = 14) ∧ t = l ++ ttext tk
theorem tok13 (z : Int) (h0 : 0 ≤ z) (h1 : z ≤ 9) : TokOK (13, z) := ⟨by simp, by simp, fun _ => ⟨h0, by simp only; omega⟩, fun hh => by simp at hh, fun hh => absurd rfl hh⟩
theorem tok14 (z : Int) (h0 : 0 ≤ z) (h1 : z ≤ 9223372036854775807) : TokOK (14, z) := ⟨by simp, by simp, fun hh => by simp at hh, fun _ => ⟨h0, h1⟩, fun _ hh => absurd rfl hh⟩

set_option maxHeartbeats 8000000 in
theorem gen_leaf (G S : Nat) (a : Option Addr) (c : Nat) (zs : List Int) (pos : Nat) (v : Value) (l : List UInt8) (w : World) (h : Hid (GenAt w G S a c zs pos v l)) (hl : l.length < 2 ^ 39) :
    Calls Yabn.prog 93 #[.pointer (some ⟨G, 0, none⟩)] w (RetG G S a c zs (LeafR pos l) w) := by
  have k0 := h.out.c0
  replace hl := hide hl
  go_enter Yabn.func93, Yabn.ntmps93
  go_wp2_with fail
  refine (src_next S a c zs pos w h.out.src).mono ?_
  rintro e w2 ⟨x, pos2, rfl, x0, x1, s2, p2, _, b2⟩
  have h2 := hide (h.out.next b2 s2)
  have f2 : Hid (FrG S w w2) := FrG.of_S b2
  clear b2 s2 k0 h
  have hm : x % 4 = 0 ∨ x % 4 = 1 ∨ x % 4 = 2 ∨ x % 4 = 3 := by omega
  rcases hm with e4 | e4 | e4 | e4
  · skip
    have k0 := h2.out.c0
    go_wp2_with fail
    refine (src_next S a c zs pos2 w2 h2.out.src).mono ?_
    rintro e w3 ⟨y, pos3, rfl, y0, y1, s3, p3, _, b3⟩
    have h3 := hide (h2.out.next b3 s3)
    have f3 : Hid (FrG S w w3) := f2.out.trans (FrG.of_S b3)
    clear b3 s3 k0
    have y2 : 0 ≤ y % 10 ∧ y % 10 ≤ 9 := by omega
    generalize hz : y % 10 = z at *
    go_wp2_with fail
    refine (ItoaI z (by omega) (by omega) w3).mono ?_
    rintro e w4 ⟨rfl, x4⟩
    have h4 := hide (h3.out.ext x4)
    have f4 : Hid (FrG S w w4) := f3.out.trans (But.of_ext x4)
    have hsz := itoa_len20 z (by omega)
    clear x4
    have hcat : (({ data := #[99] } : ByteArray) ++ tx (itoa z.toNat)) = tx (99 :: itoa z.toNat) := tx_append [99] (itoa z.toNat)
    have hsz2 : ¬ 9223372036854775807 < 1 + (tx (itoa z.toNat)).size := by rw [tx_size]; omega
    go_wp2_with fail
    refine (gen_str G S a c zs pos3 v l (99 :: itoa z.toNat) w4 h4 (by have := hl.out; simp only [List.length_cons]; omega)).mono ?_
    rintro e w5 ⟨rfl, pos5, v5, l5, ⟨rfl, rfl⟩, h5, f5⟩
    replace h5 := hide h5
    replace f5 := hide (f4.out.trans f5)
    clear hcat hsz2
    go_wp2
    go_end0
    exact ⟨rfl, _, v5, _, ⟨by omega, (13, z), tok13 z (by omega) (by omega), .inl rfl, rfl⟩, h5.out, f5.out⟩
  · skip
    have k0 := h2.out.c0
    go_wp2_with fail
    refine (src_next S a c zs pos2 w2 h2.out.src).mono ?_
    rintro e w3 ⟨y, pos3, rfl, y0, y1, s3, p3, _, b3⟩
    have h3 := hide (h2.out.next b3 s3)
    have f3 : Hid (FrG S w w3) := f2.out.trans (FrG.of_S b3)
    clear b3 s3 k0
    have y2 : 0 ≤ y % 10 ∧ y % 10 ≤ 9 := by omega
    generalize hz : y % 10 = z at *
    go_wp2_with fail
    refine (ItoaI z (by omega) (by omega) w3).mono ?_
    rintro e w4 ⟨rfl, x4⟩
    have h4 := hide (h3.out.ext x4)
    have f4 : Hid (FrG S w w4) := f3.out.trans (But.of_ext x4)
    have hsz := itoa_len20 z (by omega)
    clear x4
    go_wp2_with fail
    refine (gen_str G S a c zs pos3 v l (itoa z.toNat) w4 h4 (by have := hl.out; omega)).mono ?_
    rintro e w5 ⟨rfl, pos5, v5, l5, ⟨rfl, rfl⟩, h5, f5⟩
    replace h5 := hide h5
    replace f5 := hide (f4.out.trans f5)
    go_wp2
    go_end0
    exact ⟨rfl, _, v5, _, ⟨by omega, (14, z), tok14 z (by omega) (by omega), .inr rfl, rfl⟩, h5.out, f5.out⟩
  · skip
    have k0 := h2.out.c0
    go_wp2_with fail
    refine (src_next S a c zs pos2 w2 h2.out.src).mono ?_
    rintro e w3 ⟨y, pos3, rfl, y0, y1, s3, p3, _, b3⟩
    have h3 := hide (h2.out.next b3 s3)
    have f3 : Hid (FrG S w w3) := f2.out.trans (FrG.of_S b3)
    clear b3 s3 k0
    have y2 : 0 ≤ y % 10 ∧ y % 10 ≤ 9 := by omega
    generalize hz : y % 10 = z at *
    go_wp2_with fail
    refine (ItoaI z (by omega) (by omega) w3).mono ?_
    rintro e w4 ⟨rfl, x4⟩
    have h4 := hide (h3.out.ext x4)
    have f4 : Hid (FrG S w w4) := f3.out.trans (But.of_ext x4)
    have hsz := itoa_len20 z (by omega)
    clear x4
    have hcat : (({ data := #[99] } : ByteArray) ++ tx (itoa z.toNat)) = tx (99 :: itoa z.toNat) := tx_append [99] (itoa z.toNat)
    have hsz2 : ¬ 9223372036854775807 < 1 + (tx (itoa z.toNat)).size := by rw [tx_size]; omega
    go_wp2_with fail
    refine (gen_str G S a c zs pos3 v l (99 :: itoa z.toNat) w4 h4 (by have := hl.out; simp only [List.length_cons]; omega)).mono ?_
    rintro e w5 ⟨rfl, pos5, v5, l5, ⟨rfl, rfl⟩, h5, f5⟩
    replace h5 := hide h5
    replace f5 := hide (f4.out.trans f5)
    clear hcat hsz2
    go_wp2
    go_end0
    exact ⟨rfl, _, v5, _, ⟨by omega, (13, z), tok13 z (by omega) (by omega), .inl rfl, rfl⟩, h5.out, f5.out⟩
  · have k0 := h2.out.c0
    go_wp2_with fail
    refine (valueFrom S a c zs pos2 w2 h2.out.src).mono ?_
    rintro e w3 ⟨y, pos3, rfl, y0, y1, s3, p3, b3⟩
    have h3 := hide (h2.out.next b3 s3)
    have f3 : Hid (FrG S w w3) := f2.out.trans (FrG.of_S b3)
    clear b3 s3 k0
    by_cases hy : y < 0
    · have hand := and_i64 y
      obtain ⟨z, hz⟩ : ∃ z, bits .and .i64 y 9223372036854775807 = z := ⟨_, rfl⟩
      rw [hz] at hand
      have hsz := itoa_len20 z hand.2
      go_wp2_with fail
      refine (ItoaI z hand.1 hand.2 w3).mono ?_
      rintro e w4 ⟨rfl, x4⟩
      have h4 := hide (h3.out.ext x4)
      have f4 : Hid (FrG S w w4) := f3.out.trans (But.of_ext x4)
      clear x4
      go_wp2_with fail
      refine (gen_str G S a c zs pos3 v l (itoa z.toNat) w4 h4 (by have := hl.out; omega)).mono ?_
      rintro e w5 ⟨rfl, pos5, v5, l5, ⟨rfl, rfl⟩, h5, f5⟩
      replace h5 := hide h5
      replace f5 := hide (f4.out.trans f5)
      go_wp2
      go_end0
      exact ⟨rfl, _, v5, _, ⟨by omega, (14, z), tok14 z hand.1 hand.2, .inr rfl, rfl⟩, h5.out, f5.out⟩
    · have hsz := itoa_len20 y y1
      go_wp2_with fail
      refine (ItoaI y (by omega) y1 w3).mono ?_
      rintro e w4 ⟨rfl, x4⟩
      have h4 := hide (h3.out.ext x4)
      have f4 : Hid (FrG S w w4) := f3.out.trans (But.of_ext x4)
      clear x4
      go_wp2_with fail
      refine (gen_str G S a c zs pos3 v l (itoa y.toNat) w4 h4 (by have := hl.out; omega)).mono ?_
      rintro e w5 ⟨rfl, pos5, v5, l5, ⟨rfl, rfl⟩, h5, f5⟩
      replace h5 := hide h5
      replace f5 := hide (f4.out.trans f5)
      go_wp2
      go_end0
      exact ⟨rfl, _, v5, _, ⟨by omega, (14, y), tok14 y (by omega) y1, .inr rfl, rfl⟩, h5.out, f5.out⟩
end Go.Proofs.YbyabwGreat
