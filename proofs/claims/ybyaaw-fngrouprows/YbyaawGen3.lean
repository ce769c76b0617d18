/- Walk: spec.TokensFrom -/
import Derived.Test.YbyaawGen2
import Derived.Test.YbyaawGenP
namespace Go.Proofs.Ybyaaw
open Go.RowKit
set_option maxRecDepth 100000
set_option linter.unusedVariables false

/-! ### TokensFrom -/
def RetTF (n : Nat) (w : World) : Ending → World → Prop := fun en w' => ∃ (ts : List (Int × Int)) (a : Option Addr) (cap : Nat), en = .returned (.slice a ts.length cap) ∧ ts.length ≤ n ∧ (∀ t ∈ ts, TokOK t) ∧ OwnP w' w.heap.size 107 (.slice a ts.length cap) ts ∧ Ext w w'

def posOf (w : World) (S : Nat) : Nat := (intOf ((w.cell? ⟨S, 1, none⟩).getD undef)).toNat
theorem SrcAt.posOf {w : World} {S : Nat} {a : Option Addr} {c : Nat} {zs : List Int} {pos : Nat} (h : SrcAt w S a c zs pos) : posOf w S = pos := by
  unfold Go.Proofs.Ybyaaw.posOf
  rw [h.blk.box 1 _ rfl]
  simp [intOf]

set_option maxHeartbeats 8000000 in
theorem TokensFrom (zs : List Int) (a : Option Addr) (c : Nat) (w : World) (h : Hid (BytesAt w a zs)) (hl : zs.length ≤ 1048576) :
    Calls Yaan.prog 13 #[.slice a zs.length c] w (RetTF zs.length w) := by
  have ha : Hid (0 < zs.length → ∀ p, a = some p → p.block < w.heap.size) := fun h0 p hp => by
    obtain ⟨b, off, e, hc, _⟩ := h.out 0 h0
    rw [hp] at e
    cases e
    exact cell_lt hc
  have hS0 : Hid (SrcAt (w.alloc (.cells #[.slice a zs.length c, .int .i64 0] 101)) w.heap.size a c zs 0) := ⟨Blk.new w _ _, by omega, hl, h.out.ext ((Ext.refl w).alloc _), fun h0 p hp => by have := ha.out h0 p hp; omega⟩
  have hx0 : Hid (Ext w (w.alloc (.cells #[.slice a zs.length c, .int .i64 0] 101))) := (Ext.refl w).alloc _
  have hs0 : (w.alloc (.cells #[.slice a zs.length c, .int .i64 0] 101)).heap.size = w.heap.size + 1 := by simp
  go_enter Yaan.func13, Yaan.ntmps13
  go_wp2
  generalize (w.alloc (.cells #[.slice a zs.length c, .int .i64 0] 101)) = X at *
  go_loopw [4] (fun v wr => ∃ (pos : Nat) (ts : List (Int × Int)), ts.length ≤ pos ∧ Hid (∀ t ∈ ts, TokOK t) ∧ Hid (SrcAt wr w.heap.size a c zs pos) ∧ Hid (OwnP wr (w.heap.size + 1) 107 v ts) ∧ Hid (But (fun q => q = w.heap.size ∨ w.heap.size < q) X wr)) (fun _ wr => zs.length - posOf wr w.heap.size)
  case atStart => exact ⟨0, [], by simp, (by intro t ht; cases ht), hS0, OwnP.nil _ _ _, But.refl _ _⟩
  clear hS0
  obtain ⟨pos, ts, htl, hall, hsrc, hown, hbut⟩ := hrel
  have hpW := hide hsrc.out.posOf
  have zX := hbut.out.size
  go_wp2_with fail
  refine (src_left w.heap.size a c zs pos wr hsrc).mono ?_
  rintro e w1 ⟨b, rfl, hb, x1⟩
  have b1 : Hid (But (fun q => q = w.heap.size) wr w1) := But.of_ext x1
  have hs1 := hide (hsrc.out.ext x1)
  clear x1
  cases b with
  | true =>
    have hlt : pos < zs.length := hb.1 rfl
    clear hb
    go_wp2_with fail
    refine (src_next w.heap.size a c zs pos w1 hs1).mono ?_
    rintro e w2 ⟨v, pos2, rfl, v0, v1, h2, p2, p2', b2⟩
    have hp2 := p2' hlt
    have B2 : Hid (But (fun q => q = w.heap.size) wr w2) := b1.out.trans b2
    replace h2 := hide h2
    clear b1 b2 hs1 p2' p2
    obtain ⟨m, hm⟩ : ∃ m, m = 1 + v % 26 := ⟨_, rfl⟩
    have hm1 : 1 ≤ m ∧ m ≤ 26 := by omega
    by_cases hm13 : m = 13
    · have e : v % 26 = 12 := by omega
      clear hm hm1 hm13
      have e13 : 1 + v % 26 = 13 := by omega
      go_wp2_with fail
      refine (src_next w.heap.size a c zs pos2 w2 h2).mono ?_
      rintro e w3 ⟨x, pos3, rfl, x0, x1, h3, p3, _, b3⟩
      replace h3 := hide h3
      have B3 : Hid (But (fun q => q = w.heap.size) wr w3) := B2.out.trans b3
      clear b3
      go_wp2_with fail
      refine (src_next w.heap.size a c zs pos3 w3 h3).mono ?_
      rintro e w4 ⟨y, pos4, rfl, y0, y1, h4, p4, _, b4⟩
      replace h4 := hide h4
      have B4 : Hid (But (fun q => q = w.heap.size) wr w4) := B3.out.trans b4
      clear b4
      have hor := or_i64 x y x0 x1 y0 y1
      as_aux_lemma =>
        have hok0 : Hid (TokOK (13, x * 256 + y)) := ⟨by simp, by simp, fun _ => ⟨by simp only; omega, by simp only; omega⟩, fun hh => by simp at hh, fun hh => absurd rfl hh⟩
        have ho1 := hide ((hown.out.butS B4.out (fun q hq hh => by have := hown.out.block q hq; omega)).alloc (.cells #[.int .i64 13, .int .i64 (x * 256 + y)] 107))
        have hS9 := hide (h4.out.ext ((Ext.refl _).alloc (.cells #[.int .i64 13, .int .i64 (x * 256 + y)] 107)))
        have hok : Hid (∀ t ∈ ts ++ [(13, (x * 256 + y))], TokOK t) := fun t ht => by
          rcases List.mem_append.1 ht with ht | ht
          · exact hall.out t ht
          · simp at ht; subst ht; exact hok0.out
        have zz := B4.out.size
        have hln : ts.length < 2 ^ 39 := by have := h4.out.le; omega
        have hpl := h4.out.le
        have hpo := h4.out.posOf
        replace hln := hide hln
        replace hpo := hide hpo
        go_wp2_with (at_builtin; refine app_tok rfl rfl (w.heap.size + 1) (by simp; omega) _ ts 13 (x * 256 + y) rfl ho1.out w4.heap.size 1 (by rfl) (heap_alloc_new w4 _) hln.out ?_; intro g cap w9 hown2 hgr hor hlt2; replace hgr := hide hgr; replace hown2 := hide hown2; replace hor := hide hor)
        have bT : But (fun q => w.heap.size < q) (w4.alloc (.cells #[.int .i64 13, .int .i64 (x * 256 + y)] 107)) w9 := But.of_grown hgr.out (fun q hq => by have := hown.out.block q hq; omega)
        have hS10 := hide (hS9.out.but bT (fun hh => by omega) (fun h0 p hp hh => by have := ha.out h0 p hp; omega))
        have bF : Hid (But (fun q => q = w.heap.size ∨ w.heap.size < q) X w9) := (hbut.out.trans ((B4.out.mono (fun q hq => .inl hq)).trans (But.of_ext ((Ext.refl _).alloc (.cells #[.int .i64 13, .int .i64 (x * 256 + y)] 107))))).trans (bT.mono (fun q hq => .inr hq))
        have hp10 := hS10.out.posOf
        clear bT hS9 ho1 hgr
        go_roundw
        case rel => exact ⟨pos4, ts ++ [(13, (x * 256 + y))], by simp; omega, hok.out, hS10.out, hown2.out, bF.out⟩
        case measure =>
          rw [hp10, hpW.out]
          omega
    · by_cases hm14 : m = 14
      · have e : v % 26 = 13 := by omega
        clear hm hm1 hm13 hm14
        go_wp2_with fail
        refine (valueFrom w.heap.size a c zs pos2 w2 h2).mono ?_
        rintro e w3 ⟨x, pos3, rfl, x0, x1, h3, p3, b3⟩
        replace h3 := hide h3
        have B3 : Hid (But (fun q => q = w.heap.size) wr w3) := B2.out.trans b3
        clear b3
        have hand := and_i64 x
        obtain ⟨y, hy⟩ : ∃ y, y = bits .and .i64 x 9223372036854775807 := ⟨_, rfl⟩
        rw [← hy] at hand
        have hy' := hy.symm
        clear hy
        as_aux_lemma =>
          have hok0 : Hid (TokOK (14, y)) := ⟨by simp, by simp, fun hh => by simp at hh, fun _ => hand, fun _ hh => absurd rfl hh⟩
          have ho1 := hide ((hown.out.butS B3.out (fun q hq hh => by have := hown.out.block q hq; omega)).alloc (.cells #[.int .i64 14, .int .i64 y] 107))
          have hS9 := hide (h3.out.ext ((Ext.refl _).alloc (.cells #[.int .i64 14, .int .i64 y] 107)))
          have hok : Hid (∀ t ∈ ts ++ [(14, y)], TokOK t) := fun t ht => by
            rcases List.mem_append.1 ht with ht | ht
            · exact hall.out t ht
            · simp at ht; subst ht; exact hok0.out
          have zz := B3.out.size
          have hln : ts.length < 2 ^ 39 := by have := h3.out.le; omega
          have hpl := h3.out.le
          have hpo := h3.out.posOf
          replace hln := hide hln
          replace hpo := hide hpo
          go_wp2_with (at_builtin; refine app_tok rfl rfl (w.heap.size + 1) (by simp; omega) _ ts 14 y rfl ho1.out w3.heap.size 1 (by rfl) (heap_alloc_new w3 _) hln.out ?_; intro g cap w9 hown2 hgr hor hlt2; replace hgr := hide hgr; replace hown2 := hide hown2; replace hor := hide hor)
          have bT : But (fun q => w.heap.size < q) (w3.alloc (.cells #[.int .i64 14, .int .i64 y] 107)) w9 := But.of_grown hgr.out (fun q hq => by have := hown.out.block q hq; omega)
          have hS10 := hide (hS9.out.but bT (fun hh => by omega) (fun h0 p hp hh => by have := ha.out h0 p hp; omega))
          have bF : Hid (But (fun q => q = w.heap.size ∨ w.heap.size < q) X w9) := (hbut.out.trans ((B3.out.mono (fun q hq => .inl hq)).trans (But.of_ext ((Ext.refl _).alloc (.cells #[.int .i64 14, .int .i64 y] 107))))).trans (bT.mono (fun q hq => .inr hq))
          have hp10 := hS10.out.posOf
          clear bT hS9 ho1 hgr
          go_roundw
          case rel => exact ⟨pos3, ts ++ [(14, y)], by simp; omega, hok.out, hS10.out, hown2.out, bF.out⟩
          case measure =>
            rw [hp10, hpW.out]
            omega
      · have e13 : ¬ v % 26 = 12 := by omega
        have e14 : ¬ v % 26 = 13 := by omega
        have f13 : ¬ 1 + v % 26 = 13 := by omega
        have f14 : ¬ 1 + v % 26 = 14 := by omega
        rw [hm] at hm1
        clear hm hm13 hm14 m
        as_aux_lemma =>
          have hok0 : Hid (TokOK (1 + v % 26, 0)) := ⟨hm1.1, hm1.2, fun hh => absurd hh f13, fun hh => absurd hh f14, fun _ _ => rfl⟩
          have ho1 := hide ((hown.out.butS B2.out (fun q hq hh => by have := hown.out.block q hq; omega)).alloc (.cells #[.int .i64 (1 + v % 26), .int .i64 0] 107))
          have hS9 := hide (h2.out.ext ((Ext.refl _).alloc (.cells #[.int .i64 (1 + v % 26), .int .i64 0] 107)))
          have hok : Hid (∀ t ∈ ts ++ [((1 + v % 26), 0)], TokOK t) := fun t ht => by
            rcases List.mem_append.1 ht with ht | ht
            · exact hall.out t ht
            · simp at ht; subst ht; exact hok0.out
          have zz := B2.out.size
          have hln : ts.length < 2 ^ 39 := by have := h2.out.le; omega
          have hpl := h2.out.le
          have hpo := h2.out.posOf
          replace hln := hide hln
          replace hpo := hide hpo
          go_wp2_with (at_builtin; refine app_tok rfl rfl (w.heap.size + 1) (by simp; omega) _ ts (1 + v % 26) 0 rfl ho1.out w2.heap.size 1 (by rfl) (heap_alloc_new w2 _) hln.out ?_; intro g cap w9 hown2 hgr hor hlt2; replace hgr := hide hgr; replace hown2 := hide hown2; replace hor := hide hor)
          have bT : But (fun q => w.heap.size < q) (w2.alloc (.cells #[.int .i64 (1 + v % 26), .int .i64 0] 107)) w9 := But.of_grown hgr.out (fun q hq => by have := hown.out.block q hq; omega)
          have hS10 := hide (hS9.out.but bT (fun hh => by omega) (fun h0 p hp hh => by have := ha.out h0 p hp; omega))
          have bF : Hid (But (fun q => q = w.heap.size ∨ w.heap.size < q) X w9) := (hbut.out.trans ((B2.out.mono (fun q hq => .inl hq)).trans (But.of_ext ((Ext.refl _).alloc (.cells #[.int .i64 (1 + v % 26), .int .i64 0] 107))))).trans (bT.mono (fun q hq => .inr hq))
          have hp10 := hS10.out.posOf
          clear bT hS9 ho1 hgr
          go_roundw
          case rel => exact ⟨pos2, ts ++ [((1 + v % 26), 0)], by simp; omega, hok.out, hS10.out, hown2.out, bF.out⟩
          case measure =>
            rw [hp10, hpW.out]
            omega
  | false =>
    have hend : ¬ pos < zs.length := fun hh => by have := hb.2 hh; cases this
    obtain ⟨p, q, rfl, _⟩ := hown.out.form
    have hlen := hsrc.out.le
    have O9 := hide (hown.out.butS b1.out (fun q hq hh => by have := hown.out.block q hq; omega))
    have X9 : Hid (Ext w w1) := But.ext ((But.of_ext hx0.out).trans (hbut.out.trans (b1.out.mono (fun q hq => .inl hq)))) (fun q hq => by omega)
    clear hb
    go_wp2
    go_ret
    exact ⟨ts, p, q, rfl, by omega, hall.out, O9.out.mono (by omega), X9.out⟩
end Go.Proofs.Ybyaaw
