/- Walks: laws.scRows, prRows, sepRows -/
import Derived.Test.YbyaawRowL
namespace Go.Proofs.Ybyaaw
open Go.RowKit
set_option maxRecDepth 100000
set_option linter.unusedVariables false

/-- A call that changes the rows' own memory alone. -/
def RetRM (base top : Nat) (a : Option Addr) (cap n : Nat) (f : Nat → List Int) (w : World) : Ending → World → Prop := fun en w' => en = .returned (.tuple #[]) ∧ OwnRows w' base top a cap n f ∧ But (Rng base top) w w'
def RetRS (base top : Nat) (a : Option Addr) (cap n : Nat) (f : Nat → List Int) (w : World) : Ending → World → Prop := fun en w' => en = .returned (.bool true) ∧ OwnRows w' base top a cap n f ∧ But (Rng base top) w w'

section
variable {ops : Array Oper} {rest : List Oper} {o : Oper} {a : Act} {Q : Exit → Act → World → Prop} {w : World}
theorem prb_rows (hg : o.guard = none) {s x : Operand} (ho : o.op = .call { callee := .builtin .append, args := #[s, x], argTypes := #[69, 69] })
    (base : Nat) (v : Value) (n : Nat) (ss : List Value) (y : Value) (hs : a.eval s = v) (hown : w.ownsRow base 48 1 v n ss)
    (B c : Nat) (hx : a.eval x = .slice (some ⟨B, 0, none⟩) 1 c) (hblk : w.heap[B]? = some (.cells #[y] 48 (0, 0))) (hy : y.oneCell' = true) (hb : n < 2 ^ 39)
    (h : ∀ v' w', w'.ownsRow base 48 1 v n ss → w.grownBy w' v.ownBlock → wpList Yaan.prog ops Q rest (a.put o.dst v') w') : wpList Yaan.prog ops Q (o :: rest) a w := by
  obtain ⟨i, h2, h3, h4, h5⟩ := info_parts info_row
  exact wpList_probeG hg ho 48 Yaan.underlying69 h2 h3 h4 h5 (by simp [Value.cells]) (by omega) base v n ss hs hown B c [y] hx hblk rfl (by simpa using hy) (by simp only [maxLen]; omega) (by omega) h
end

set_option maxHeartbeats 4000000 in
theorem prRows (n : Nat) (f : Nat → List Int) (a : Option Addr) (cap base top : Nat) (m : Int) (m0 : 0 ≤ m) (m1 : m < 10) (w : World) (h : Hid (OwnRows w base top a cap n f)) (hl : Hid (∀ i, i < n → (f i).length < 2 ^ 39)) (ln : n < 2 ^ 39) :
    Calls Yaan.prog 104 #[.slice a n cap, .int .i64 m] w (RetRM base top a cap n f w) := by
  obtain ⟨ss, lo, hi, g, h1, h2, h3, h4⟩ := h.out
  have hgb : 0 < n → base ≤ g := fun hn => by
    obtain ⟨g', eg, _⟩ := ownsRow_cell h1 0 hn
    subst eg
    have e := (h4 g' rfl).1
    have := (World.ownsRow.lt h1 g' rfl).1
    omega
  replace h1 := hide h1
  replace h2 := hide h2
  replace h3 := hide h3
  replace h4 := hide h4
  replace hgb := hide hgb
  clear h
  go_enter Yaan.func104, Yaan.ntmps104
  go_wp2
  go_loopw [4] (fun i wr => ∃ (k : Nat), i = .int .i64 k ∧ k ≤ n ∧ Hid (wr.ownsRow base 48 1 (.slice a n cap) n ss) ∧ Hid (RowsF wr ss f lo hi 0 n) ∧ Hid (But (Rng base top) w wr)) (fun i _ => n - (intOf i).toNat)
  case atStart => exact ⟨0, rfl, by omega, h1, h2, But.refl _ _⟩
  clear h1 h2
  obtain ⟨k, rfl, hk, hown, hrows, hbut⟩ := hrel
  by_cases hlt : k < n
  · have hlt' : (k : Int) < n := by omega
    obtain ⟨g', eg, gk⟩ := ownsRow_cell hown.out k hlt
    subst eg
    have egg := (h4.out g' rfl).1
    obtain ⟨p, q, e, hp, ht⟩ := hrows.out k (Nat.zero_le _) hlt
    rw [e] at gk
    have hlk := hide (hl.out k hlt)
    have hab := h3.out.above k hlt
    have hbl := h3.out.below k hlt
    have hgb' := hgb.out (by omega)
    have hnx : ∀ w1, But (Rng (lo k) (hi k)) wr w1 → OwnI w1 (lo k) 2 (.slice p (f k).length q) (f k) → RowsF w1 ss f lo hi 0 n := fun w1 b1 o1 i k1 k2 => by
      by_cases hik : i = k
      · subst hik; exact ⟨p, q, e, o1, ht⟩
      · obtain ⟨p2, q2, e2, o2, t2⟩ := hrows.out i k1 k2
        refine ⟨p2, q2, e2, o2.butS b1 (fun z hz hr => ?_), t2⟩
        have s1 := o2.block z hz
        have s2 := t2 z hz
        have s3 := hr.1
        have s4 := hr.2
        rcases Nat.lt_or_gt_of_ne hik with hlt2 | hlt2
        · have := h3.out.ord i k hlt2 hlt; omega
        · have := h3.out.ord k i hlt2 k2; omega
    replace hnx := hide hnx
    replace hp := hide hp
    replace ht := hide ht
    generalize hfk : f k = xs at *
    replace hfk := hide hfk
    replace egg := hide egg
    clear e
    go_wp2_with fail
    refine (prI64 xs p q (lo k) m wr hp hlk.out m0 m1).mono ?_
    rintro e w1 ⟨rfl, o1, g1⟩
    have b1 : Hid (But (Rng (lo k) (hi k)) wr w1) := But.of_grown g1 (fun z hz => ⟨hp.out.block z hz, ht.out z hz⟩)
    have ho1 : Hid (w1.ownsRow base 48 1 (.slice (some ⟨g', 0, none⟩) n cap) n ss) := b1.out.row hown.out (fun z hz hr => by cases hz; have s1 := hr.1; have s2 := egg.out; simp only at s1; omega)
    have hr1 := hide (hnx.out w1 b1.out o1)
    clear g1 o1
    go_wp2
    go_roundw
    case rel => exact ⟨k + 1, by go_num, by omega, ho1.out, hr1.out, hbut.out.trans (b1.out.mono (fun z hz => ⟨by have := hz.1; omega, by have := hz.2; omega⟩))⟩
    case measure => simp [intOf]; omega
  · obtain rfl : k = n := by omega
    clear hlt hk
    have ho2 := hide ((World.ownsRow.alloc (World.ownsRow.alloc hown.out (.cells #[.int .i64 m] 2)) (.cells #[.slice (some ⟨wr.heap.size, 0, none⟩) 1 1] 48)))
    have hr2 := hide ((hrows.out.ext ((Ext.refl wr).alloc (.cells #[.int .i64 m] 2))).ext ((Ext.refl _).alloc (.cells #[.slice (some ⟨wr.heap.size, 0, none⟩) 1 1] 48)))
    go_wp2_with (at_builtin; refine prb_rows rfl rfl base _ k ss (.slice (some ⟨wr.heap.size, 0, none⟩) 1 1) rfl ho2.out (wr.heap.size + 1) 1 (by rfl) (by simpa using heap_alloc_new (wr.alloc (.cells #[.int .i64 m] 2)) (.cells #[.slice (some ⟨wr.heap.size, 0, none⟩) 1 1] 48)) rfl ln ?_; intro v' w' ho' hbl; replace ho' := hide ho'; replace hbl := hide hbl)
    go_end0
    have hbx : But (fun q => (Value.slice a k cap).ownBlock = some q) ((wr.alloc (.cells #[.int .i64 m] 2)).alloc (.cells #[.slice (some ⟨wr.heap.size, 0, none⟩) 1 1] 48)) w' := But.of_grown hbl.out (fun q hq => hq)
    have hrr : RowsF w' ss f lo hi 0 k := hr2.out.but hbx (fun i k1 k2 q q1 q2 q3 => by have := (h4.out q q3).1; have := h3.out.above i k2; omega) (fun _ _ _ => rfl) (fun _ _ _ => rfl)
    refine ⟨rfl, ⟨ss, lo, hi, g, ho'.out, hrr, h3.out, h4.out⟩, (hbut.out.trans (But.of_ext (((Ext.refl wr).alloc _).alloc _))).trans (hbx.mono ?_)⟩
    intro q hq
    exact ⟨(World.ownsRow.lt hown.out q hq).1, (h4.out q hq).2⟩

set_option maxHeartbeats 16000000 in
theorem sepRows (n : Nat) (f : Nat → List Int) (a : Option Addr) (cap base top : Nat) (w : World) (h : Hid (OwnRows w base top a cap n f)) (ht0 : top ≤ w.heap.size) (hl : Hid (∀ i, i < n → (f i).length < 2 ^ 39)) (ln : n < 2 ^ 39) :
    Calls Yaan.prog 44 #[.slice a n cap] w (RetRS base top a cap n (fun j => (f j).map inc1) w) := by
  go_enter Yaan.func44, Yaan.ntmps44
  go_wp2_with fail
  refine (cpRows n f a cap true w h.out.at hl ln).mono ?_
  rintro e w1 ⟨pe, qe, rfl, E1, x1⟩
  have A1 := hide (h.out.ext x1)
  have z1 := x1.size
  have X1 : Hid (Ext w w1) := x1
  obtain ⟨ss1, lo1, hi1, g1, ho0, hr0, h31, h41⟩ := E1
  replace ho0 := hide ho0
  replace hr0 := hide hr0
  replace h31 := hide h31
  replace h41 := hide h41
  clear h x1
  go_wp2
  go_loopw [4] (fun i wr => ∃ (k : Nat), i = .int .i64 k ∧ k ≤ n ∧ Hid (wr.ownsRow w.heap.size 48 1 (.slice pe n qe) n ss1) ∧ Hid (RowsF wr ss1 (fun j => if j < k then (f j).map inc1 else f j) lo1 hi1 0 n) ∧ Hid (But (Rng w.heap.size w1.heap.size) w1 wr)) (fun i _ => n - (intOf i).toNat)
  case atStart => exact ⟨0, rfl, by omega, ho0.out, (by simpa [Hid] using hr0.out), But.refl _ _⟩
  clear ho0 hr0
  obtain ⟨k, rfl, hk, hown, hrows, hbut⟩ := hrel
  by_cases hlt : k < n
  · have hlt' : (k : Int) < n := by omega
    obtain ⟨g', eg, gk⟩ := ownsRow_cell hown.out k hlt
    have eg2 := eg
    obtain ⟨p, q, e, hp, ht⟩ := hrows.out k (Nat.zero_le _) hlt
    simp only [Nat.lt_irrefl, if_false] at e hp ht
    rw [e] at gk
    have hlk := hide (hl.out k hlt)
    have hab := h31.out.above k hlt
    have hbl := h31.out.below k hlt
    have egg := (h41.out g' (by rw [eg2]; rfl)).1
    have hgb' : w.heap.size ≤ g' := (World.ownsRow.lt hown.out g' (by rw [eg2]; rfl)).1
    have hnx : ∀ w1, But (Rng (lo1 k) (hi1 k)) wr w1 → OwnI w1 (lo1 k) 2 (.slice p (f k).length q) ((f k).map inc1) → RowsF w1 ss1 (fun j => if j < k + 1 then (f j).map inc1 else f j) lo1 hi1 0 n := fun w1 b1 o1 i k1 k2 => by
      by_cases hik : i = k
      · subst hik
        refine ⟨p, q, ?_, ?_, ?_⟩
        · simp only [Nat.lt_succ_self, if_true, List.length_map]; exact e
        · simp only [Nat.lt_succ_self, if_true, List.length_map]; exact o1
        · simp only [Nat.lt_succ_self, if_true, List.length_map]; exact ht
      · obtain ⟨p2, q2, e2, o2, t2⟩ := hrows.out i k1 k2
        have ef : (if i < k + 1 then (f i).map inc1 else f i) = (if i < k then (f i).map inc1 else f i) := by
          by_cases hh : i < k
          · rw [if_pos hh, if_pos (by omega)]
          · rw [if_neg hh, if_neg (by omega)]
        simp only [ef]
        refine ⟨p2, q2, e2, o2.butS b1 (fun z hz hr => ?_), t2⟩
        have s1 := o2.block z hz
        have s2 := t2 z hz
        have s3 := hr.1
        have s4 := hr.2
        rcases Nat.lt_or_gt_of_ne hik with hlt2 | hlt2
        · have := h31.out.ord i k hlt2 hlt; omega
        · have := h31.out.ord k i hlt2 k2; omega
    replace hnx := hide hnx
    replace hp := hide hp
    replace ht := hide ht
    generalize hfk : f k = xs at *
    replace hfk := hide hfk
    replace egg := hide egg
    clear e
    subst eg
    go_wp2_with fail
    refine (incI64 xs p q (lo1 k) wr hp hlk.out).mono ?_
    rintro e w1 ⟨rfl, o1, gg1⟩
    have b1 : Hid (But (Rng (lo1 k) (hi1 k)) wr w1) := But.of_grown gg1 (fun z hz => ⟨hp.out.block z hz, ht.out z hz⟩)
    have ho1 := hide (b1.out.row hown.out (fun z hz hr => by cases hz; have s1 := hr.1; have s2 := egg.out; simp only at s1; omega))
    have hr1 := hide (hnx.out w1 b1.out o1)
    clear gg1 o1
    go_wp2
    go_roundw
    case rel => exact ⟨k + 1, by go_num, by omega, ho1.out, hr1.out, hbut.out.trans (b1.out.mono (fun z hz => ⟨by have := hz.1; have := egg.out; omega, by have := hz.2; omega⟩))⟩
    case measure => simp [intOf]; omega
  obtain rfl : k = n := by omega
  clear hlt hk
  have E2 : Hid (OwnRows wr w.heap.size w1.heap.size pe qe k (fun j => (f j).map inc1)) := OwnRows.congr ⟨ss1, lo1, hi1, g1, hown.out, hrows.out, h31.out, h41.out⟩ (fun i hi => by rw [if_pos hi])
  have A2 := hide (A1.out.but hbut.out (fun q q1 q2 hr => by have := hr.1; omega))
  have X2 : Hid (Ext w wr) := But.ext ((But.of_ext X1.out).trans hbut.out) (fun q hr => hr.1)
  have z2 := hbut.out.size
  clear hown hrows hbut h31 h41 A1 X1
  obtain ⟨W2, rfl⟩ : ∃ W2, W2 = wr := ⟨_, rfl⟩
  obtain ⟨n, rfl⟩ : ∃ n, n = k := ⟨_, rfl⟩
  obtain ⟨ss2, lo2, hi2, g2, ho0, hr0, h32, h42⟩ := A2.out
  replace ho0 := hide ho0
  replace hr0 := hide hr0
  replace h32 := hide h32
  replace h42 := hide h42
  clear A2
  go_wp2
  go_loopw [5] (fun i wr => ∃ (k : Nat), i = .int .i64 k ∧ k ≤ n ∧ Hid (wr.ownsRow base 48 1 (.slice a n cap) n ss2) ∧ Hid (RowsF wr ss2 (fun j => if j < k then (f j).map inc1 else f j) lo2 hi2 0 n) ∧ Hid (But (Rng base top) W2 wr)) (fun i _ => n - (intOf i).toNat)
  case atStart => exact ⟨0, rfl, by omega, ho0.out, (by simpa [Hid] using hr0.out), But.refl _ _⟩
  clear ho0 hr0
  obtain ⟨k, rfl, hk, hown, hrows, hbut⟩ := hrel
  by_cases hlt : k < n
  · have hlt' : (k : Int) < n := by omega
    obtain ⟨g', eg, gk⟩ := ownsRow_cell hown.out k hlt
    have eg2 := eg
    obtain ⟨p, q, e, hp, ht⟩ := hrows.out k (Nat.zero_le _) hlt
    simp only [Nat.lt_irrefl, if_false] at e hp ht
    rw [e] at gk
    have hlk := hide (hl.out k hlt)
    have hab := h32.out.above k hlt
    have hbl := h32.out.below k hlt
    have egg := (h42.out g' (by rw [eg2]; rfl)).1
    have hgb' : base ≤ g' := (World.ownsRow.lt hown.out g' (by rw [eg2]; rfl)).1
    have hnx : ∀ w1, But (Rng (lo2 k) (hi2 k)) wr w1 → OwnI w1 (lo2 k) 2 (.slice p (f k).length q) ((f k).map inc1) → RowsF w1 ss2 (fun j => if j < k + 1 then (f j).map inc1 else f j) lo2 hi2 0 n := fun w1 b1 o1 i k1 k2 => by
      by_cases hik : i = k
      · subst hik
        refine ⟨p, q, ?_, ?_, ?_⟩
        · simp only [Nat.lt_succ_self, if_true, List.length_map]; exact e
        · simp only [Nat.lt_succ_self, if_true, List.length_map]; exact o1
        · simp only [Nat.lt_succ_self, if_true, List.length_map]; exact ht
      · obtain ⟨p2, q2, e2, o2, t2⟩ := hrows.out i k1 k2
        have ef : (if i < k + 1 then (f i).map inc1 else f i) = (if i < k then (f i).map inc1 else f i) := by
          by_cases hh : i < k
          · rw [if_pos hh, if_pos (by omega)]
          · rw [if_neg hh, if_neg (by omega)]
        simp only [ef]
        refine ⟨p2, q2, e2, o2.butS b1 (fun z hz hr => ?_), t2⟩
        have s1 := o2.block z hz
        have s2 := t2 z hz
        have s3 := hr.1
        have s4 := hr.2
        rcases Nat.lt_or_gt_of_ne hik with hlt2 | hlt2
        · have := h32.out.ord i k hlt2 hlt; omega
        · have := h32.out.ord k i hlt2 k2; omega
    replace hnx := hide hnx
    replace hp := hide hp
    replace ht := hide ht
    generalize hfk : f k = xs at *
    replace hfk := hide hfk
    replace egg := hide egg
    clear e
    subst eg
    go_wp2_with fail
    refine (incI64 xs p q (lo2 k) wr hp hlk.out).mono ?_
    rintro e w1 ⟨rfl, o1, gg1⟩
    have b1 : Hid (But (Rng (lo2 k) (hi2 k)) wr w1) := But.of_grown gg1 (fun z hz => ⟨hp.out.block z hz, ht.out z hz⟩)
    have ho1 := hide (b1.out.row hown.out (fun z hz hr => by cases hz; have s1 := hr.1; have s2 := egg.out; simp only at s1; omega))
    have hr1 := hide (hnx.out w1 b1.out o1)
    clear gg1 o1
    go_wp2
    go_roundw
    case rel => exact ⟨k + 1, by go_num, by omega, ho1.out, hr1.out, hbut.out.trans (b1.out.mono (fun z hz => ⟨by have := hz.1; have := egg.out; omega, by have := hz.2; omega⟩))⟩
    case measure => simp [intOf]; omega
  obtain rfl : k = n := by omega
  clear hlt hk
  have A3 : Hid (OwnRows wr base top a cap k (fun j => (f j).map inc1)) := OwnRows.congr ⟨ss2, lo2, hi2, g2, hown.out, hrows.out, h32.out, h42.out⟩ (fun i hi => by rw [if_pos hi])
  have E3 := hide (E2.out.but hbut.out (fun q q1 q2 hr => by have := hr.2; omega))
  have B3 : Hid (But (Rng base top) w wr) := (But.of_ext X2.out).trans hbut.out
  have z3 := hbut.out.size
  clear hown hrows hbut h32 h42 E2 X2
  have hl2 : Hid (∀ i, i < k → ((fun j => (f j).map inc1) i).length < 2 ^ 39) := fun i hi => by simpa using hl.out i hi
  clear hl
  generalize hF : (fun j => (f j).map inc1) = F at *
  replace hF := hide hF
  obtain ⟨W3, rfl⟩ : ∃ W3, W3 = wr := ⟨_, rfl⟩
  obtain ⟨n, rfl⟩ : ∃ n, n = k := ⟨_, rfl⟩
  go_wp2_with fail
  refine (eqRows n F a pe cap qe W3 A3.out.at E3.out.at hl2 ln).mono ?_
  rintro e w4 ⟨rfl, x4⟩
  have A4 := hide (A3.out.ext x4)
  have E4 := hide (E3.out.ext x4)
  have B4 : Hid (But (Rng base top) w w4) := B3.out.trans (But.of_ext x4)
  have z4 := x4.size
  clear x4 A3 E3 B3
  go_wp2_with fail
  go_loopw [6] (fun i wr => ∃ m : Nat, i = .int .i64 m ∧ m ≤ 2 ∧ Hid (OwnRows wr base top a cap n F) ∧ Hid (But (Rng base top) w4 wr)) (fun i _ => 2 - (intOf i).toNat)
  case atStart => exact ⟨0, rfl, by omega, A4, But.refl _ _⟩
  clear A4
  obtain ⟨m, rfl, hm, A5, B5⟩ := hrel
  by_cases hm2 : m < 2
  · have hm2' : (m : Int) < 2 := by omega
    go_wp2_with fail
    refine (prRows n F a cap base top m (by omega) (by omega) wr A5 hl2 ln).mono ?_
    rintro e w6 ⟨rfl, A6, B6⟩
    have E6 := hide (E4.out.but (B5.out.trans B6) (fun q q1 q2 hr => by have := hr.2; omega))
    replace A6 := hide A6
    replace B6 := hide B6
    go_wp2_with fail
    refine (eqRows n F a pe cap qe w6 A6.out.at E6.out.at hl2 ln).mono ?_
    rintro e w7 ⟨rfl, x7⟩
    replace x7 := hide x7
    go_wp2
    go_roundw
    case rel => exact ⟨m + 1, by go_num, by omega, A6.out.ext x7.out, (B5.out.trans B6.out).trans (But.of_ext x7.out)⟩
    case measure => simp [intOf]; omega
  · obtain rfl : m = 2 := by omega
    clear hm hm2
    go_wp2
    go_ret
    exact ⟨rfl, by rw [hF.out]; exact A5.out, B4.out.trans B5.out⟩
end Go.Proofs.Ybyaaw
