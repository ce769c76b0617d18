/- laws.scTable, with a finer frame -/
import Derived.Test.YbyabwTabW
namespace Go.Proofs.Ybyabw
open Go.RowKit
set_option maxRecDepth 100000
set_option linter.unusedVariables false

def OwnTabT (w : World) (base top : Nat) (a : Option Addr) (cap : Nat) (cs : List Col) : Prop :=
  (∃ rows lo hi g, OwnV w base 29 5 (.slice a cs.length cap) rows ∧ rows.length = cs.length ∧ TabRows w rows cs lo hi 0 cs.length ∧ Spread lo hi g cs.length top ∧ (Value.slice a cs.length cap).ownBlock = some g ∧ g < top) ∨ (cs = [])
theorem OwnTab.top {w : World} {base : Nat} {a : Option Addr} {cap : Nat} {cs : List Col} (h : OwnTab w base a cap cs) : OwnTabT w base w.heap.size a cap cs := by
  rcases h with ⟨rows, lo, hi, g, T, h1, h2, h3, h4, h5, h6⟩ | h
  · exact .inl ⟨rows, lo, hi, g, h1, h2, h3, h4.mono h5, h6, (World.ownsRow.lt h1.2 g h6).2⟩
  · exact .inr h
theorem OwnTabT.ext {w w' : World} {base top : Nat} {a : Option Addr} {cap : Nat} {cs : List Col} (h : OwnTabT w base top a cap cs) (he : Ext w w') : OwnTabT w' base top a cap cs := by
  rcases h with ⟨rows, lo, hi, g, h1, h2, h3, h4, h5, h6⟩ | h
  · exact .inl ⟨rows, lo, hi, g, h1.ext he, h2, h3.ext he, h4, h5, h6⟩
  · exact .inr h

set_option maxHeartbeats 1000000 in
theorem scTableT_0 (n : Int) (a : Option Addr) (cap base top : Nat) (w : World) : Calls Yabn.prog 39 #[.agg #[.int .i64 n, .slice a 0 cap]] w (RetB base top w) := by
  have hbA : Box (w.alloc (.cells #[.int .i64 n, .slice a 0 cap] 34)) w.heap.size _ := Box.new w _ _
  have hx0 : Ext w (w.alloc (.cells #[.int .i64 n, .slice a 0 cap] 34)) := (Ext.refl w).alloc _
  replace hbA := hide hbA
  replace hx0 := hide hx0
  go_enter Yabn.func39, Yabn.ntmps39
  go_wp2
  generalize (w.alloc (.cells #[.int .i64 n, .slice a 0 cap] 34)) = W at *
  go_loopw [2] (fun i wr => i = .int .i64 0 ∧ wr = W) (fun _ _ => 0)
  case atStart => exact ⟨rfl, rfl⟩
  obtain ⟨rfl, rfl⟩ := hrel
  have m1 := hbA.out 1 _ rfl
  go_wp2
  go_end0
  exact ⟨rfl, But.of_ext hx0.out⟩

set_option maxHeartbeats 8000000 in
theorem scTableT_1 (cs : List Col) (n : Int) (g cap base top : Nat) (rows : List (List Value)) (lo hi : Nat → Nat) (w : World) (hown0 : Hid (OwnV w base 29 5 (.slice (some ⟨g, 0, none⟩) cs.length cap) rows)) (hrl0 : Hid (rows.length = cs.length)) (hrows0 : Hid (TabRows w rows cs lo hi 0 cs.length)) (hsp : Hid (Spread lo hi g cs.length top)) (hgT : g < top) (hT : top ≤ w.heap.size)
    (hl : Hid (∀ i, i < cs.length → LenC (cs.getD i col0))) (lc : cs.length < 2 ^ 39) :
    Calls Yabn.prog 39 #[.agg #[.int .i64 n, .slice (some ⟨g, 0, none⟩) cs.length cap]] w (RetB base top w) := by
  have hg1 := (OwnV.lt hown0.out).1
  have hg2 := (OwnV.lt hown0.out).2
  have hbA : Box (w.alloc (.cells #[.int .i64 n, .slice (some ⟨g, 0, none⟩) cs.length cap] 34)) w.heap.size _ := Box.new w _ _
  have hx0 : Ext w (w.alloc (.cells #[.int .i64 n, .slice (some ⟨g, 0, none⟩) cs.length cap] 34)) := (Ext.refl w).alloc _
  have hs0 : (w.alloc (.cells #[.int .i64 n, .slice (some ⟨g, 0, none⟩) cs.length cap] 34)).heap.size = w.heap.size + 1 := by simp
  replace hbA := hide hbA
  replace hx0 := hide hx0
  go_enter Yabn.func39, Yabn.ntmps39
  go_wp2
  generalize (w.alloc (.cells #[.int .i64 n, .slice (some ⟨g, 0, none⟩) cs.length cap] 34)) = W at *
  go_loopw [2] (fun i wr => ∃ (k : Nat) (rows : List (List Value)), i = .int .i64 k ∧ k ≤ cs.length ∧ Hid (rows.length = cs.length) ∧ Hid (OwnV wr base 29 5 (.slice (some ⟨g, 0, none⟩) cs.length cap) rows) ∧ Hid (TabRows wr rows cs lo hi k cs.length) ∧ Hid (But (Rng base top) W wr)) (fun i _ => cs.length - (intOf i).toNat)
  case atStart => exact ⟨0, rows, rfl, by omega, hrl0, hown0.out.ext hx0.out, hrows0.out.ext hx0.out, But.refl _ _⟩
  clear hown0 hrl0 hrows0 rows
  obtain ⟨k, rows, rfl, hk, hrl, hown, hrows, hbut⟩ := hrel
  have zW := hbut.out.size
  have hbM := hide (hbut.out.box hbA.out (by omega) (fun hr => by have := hr.2; omega))
  have m1 := hbM.out 1 _ rfl
  by_cases hlt : k < cs.length
  · have hlt' : (k : Int) < cs.length := by omega
    have hkr : k < rows.length := by have := hrl.out; omega
    obtain ⟨a1, a2, a3, a4, c1, c2, c3, c4, er, ho⟩ := hrows.out k (Nat.le_refl _) hlt
    obtain ⟨g', off, eg, hc⟩ := (OwnV.rows hown.out) k hkr
    cases eg
    rw [er] at hc
    have hlk := hide (hl.out k hlt)
    have habove := hsp.out.above k hlt
    have hbelow := hsp.out.below k hlt
    have g0 := hc 0 _ rfl
    have g1 := hc 1 _ rfl
    have g2 := hc 2 _ rfl
    have g3 := hc 3 _ rfl
    have g4 := hc 4 _ rfl
    simp only [Nat.zero_add, Nat.add_zero] at g0 g1 g2 g3 g4
    have hnx : ∀ (w1 w2 : World) (rows' : List (List Value)), But (Rng (lo k) (hi k)) wr w1 → But (fun q => q = g) w1 w2 → (∀ i, i ≠ k → rows'.getD i [] = rows.getD i []) → TabRows w2 rows' cs lo hi (k + 1) cs.length := by
      intro w1 w2 rows' b1 b2 hr
      have t1 : TabRows w1 rows cs lo hi (k + 1) cs.length := TabRows.but (fun i h1 h2 => hrows.out i (by omega) h2) b1 (fun i h1 h2 q h3 h4 h5 => by have := hsp.out.ord k i (by omega) h2; have := h5.2; omega) (fun i _ _ => rfl)
      exact t1.but b2 (fun i h1 h2 q h3 h4 h5 => by have := hsp.out.above i h2; omega) (fun i h1 _ => hr i (by omega))
    replace hnx := hide hnx
    replace ho := hide ho
    clear hc er
    generalize cs.getD k col0 = C at *
    obtain ⟨ck, cp, cd, cc, cr⟩ := C
    simp only at g0 g1 g2 g3 g4
    go_wp2_with fail
    refine (scColumn ⟨ck, cp, cd, cc, cr⟩ a1 a2 a3 a4 c1 c2 c3 c4 (lo k) (hi k) wr ho (by omega) hlk).mono ?_
    rintro e w1 ⟨rfl, b1⟩
    have z1 := b1.size
    have hown1 : OwnV w1 base 29 5 (.slice (some ⟨g, 0, none⟩) cs.length cap) rows := ⟨hown.out.1, b1.row hown.out.2 (fun q hq hr => by cases hq; have := hr.1; simp only at this; omega)⟩
    have hb1 := hide (b1.box hbM.out (by omega) (fun hr => by have := hr.2; omega))
    have m1' := hb1.out 1 _ rfl
    have ge := b1.cell g0 (fun hr => by have := hr.1; simp only at this; omega)
    have gf := OwnV.frozenAt hown1 (k * 5)
    have hst := fun u => OwnV.stored1 hown1 k 0 hkr (by omega) (.int .i64 u)
    have hgs := fun u : Int => grown_setCell w1 ⟨g, k * 5, none⟩ (.int .i64 u)
    replace hown1 := hide hown1
    replace hst := hide hst
    replace hgs := hide hgs
    replace b1 := hide b1
    replace hkr := hide hkr
    clear m1 g0 g1 g2 g3 g4 ho
    go_wp2
    refine Dr.region_text (by kernel_rfl) ?_
    go_wp2
    refine ⟨by rfl, ?_⟩
    go_wp2
    go_roundw
    case rel =>
      refine ⟨k + 1, _, by go_num, by omega, ?_, (hst.out _).drew, (hnx.out w1 _ _ b1.out (But.of_grown (hgs.out _) (fun q hq => by cases hq; rfl)) ?_).ext (Ext.refl _).drew, ?_⟩
      · simp only [Hid, List.length_set]; exact hrl.out
      · intro i hi'
        rw [getD_set_rows _ _ _ hkr.out, if_neg hi']
      · refine (hbut.out.trans (b1.out.mono ?_)).trans ((But.of_grown (S := Rng base top) (hgs.out _) ?_).trans (But.of_ext (Ext.refl _).drew))
        · intro q hq; exact ⟨by have := hq.1; omega, by have := hq.2; omega⟩
        · intro q hq; cases hq; exact ⟨hg1, hgT⟩
    case measure => simp [intOf]; omega
  · obtain rfl : k = cs.length := by omega
    clear hlt hk
    have hfin : Hid (But (Rng base top) w wr) := (But.of_ext hx0.out).trans hbut.out
    go_wp2
    go_end0
    exact ⟨rfl, hfin.out⟩

theorem scTableT (cs : List Col) (n : Int) (a : Option Addr) (cap base top : Nat) (w : World) (h : OwnTabT w base top a cap cs) (ht : top ≤ w.heap.size) (hl : Hid (∀ i, i < cs.length → LenC (cs.getD i col0))) (lc : cs.length < 2 ^ 39) :
    Calls Yabn.prog 39 #[.agg #[.int .i64 n, .slice a cs.length cap]] w (RetB base top w) := by
  rcases h with ⟨rows, lo, hi, g, h1, h2, h3, h4, h5, h6⟩ | rfl
  · obtain ⟨p, q, e, hf⟩ := h1.form
    injection e with e1 e2 e3
    subst e1
    rcases hf with ⟨rfl, _⟩ | ⟨g', rfl⟩
    · cases h5
    · obtain rfl : g' = g := by simpa [Value.ownBlock] using h5
      exact scTableT_1 cs n g' cap base top rows lo hi w h1 h2 h3 h4 h6 ht hl lc
  · exact scTableT_0 n a cap base top w
end Go.Proofs.Ybyabw
