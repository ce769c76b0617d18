/- Walks: impl.decodeAll, impl.rowOf, impl.selectRows -/
import Derived.Test.YbyabwGreatEx2
import Derived.Test.YbyabwGreatEval2k
import Derived.Test.YbyabwGreatRowL
import Derived.Test.YbyabwGreatStI
namespace Go.Proofs.YbyabwGreat
open Go.RowKit
set_option maxRecDepth 100000
set_option linter.unusedVariables false
set_option linter.unusedSimpArgs false

/-- The decoded columns. -/
def colF (cs : List Col) : Nat → List Int := fun j => dec (cs.getD j col0)
def RetIR (n : Nat) (f : Nat → List Int) (w : World) : Ending → World → Prop := fun en w' => ∃ a cap, en = .returned (.slice a n cap) ∧ IRows w' a n f ∧ Ext w w'
def RwF (w : World) (base : Nat) (ss : List Value) (f : Nat → List Int) (k : Nat) : Prop := ∀ i, i < k → ∃ a c, ss.getD i nilV = .slice a (f i).length c ∧ OwnI w base 2 (.slice a (f i).length c) (f i)
theorem size_row1 : (Yabn.prog.info? 23).map (·.size) = some 1 := by kernel_rfl
set_option maxHeartbeats 4000000 in
theorem decodeAll (cs : List Col) (n : Nat) (a : Option Addr) (cap : Nat) (w : World) (h : Hid (ColsAt w a cs)) (hv : Hid (ValidT cs n)) :
    Calls Yabn.prog 48 #[.agg #[.int .i64 n, .slice a cs.length cap]] w (RetIR cs.length (colF cs) w) := by
  have lc : cs.length ≤ 256 := hv.out.2.2.1
  have hB0 : Hid (Blk (w.alloc (.cells #[.int .i64 n, .slice a cs.length cap] 27)) w.heap.size 27 [.int .i64 n, .slice a cs.length cap]) := Blk.new w _ _
  have hX0 : Hid (Ext w (w.alloc (.cells #[.int .i64 n, .slice a cs.length cap] 27))) := (Ext.refl w).alloc _
  have hs0 : (w.alloc (.cells #[.int .i64 n, .slice a cs.length cap] 27)).heap.size = w.heap.size + 1 := by simp
  go_enter Yabn.func48, Yabn.ntmps48
  go_wp2_with (at_make; refine mk_rows rfl rfl cs.length rfl rfl (by omega) (w.heap.size + 1) (by simp) ?_; intro w1 O1 x1 z1; have hB1 := hide (hB0.out.ext x1); have hX1 : Hid (Ext w w1) := hX0.out.trans x1; replace O1 := hide O1; clear x1 hB0 hX0)
  obtain ⟨N, hN⟩ : ∃ N, w.heap.size + 1 = N := ⟨_, rfl⟩
  rw [hN] at O1 z1
  simp only [hN]
  go_loopw [4] (fun i wr => ∃ (k : Nat) (ss : List Value), i = .int .i64 k ∧ k ≤ cs.length ∧ Hid (wr.ownsRow N 23 1 (.slice (some ⟨N, 0, none⟩) cs.length cs.length) cs.length ss) ∧ Hid (RwF wr (N + 1) ss (colF cs) k) ∧ Hid (Blk wr w.heap.size 27 [.int .i64 n, .slice a cs.length cap]) ∧ Hid (Ext w wr) ∧ N + 1 ≤ wr.heap.size) (fun i _ => cs.length - (intOf i).toNat)
  case atStart => exact ⟨0, _, rfl, Nat.zero_le _, O1, fun i hi => by omega, hB1, hX1, by omega⟩
  clear O1 hB1 hX1 z1
  obtain ⟨k, ss, rfl, hk, hO, hR, hB, hX, hsz⟩ := hrel
  have t0 := hB.out.box 0 _ rfl
  have t1 := hB.out.box 1 _ rfl
  by_cases hlt : k < cs.length
  · have hlt' : (k : Int) < cs.length := by omega
    obtain ⟨b, off, a1, a2, a3, a4, c1, c2, c3, c4, rfl, ⟨g0, g1, g2, g3, g4⟩, hc, hl⟩ := (h.out.ext hX.out) k hlt
    have hval := hide (hv.out.2.2.2 k hlt)
    have hcf : Hid (colF cs k = dec (cs.getD k col0)) := rfl
    obtain ⟨⟨kind, pl, di, co, ru⟩, hck⟩ : ∃ c, Hid (cs.getD k col0 = c) := ⟨_, rfl⟩
    rw [hck.out] at g0 g1 g2 g3 g4 hc hval hcf
    simp only at g0 g1 g2 g3 g4
    replace hc := hide hc
    have hls : ss.length = cs.length := by have := hO.out.1; omega
    clear hl
    go_wp2_with fail
    refine Dr.region_text (by kernel_rfl) ?_
    go_wp2_with fail
    refine (decodeCol kind pl di co ru a1 a2 a3 a4 c1 c2 c3 c4 n wr.drew (hc.out.ext (Ext.refl wr).drew) hval.out).mono ?_
    rintro e v1 ⟨p, q, rfl, o1, x1⟩
    have hO1 := hide (ownsRow_ext hO.out ((Ext.refl wr).drew.trans x1))
    have hB1 := hide (hB.out.ext ((Ext.refl wr).drew.trans x1))
    have hX1 : Hid (Ext w v1) := hX.out.drew.trans x1
    have hR1 : Hid (RwF v1 (N + 1) ss (colF cs) k) := fun i hi => by
      obtain ⟨a, c, e, ho⟩ := hR.out i hi
      exact ⟨a, c, e, ho.ext ((Ext.refl wr).drew.trans x1)⟩
    have o1' : Hid (OwnI v1 (N + 1) 2 (.slice p (colF cs k).length q) (colF cs k)) := by
      rw [hcf.out]
      exact OwnI.mono o1 hsz
    have hsz1 : N + 1 ≤ v1.heap.size := by have := x1.size; simp only [World.drew] at this; omega
    obtain ⟨g', eg, gk⟩ := ownsRow_cell hO1.out k hlt
    cases eg
    have fk := World.ownsRow.frozenAt hO1.out k
    rw [show (dec ⟨kind, pl, di, co, ru⟩).length = (colF cs k).length by rw [hcf.out]]
    clear x1 o1 t0 t1 g0 g1 g2 g3 g4 hO hR hB hX
    go_wp2_with (refine wpList_st1 (g := N) (i := k) (v := .slice p (colF cs k).length q) rfl rfl (by rfl) (by rfl) rfl gk fk size_row1 ?_)
    refine ⟨by rfl, ?_⟩
    have hO2 := hide (World.ownsRow.stored hO1.out k (.slice p (colF cs k).length q)).1
    have hB2 := hide (hB1.out.setCell (p := ⟨N, k, none⟩) (by show N ≠ w.heap.size; omega) (.slice p (colF cs k).length q))
    have hg2 := grown_setCell v1 ⟨N, k, none⟩ (.slice p (colF cs k).length q)
    have hX2 : Hid (Ext w (v1.setCell ⟨N, k, none⟩ (.slice p (colF cs k).length q))) := hX1.out.grown hg2 (fun q hq => by cases hq; show w.heap.size ≤ N; omega)
    have hR2 : Hid (RwF (v1.setCell ⟨N, k, none⟩ (.slice p (colF cs k).length q)) (N + 1) (ss.set k (.slice p (colF cs k).length q)) (colF cs) (k + 1)) := fun i hi => by
      rw [getD_setV _ _ _ (by omega)]
      by_cases hik : i = k
      · subst hik
        rw [if_pos rfl]
        exact ⟨p, q, rfl, o1'.out.kept hg2 (by show N < N + 1; omega)⟩
      · rw [if_neg hik]
        obtain ⟨a, c, e, ho⟩ := hR1.out i (by omega)
        exact ⟨a, c, e, ho.kept hg2 (by show N < N + 1; omega)⟩
    have hsz2 : N + 1 ≤ (v1.setCell ⟨N, k, none⟩ (.slice p (colF cs k).length q)).heap.size := by have := hg2.size; omega
    generalize (v1.setCell ⟨N, k, none⟩ (.slice p (colF cs k).length q)) = v2 at *
    clear hO1 hB1 hX1 hR1 gk fk hg2
    go_wp2_with fail
    go_roundw
    case rel => exact ⟨k + 1, _, by go_num, by omega, hO2.out, hR2.out, hB2.out, hX2.out, hsz2⟩
    case measure => simp [intOf]; omega
  · have hlt' : ¬ (k : Int) < cs.length := by omega
    obtain rfl : k = cs.length := by omega
    have hI : Hid (IRows wr (some ⟨N, 0, none⟩) cs.length (colF cs)) := fun i hi => by
      obtain ⟨x, c, e, ho⟩ := hR.out i hi
      obtain ⟨g', eg, gk⟩ := ownsRow_cell hO.out i hi
      cases eg
      rw [e] at gk
      exact ⟨N, 0, x, c, rfl, by rw [Nat.zero_add]; exact gk, ho.ints⟩
    go_wp2
    go_ret
    exact ⟨_, _, rfl, hI.out, hX.out⟩

/-- One row out of the columns. -/
def rowAt (f : Nat → List Int) (k r : Nat) : List Int := (List.range k).map (fun j => (f j).getD r 0)
theorem rowAt_len (f : Nat → List Int) (k r : Nat) : (rowAt f k r).length = k := by simp [rowAt]
theorem rowAt_at (f : Nat → List Int) (k r j : Nat) (h : j < k) : (rowAt f k r).getD j 0 = (f j).getD r 0 := by simp [rowAt, h]
def mixR (xs ys : List Int) (j : Nat) : List Int := xs.take j ++ ys.drop j
theorem mixR_zero (xs ys : List Int) : mixR xs ys 0 = ys := by simp [mixR]
theorem mixR_all (xs ys : List Int) (h : xs.length = ys.length) : mixR xs ys xs.length = xs := by unfold mixR; rw [List.take_length, h, List.drop_length, List.append_nil]
theorem mixR_len (xs ys : List Int) (j : Nat) (h : xs.length = ys.length) : (mixR xs ys j).length = ys.length := by simp [mixR]; omega
theorem mixR_set (xs ys : List Int) (j : Nat) (h : xs.length = ys.length) (hj : j < xs.length) : (mixR xs ys j).set j (xs.getD j 0) = mixR xs ys (j + 1) := by
  unfold mixR
  have hl : (xs.take j).length = j := by simp; omega
  rw [List.set_append_right _ _ (by omega), hl, Nat.sub_self, List.drop_eq_getElem_cons (show j < ys.length by omega), List.set_cons_zero]
  have e : xs.take (j + 1) = xs.take j ++ [xs[j]] := List.take_succ_eq_append_getElem hj
  have e2 : xs.getD j 0 = xs[j] := by rw [List.getD_eq_getElem?_getD, List.getElem?_eq_getElem hj]; rfl
  rw [e, e2, List.append_assoc]
  rfl
set_option maxHeartbeats 4000000 in
theorem rowOf (f : Nat → List Int) (k r : Nat) (ri : Int) (hri : ri = (r : Int)) (ca : Option Addr) (cc g cap : Nat) (ys : List Int) (w0 w : World) (h0 : Hid (Ext w0 w)) (hc : Hid (IRows w0 ca k f)) (hf : Hid (∀ j, j < k → r < (f j).length ∧ (f j).length ≤ 65536)) (hk : k ≤ 256)
    (hv : Hid (OwnI w w0.heap.size 2 (.slice (some ⟨g, 0, none⟩) k cap) ys)) (hy : ys.length = k) :
    Calls Yabn.prog 50 #[.slice ca k cc, .int .i64 ri, .slice (some ⟨g, 0, none⟩) k cap] w (RetEvK g w0.heap.size 2 (.slice (some ⟨g, 0, none⟩) k cap) (rowAt f k r) w) := by
  subst hri
  have hgl : Hid (w0.heap.size ≤ g) := (OwnI.lt hv.out).1
  have hrl := rowAt_len f k r
  go_enter Yabn.func50, Yabn.ntmps50
  go_wp2_with fail
  go_loopw [6] (fun i wr => ∃ j : Nat, i = .int .i64 j ∧ j ≤ k ∧ Hid (OwnI wr w0.heap.size 2 (.slice (some ⟨g, 0, none⟩) k cap) (mixR (rowAt f k r) ys j)) ∧ Hid (But (fun q => q = g) w wr)) (fun i _ => k - (intOf i).toNat)
  case atStart => exact ⟨0, rfl, Nat.zero_le _, by rw [mixR_zero]; exact hv, But.refl _ _⟩
  obtain ⟨j, rfl, hj, hO, hbt⟩ := hrel
  by_cases hlt : j < k
  · have hlt' : (j : Int) < k := by omega
    have hX : Hid (Ext w0 wr) := Below.trans h0.out (hbt.out.below (fun q hq => by have := hgl.out; omega) h0.out.size)
    obtain ⟨b, off, a', c', rfl, hcl, hin⟩ := (hc.out.ext hX.out) j hlt
    obtain ⟨hr1, hr2⟩ := hf.out j hlt
    have hr1' : (r : Int) < (f j).length := by omega
    obtain ⟨b2, off2, rfl, hcv⟩ := hin r hr1
    have hset := hide (mixR_set (rowAt f k r) ys j (by omega) (by omega))
    rw [rowAt_at _ _ _ _ hlt] at hset
    have hml := mixR_len (rowAt f k r) ys j (by omega)
    have cj := OwnI.cellAt hO.out j (by omega)
    have fj := OwnI.frozenAt hO.out (by omega) j
    obtain ⟨y, hy9⟩ : ∃ y, Hid ((f j).getD r 0 = y) := ⟨_, rfl⟩
    rw [hy9.out] at hcv hset
    have hst := hide (OwnI.stored hO.out (by omega) j y)
    have hb2 := hide (hbt.out.trans (But.of_grown (S := fun q => q = g) (grown_setCell wr ⟨g, j, none⟩ (.int .i64 y)) (fun q hq => by cases hq; rfl)))
    obtain ⟨L, hL⟩ : ∃ L, (f j).length = L := ⟨_, rfl⟩
    rw [hL] at hcl hr1' hr2
    clear hL hr1
    obtain ⟨zj, hzj⟩ : ∃ z, (mixR (rowAt f k r) ys j).getD j 0 = z := ⟨_, rfl⟩
    rw [hzj] at cj
    clear hzj hin
    go_wp2
    go_roundw
    case rel => exact ⟨j + 1, by go_num, by omega, hst.out.congr hset.out, hb2.out⟩
    case measure => simp [intOf]; omega
  · have hlt' : ¬ (j : Int) < k := by omega
    have hfin : Hid (mixR (rowAt f k r) ys j = rowAt f k r) := by
      obtain rfl : j = k := by omega
      have := mixR_all (rowAt f j r) ys (by omega)
      rw [hrl] at this
      exact this
    go_wp2
    go_end0
    exact ⟨rfl, hO.out.congr hfin.out, hbt.out⟩
end Go.Proofs.YbyabwGreat
