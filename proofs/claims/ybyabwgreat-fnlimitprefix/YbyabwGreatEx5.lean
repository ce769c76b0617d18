/- Walk: impl.selectRows -/
import Derived.Test.YbyabwGreatEx4
import Derived.Test.YbyabwGreatCmpT
namespace Go.Proofs.YbyabwGreat
open Go.RowKit
set_option maxRecDepth 100000
set_option linter.unusedVariables false
set_option linter.unusedSimpArgs false

/-- The rows that a plan selects. -/
def selB (p : Pl) (row : List Int) : Bool := decide (p.wh = -1) || (evX p.code row p.wh.toNat != 0)
def slTo (p : Pl) (f : Nat → List Int) : Nat → List Int
  | 0 => []
  | k + 1 => if selB p (f k) = true then slTo p f k ++ [(k : Int)] else slTo p f k
theorem slTo_len (p : Pl) (f : Nat → List Int) : ∀ n, (slTo p f n).length ≤ n := by
  intro n
  induction n with
  | zero => simp [slTo]
  | succ n ih =>
    simp only [slTo]
    split
    · simp; exact ih
    · omega
theorem slTo_all (p : Pl) (f : Nat → List Int) (h : p.wh = -1) : ∀ n, slTo p f n = (List.range n).map (fun (i : Nat) => (i : Int)) := by
  intro n
  induction n with
  | zero => rfl
  | succ n ih =>
    simp only [slTo]
    rw [if_pos (by simp [selB, h]), ih, List.range_succ]
    simp
theorem evTo_get (nd : List Nd) (row : List Int) (x : Nat) : (evTo nd row (x + 1)).getD x 0 = evX nd row x := by
  unfold evX
  simp only [evTo]
  rw [List.getD_eq_getElem?_getD, List.getElem?_append_right (by rw [evTo_len]; omega), evTo_len]
  simp
theorem OwnI.isT {w : World} {base g n cap : Nat} {e : TypeId} {xs : List Int} (h : OwnI w base e (.slice (some ⟨g, 0, none⟩) n cap) xs) : IsT e w g := by
  rcases h.2 with ⟨e1, _⟩ | ⟨g', cap', cur, e1, _, hh, _⟩
  · cases e1
  · cases e1; exact ⟨cur, _, hh⟩
theorem FrT.of_one {w w1 : World} {base g n cap : Nat} {e : TypeId} {xs : List Int} (h : OwnI w base e (.slice (some ⟨g, 0, none⟩) n cap) xs) (hb : But (fun q => q = g) w w1) : FrT e base w w1 := hb.mono (fun q hq => by subst hq; exact ⟨(OwnI.lt h).1, OwnI.isT h⟩)
set_option maxHeartbeats 4000000 in
theorem selectRows_a (p : Pl) (ca ia ga : Option Addr) (cc ic gc : Nat) (f : Nat → List Int) (k n : Nat) (ra : Option Addr) (rc : Nat) (w : World) (hw : p.wh = -1) (hn : n ≤ 65536) :
    Calls Yabn.prog 49 #[.agg (plCells p ca ia ga cc ic gc).toArray, .int .i64 n, .slice ra k rc] w (RetInts 3 (slTo p (rowAt f k) n) w) := by
  have hsel := slTo_all p (rowAt f k) hw n
  rw [hsel]
  clear hsel
  obtain ⟨nc, code, wh, its, gr, li, ag⟩ := p
  simp only at hw
  subst hw
  obtain ⟨xs, hxs⟩ : ∃ xs, Hid ((List.range n).map (fun (i : Nat) => (i : Int)) = xs) := ⟨_, rfl⟩
  have hxl : xs.length = n := by rw [← hxs.out]; simp
  have hxa : Hid (∀ i, i < n → xs.getD i 0 = (i : Int)) := fun i hi => by rw [← hxs.out]; simp [hi]
  rw [hxs.out]
  have hX0 : Hid (Ext w (w.alloc (.cells #[.int .i64 nc, .slice ca code.length cc, .int .i64 (-1), .slice ia its.length ic, .slice ga gr.length gc, .int .i64 li, .bool ag] 57))) := (Ext.refl w).alloc _
  simp only [plCells]
  go_enter Yabn.func49, Yabn.ntmps49
  go_wp2_with (at_make; refine mk_int rfl rfl n rfl rfl (by omega) (w.heap.size + 1) (by simp) ?_; intro w1 O1 x1 z1; have hX1 : Hid (Ext w w1) := hX0.out.trans x1; replace O1 := hide O1; clear x1 z1)
  go_loopw [8] (fun i wr => ∃ r : Nat, i = .int .i64 r ∧ r ≤ n ∧ Hid (OwnI wr (w.heap.size + 1) 3 (.slice (some ⟨w.heap.size + 1, 0, none⟩) n n) (mixR xs (List.replicate n 0) r)) ∧ Hid (Ext w wr)) (fun i _ => n - (intOf i).toNat)
  case atStart => exact ⟨0, rfl, Nat.zero_le _, by rw [mixR_zero]; exact O1, hX1⟩
  clear O1 hX1
  obtain ⟨r, rfl, hr, hO, hX⟩ := hrel
  have hml : (mixR xs (List.replicate n 0) r).length = n := by rw [mixR_len _ _ _ (by simp [hxl])]; simp
  by_cases hlt : r < n
  · have hlt' : (r : Int) < n := by omega
    have hset := hide (mixR_set xs (List.replicate n 0) r (by simp [hxl]) (by omega))
    rw [hxa.out r hlt] at hset
    replace hml := hide hml
    go_wp2_with (refine wpList_stI (g := w.heap.size + 1) (i := r) rfl rfl (by rfl) (by rfl) hO.out hml.out.symm (by rw [hml.out]; exact hlt) size_int ?_; intro w3 hU3 hg3; have hO9 := hide (hU3.congr hset.out); have hX9 : Hid (Ext w w3) := hX.out.grown hg3 (fun q hq => by cases hq; omega); clear hU3 hg3)
    go_roundw
    case rel => exact ⟨r + 1, by go_num, by omega, hO9.out, hX9.out⟩
    case measure => simp [intOf]; omega
  · have hlt' : ¬ (r : Int) < n := by omega
    have hfin : Hid (mixR xs (List.replicate n 0) r = xs) := by
      obtain rfl : r = n := by omega
      have := mixR_all xs (List.replicate r 0) (by simp [hxl])
      rw [hxl] at this
      exact this
    have hO2 := hide (hO.out.congr hfin.out)
    go_wp2
    go_ret
    exact ⟨some ⟨w.heap.size + 1, 0, none⟩, n, by rw [hxl]; rfl, by rw [hxl]; exact OwnI.mono hO2.out (by omega), hX.out⟩
set_option maxHeartbeats 8000000 in
theorem selectRows_b (p : Pl) (ca ia ga : Option Addr) (cc ic gc : Nat) (f : Nat → List Int) (k n x : Nat) (ra : Option Addr) (rc : Nat) (w : World) (hp : Hid (PAt w p ca ia ga)) (hwf : Hid (WfA p.code k)) (hw : p.wh = (x : Int)) (hxl : x < p.code.length) (hr : Hid (IRows w ra k f)) (hf : Hid (∀ j, j < k → (f j).length = n)) (hk : k ≤ 256) (hn : n ≤ 65536) :
    Calls Yabn.prog 49 #[.agg (plCells p ca ia ga cc ic gc).toArray, .int .i64 n, .slice ra k rc] w (RetInts 3 (slTo p (rowAt f k) n) w) := by
  have hlc := hp.out.lc
  have hselS : Hid (∀ r, slTo p (rowAt f k) (r + 1) = if evX p.code (rowAt f k r) x = 0 then slTo p (rowAt f k) r else slTo p (rowAt f k) r ++ [(r : Int)]) := fun r => by
    simp only [slTo]
    have e : selB p (rowAt f k r) = (evX p.code (rowAt f k r) x != 0) := by
      unfold selB
      rw [hw, Int.toNat_natCast, decide_eq_false (by omega), Bool.false_or]
    rw [e]
    by_cases h0 : evX p.code (rowAt f k r) x = 0
    · rw [if_pos h0, if_neg (by simp [h0])]
    · rw [if_neg h0, if_pos (by simp [h0])]
  have hsl : Hid (∀ r, (slTo p (rowAt f k) r).length ≤ r) := slTo_len p (rowAt f k)
  obtain ⟨S, hS⟩ : ∃ S, Hid (slTo p (rowAt f k) = S) := ⟨_, rfl⟩
  have hS0 : Hid (S 0 = []) := by show _ = _; rw [← hS.out]; rfl
  have hSn : slTo p (rowAt f k) n = S n := by rw [hS.out]
  rw [hS.out] at hselS hsl
  rw [hSn]
  clear hSn
  have hcode := hide hp.out.code
  obtain ⟨nc, code, wh, its, gr, li, ag⟩ := p
  simp only at hw hxl hlc
  subst hw
  have hB0 : Hid (Blk (w.alloc (.cells #[.int .i64 nc, .slice ca code.length cc, .int .i64 (x : Int), .slice ia its.length ic, .slice ga gr.length gc, .int .i64 li, .bool ag] 57)) w.heap.size 57 [.int .i64 nc, .slice ca code.length cc, .int .i64 (x : Int), .slice ia its.length ic, .slice ga gr.length gc, .int .i64 li, .bool ag]) := Blk.new w _ _
  have hX0 : Hid (Ext w (w.alloc (.cells #[.int .i64 nc, .slice ca code.length cc, .int .i64 (x : Int), .slice ia its.length ic, .slice ga gr.length gc, .int .i64 li, .bool ag] 57))) := (Ext.refl w).alloc _
  have hxm : ((x : Int) == -1) = false := by first | (simp; done) | (simp; omega)
  simp only [plCells]
  go_enter Yabn.func49, Yabn.ntmps49
  have q2 := hB0.out.box 2 _ rfl
  go_wp2_with (first | (at_make; refine mk_i64 rfl rfl k rfl rfl (by omega) (w.heap.size + 1) (by simp) ?_; intro w1 O1 x1 z1; have hX1 : Hid (Ext w w1) := hX0.out.trans x1; have hB1 := hide (hB0.out.ext x1); replace O1 := hide O1; clear x1; have q2' := hB1.out.box 2 _ rfl) | (at_make; refine mk_i64 rfl rfl (x + 1) (by rfl) (by rfl) (by omega) (w.heap.size + 2) z1 ?_; intro w2 O2 x2 z2; have hX2 : Hid (Ext w w2) := hX1.out.trans x2; have hB2 := hide (hB1.out.ext x2); have O1' := hide (OwnI.ext O1.out x2); replace O2 := hide O2; clear x2))
  obtain ⟨R, hR⟩ : ∃ R, w.heap.size + 1 = R := ⟨_, rfl⟩
  obtain ⟨V, hV⟩ : ∃ V, w.heap.size + 2 = V := ⟨_, rfl⟩
  rw [hR] at O1'
  rw [hV] at O2
  simp only [hR, hV]
  have hRV : R ≠ V := by omega
  have hRw : w.heap.size ≤ R := by omega
  have hVw : w.heap.size ≤ V := by omega
  have O1b := hide (OwnI.mono O1'.out hRw)
  have O2b := hide (OwnI.mono O2.out hVw)
  clear z1 z2 hR hV q2 q2' O1 hB1 hX1 O1' O2 hB0 hX0
  go_loopw [9, 12] (fun v i wr => ∃ (r : Nat) (yr yv : List Int), i = .int .i64 r ∧ r ≤ n ∧ Hid (OwnI wr w.heap.size 3 v (S r)) ∧ Hid (OwnI wr w.heap.size 2 (.slice (some ⟨R, 0, none⟩) k k) yr) ∧ Hid (yr.length = k) ∧ Hid (OwnI wr w.heap.size 2 (.slice (some ⟨V, 0, none⟩) (x + 1) (x + 1)) yv) ∧ Hid (yv.length = x + 1) ∧ Hid (Blk wr w.heap.size 57 [.int .i64 nc, .slice ca code.length cc, .int .i64 (x : Int), .slice ia its.length ic, .slice ga gr.length gc, .int .i64 li, .bool ag]) ∧ Hid (Ext w wr)) (fun _ i _ => n - (intOf i).toNat)
  case atStart => exact ⟨0, _, _, rfl, Nat.zero_le _, by rw [hS0.out]; exact OwnI.nil _ _ _, O1b, by simp [Hid], O2b, by simp [Hid], hB2, hX2⟩
  clear O1b O2b hB2 hX2
  obtain ⟨r, yr, yv, rfl, hrn, hO, hRo, hyr, hVo, hyv, hB, hX⟩ := hrel
  by_cases hlt : r < n
  · have hlt' : (r : Int) < n := by omega
    go_wp2_with fail
    refine (rowOf f k r r rfl ra rc R k yr w wr hX hr (fun j hj => by rw [hf.out j hj]; exact ⟨hlt, hn⟩) hk hRo hyr.out).mono ?_
    rintro e v1 ⟨rfl, oR, b1⟩
    have f1 := FrT.of_one hRo.out b1
    have hO1 : Hid (OwnI v1 w.heap.size 3 _ (S r)) := f1.row hO.out (by decide)
    have hB1 := hide (FrT.blk f1 hB.out (by decide))
    have hV1 := hide (hVo.out.butS b1 (fun q hq hh => by cases hq; exact hRV hh.symm))
    have hX1 : Hid (Ext w v1) := Below.trans hX.out (b1.below (fun q hq => by omega) hX.out.size)
    have hri := hide oR.ints
    obtain ⟨row, hrow⟩ : ∃ row, Hid (rowAt f k r = row) := ⟨_, rfl⟩
    have hrl : Hid (row.length = k) := by show _ = _; rw [← hrow.out]; exact rowAt_len f k r
    rw [hrow.out] at oR hri
    have oR1 := hide oR
    have har : Hid (∀ p, (some ⟨R, 0, none⟩ : Option Addr) = some p → p.block ≠ V) := fun p hp => by cases hp; exact hRV
    have hev := evalIntoK code row yv ca (some ⟨R, 0, none⟩) cc k V (x + 1) x w v1 hX1 hcode hri har (by rw [hyv.out]; exact hV1) (by omega) (by rw [hrl.out]; omega) (by rw [hyv.out]; omega) hxl (by rw [hyv.out]; omega) (fun i hi => by rw [hrl.out]; exact hwf.out i (by omega))
    rw [hrl.out, hyv.out] at hev
    have hss := hselS.out r
    rw [hrow.out] at hss
    replace hev := hide hev
    replace hss := hide hss
    clear f1 b1 oR hO hRo hVo hB hX hyr
    have q1 := hB1.out.box 1 _ rfl
    have q2 := hB1.out.box 2 _ rfl
    go_wp2_with fail
    refine hev.out.mono ?_
    rintro e v2 ⟨rfl, oV, b2⟩
    have f2 := FrT.of_one hV1.out b2
    have hO2 : Hid (OwnI v2 w.heap.size 3 _ (S r)) := f2.row hO1.out (by decide)
    have hB2 := hide (FrT.blk f2 hB1.out (by decide))
    have hR2 := hide (oR1.out.butS b2 (fun q hq hh => by cases hq; exact hRV hh))
    have hX2 : Hid (Ext w v2) := Below.trans hX1.out (b2.below (fun q hq => by omega) hX1.out.size)
    have hml : Hid ((mixTo code row yv (x + 1)).length = x + 1) := by show _ = _; rw [mixTo_len _ _ _ _ (by rw [hyv.out]; omega), hyv.out]
    have cv := oV.cellAt x (by rw [hml.out]; omega)
    rw [mixTo_below _ _ _ _ _ (by omega), evTo_get] at cv
    obtain ⟨Z, hZ⟩ : ∃ Z, Hid (evX code row x = Z) := ⟨_, rfl⟩
    rw [hZ.out] at cv hss
    obtain ⟨yv2, hyv2⟩ : ∃ y, Hid (mixTo code row yv (x + 1) = y) := ⟨_, rfl⟩
    rw [hyv2.out] at oV hml
    have oV2 := hide oV
    clear f2 b2 oV q1 q2 hO1 hB1 hV1 hX1 oR1 hev
    have q2 := hB2.out.box 2 _ rfl
    have hxx : (x : Int) < (x : Int) + 1 := by omega
    by_cases hz : Z = 0
    · have hzb : (Z != 0) = false := by simp [hz]
      have hSr : Hid (S (r + 1) = S r) := by show _ = _; rw [hss.out, if_pos hz]
      replace hz := hide hz
      go_wp2_with fail
      go_roundw
      case rel => exact ⟨r + 1, _, _, by go_num, by omega, by rw [hSr.out]; exact hO2.out, hR2.out, hrl.out, oV2.out, hml.out, hB2.out, hX2.out⟩
      case measure => simp [intOf]; omega
    · have hzb : (Z != 0) = true := by simp [hz]
      have hSr : Hid (S (r + 1) = S r ++ [(r : Int)]) := by show _ = _; rw [hss.out, if_neg hz]
      have hln : Hid ((S r).length < 2 ^ 39) := by have := hsl.out r; show _ < _; omega
      replace hz := hide hz
      have hX3 : Hid (Ext v2 (v2.alloc (.cells #[.int .i64 (r : Int)] 3))) := (Ext.refl _).alloc _
      have hG3 := hide (OwnI.ext hO2.out hX3.out)
      have hsz3 : Hid (w.heap.size ≤ (v2.alloc (.cells #[.int .i64 (r : Int)] 3)).heap.size) := Nat.le_trans hX2.out.size hX3.out.size
      have hblk := hide (heap_alloc_new v2 (.cells #[.int .i64 (r : Int)] 3))
      have hR3 := hide (OwnI.ext hR2.out hX3.out)
      have hV3 := hide (OwnI.ext oV2.out hX3.out)
      have hB3 := hide (hB2.out.ext hX3.out)
      go_wp2_with (at_builtin; refine app_int rfl rfl w.heap.size hsz3.out _ (S r) (r : Int) rfl hG3.out v2.heap.size 1 (by rfl) hblk.out hln.out ?_; intro g7 cap7 w7 O7 hgr7 hor7 hlt7; have hf7 : FrT 3 w.heap.size (v2.alloc (.cells #[.int .i64 (r : Int)] 3)) w7 := FrT.grown hG3.out hgr7; have hR7 : Hid (OwnI w7 w.heap.size 2 (.slice (some ⟨R, 0, none⟩) k k) row) := hf7.row hR3.out (by decide); have hV7 : Hid (OwnI w7 w.heap.size 2 (.slice (some ⟨V, 0, none⟩) (x + 1) (x + 1)) yv2) := hf7.row hV3.out (by decide); have hB7 := hide (FrT.blk hf7 hB3.out (by decide)); have hX7 : Hid (Ext w w7) := Below.trans (hX2.out.trans hX3.out) (But.below hf7 (fun q hq => hq.1) hsz3.out); have hO7 := hide O7; clear O7 hgr7 hor7 hlt7 hf7)
      go_roundw
      case rel => exact ⟨r + 1, _, _, by go_num, by omega, by rw [hSr.out]; exact hO7.out, hR7.out, hrl.out, hV7.out, hml.out, hB7.out, hX7.out⟩
      case measure => simp [intOf]; omega
  · have hlt' : ¬ (r : Int) < n := by omega
    obtain rfl : r = n := by omega
    obtain ⟨pa, pc, rfl, _⟩ := hO.out.form
    clear hlt hrn
    go_wp2
    go_ret
    exact ⟨pa, pc, rfl, hO.out, hX.out⟩
theorem selectRows (p : Pl) (ca ia ga : Option Addr) (cc ic gc : Nat) (f : Nat → List Int) (k n : Nat) (ra : Option Addr) (rc : Nat) (w : World) (hp : Hid (PAt w p ca ia ga)) (hok : Hid (PlOK p)) (hnc : p.nc = (k : Int)) (hr : Hid (IRows w ra k f)) (hf : Hid (∀ j, j < k → (f j).length = n)) (hk : k ≤ 256) (hn : n ≤ 65536) :
    Calls Yabn.prog 49 #[.agg (plCells p ca ia ga cc ic gc).toArray, .int .i64 n, .slice ra k rc] w (RetInts 3 (slTo p (rowAt f k) n) w) := by
  rcases hok.out.wh with hw | ⟨h0, h1⟩
  · exact selectRows_a p ca ia ga cc ic gc f k n ra rc w hw hn
  · obtain ⟨x, hx⟩ := Int.eq_ofNat_of_zero_le h0
    exact selectRows_b p ca ia ga cc ic gc f k n x ra rc w hp (by have := hok.out.wf; rw [hnc] at this; exact this) hx (by omega) hr hf hk hn
end Go.Proofs.YbyabwGreat
