/- Walks: spec.KindsFrom by three, spec.TableOf -/
import Derived.Test.YbyabwGreatGen1
import Derived.Test.YbyabwGreatRefBldTab
namespace Go.Proofs.YbyabwGreat
open Go.RowKit
set_option maxRecDepth 100000
set_option linter.unusedVariables false
set_option linter.unusedSimpArgs false

section
variable {P : Program} {w : World}
theorem results_cell3 {fn : Func} {p u v : Tmp} {ty : TypeId} (h : fn.results = #[.cell p ty, .tmp u, .tmp v]) {tmps : Array Value} {b : Nat} {e : TypeId} {vs : List Value} {fs : Array Field} (hp : tmps.getD p undef = .pointer (some ⟨b, 0, none⟩))
    (hb : Blk w b e vs) (hu : P.underlying ty = some (.struct fs)) (hsz : (P.info? ty).map (·.size) = some vs.length) : (results fn tmps).run P w = .ok (.tuple #[.agg vs.toArray, tmps.getD u undef, tmps.getD v undef]) w := by
  have hl := run_loadBlk (P := P) hb hu hsz
  have hp' : tmps[p]?.getD undef = .pointer (some ⟨b, 0, none⟩) := by rw [← hp]; simp
  simp only [results, h]
  simp [asAddr, hp', hl, Sem.run_bind, Result.andThen]
theorem results_cellcell {fn : Func} {p q u : Tmp} {ty tz : TypeId} (h : fn.results = #[.cell p ty, .cell q tz, .tmp u]) {tmps : Array Value} {b c : Nat} {e f : TypeId} {vs us : List Value} {fs gs : Array Field} (hp : tmps.getD p undef = .pointer (some ⟨b, 0, none⟩)) (hq : tmps.getD q undef = .pointer (some ⟨c, 0, none⟩))
    (hb : Blk w b e vs) (hc : Blk w c f us) (hu : P.underlying ty = some (.struct fs)) (hsz : (P.info? ty).map (·.size) = some vs.length) (hu2 : P.underlying tz = some (.struct gs)) (hsz2 : (P.info? tz).map (·.size) = some us.length) : (results fn tmps).run P w = .ok (.tuple #[.agg vs.toArray, .agg us.toArray, tmps.getD u undef]) w := by
  have hl := run_loadBlk (P := P) hb hu hsz
  have hl2 := run_loadBlk (P := P) hc hu2 hsz2
  have hp' : tmps[p]?.getD undef = .pointer (some ⟨b, 0, none⟩) := by rw [← hp]; simp
  have hq' : tmps[q]?.getD undef = .pointer (some ⟨c, 0, none⟩) := by rw [← hq]; simp
  simp only [results, h]
  simp [asAddr, hp', hq', hl, hl2, Sem.run_bind, Result.andThen]
end

def kind3 (zs : List Int) (j : Nat) : Int := if zs.length = 0 then 0 else zs.getD (j % zs.length) 0 % 3
def kinds3 (zs : List Int) (m : Nat) : List Int := (List.range m).map (kind3 zs)
theorem kinds3_len (zs : List Int) (m : Nat) : (kinds3 zs m).length = m := by simp [kinds3]
theorem kinds3_succ (zs : List Int) (m : Nat) : kinds3 zs (m + 1) = kinds3 zs m ++ [kind3 zs m] := by simp [kinds3, List.range_succ]
theorem kinds3_at (zs : List Int) (m j : Nat) (h : j < m) : (kinds3 zs m).getD j 0 = kind3 zs j := by simp [kinds3, h]
theorem kind3_ok (zs : List Int) (j : Nat) : 0 ≤ kind3 zs j ∧ kind3 zs j ≤ 2 := by
  unfold kind3
  split
  · omega
  · omega

set_option maxHeartbeats 4000000 in
theorem KindsFrom3 (zs : List Int) (a : Option Addr) (c : Nat) (m : Nat) (w : World) (h : Hid (BytesAt w a zs)) (lc : zs.length < 2 ^ 39) (m1 : m < 2 ^ 30) :
    Calls Yabn.prog 14 #[.slice a zs.length c, .int .i64 m, .int .i64 3] w (RetInts 3 (kinds3 zs m) w) := by
  go_enter Yabn.func14, Yabn.ntmps14
  go_wp2_with (at_make; refine mk0_int rfl rfl m rfl (by omega) w.heap.size rfl ?_; intro v1 orow x1 hsz1; replace orow := hide orow; replace x1 := hide x1)
  go_loopw [7, 8] (fun v j wr => ∃ (t : Nat), j = .int .i64 t ∧ t ≤ m ∧ Hid (OwnI wr w.heap.size 3 v (kinds3 zs t)) ∧ Hid (Ext w wr)) (fun _ j _ => m - (intOf j).toNat)
  case atStart => exact ⟨0, rfl, by omega, orow, x1⟩
  clear orow x1 hsz1
  obtain ⟨t, rfl, ht, orow, hx3⟩ := hrel
  have zW4 := hx3.out.size
  by_cases hmt : t < m
  · have hmt' : (t : Int) < m := by omega
    have hks := kinds3_succ zs t
    have hkl := kinds3_len zs t
    have hln : (kinds3 zs t).length < 2 ^ 39 := by omega
    by_cases h0 : zs.length = 0
    · have hka : kind3 zs t = 0 := by unfold kind3; rw [if_pos h0]
      rw [hka] at hks
      rw [h0] at *
      generalize kinds3 zs t = ps at *
      replace hks := hide hks
      replace hkl := hide hkl
      replace hln := hide hln
      go_wp2_with (at_builtin; refine app_int rfl rfl w.heap.size (by simp; omega) _ ps 0 rfl (orow.out.alloc _) wr.heap.size 1 (by rfl) (heap_alloc_new wr _) hln.out ?_; intro g cap w2 hown2 hgr hor hlt2; replace hgr := hide hgr; replace hown2 := hide hown2; replace hor := hide hor)
      go_roundw
      case rel =>
        refine ⟨t + 1, by go_num, by omega, hown2.out.congr hks.out.symm, (hx3.out.alloc _).grown hgr.out ?_⟩
        intro q hq; exact orow.out.block q hq
      case measure => simp [intOf]; omega
    · have h0' : 0 < (zs.length : Int) := by omega
      have hml := Nat.mod_lt t (show 0 < zs.length by omega)
      obtain ⟨b, off, rfl, gi, y0, y1⟩ := (h.out.ext hx3.out) (t % zs.length) hml
      have hka : kind3 zs t = zs.getD (t % zs.length) 0 % 3 := by unfold kind3; rw [if_neg h0]
      rw [hka] at hks
      obtain ⟨r, hr⟩ : ∃ r, r = t % zs.length := ⟨_, rfl⟩
      rw [← hr] at gi y0 y1 hks hml
      have hrI : (t : Int) % zs.length = r := by rw [hr]; omega
      have hml' : (r : Int) < zs.length := by omega
      generalize zs.getD r 0 = y at *
      generalize kinds3 zs t = ps at *
      replace hks := hide hks
      replace hkl := hide hkl
      replace hln := hide hln
      replace hr := hide hr
      have hb2 := cell_lt gi
      simp only at hb2
      go_wp2_with (at_builtin; refine app_int rfl rfl w.heap.size (by simp; omega) _ ps (y % 3) rfl (orow.out.alloc _) wr.heap.size 1 (by rfl) (heap_alloc_new wr _) hln.out ?_; intro g cap w2 hown2 hgr hor hlt2; replace hgr := hide hgr; replace hown2 := hide hown2; replace hor := hide hor)
      go_roundw
      case rel =>
        refine ⟨t + 1, by go_num, by omega, hown2.out.congr hks.out.symm, (hx3.out.alloc _).grown hgr.out ?_⟩
        intro q hq; exact orow.out.block q hq
      case measure => simp [intOf]; omega
  · obtain rfl : t = m := by omega
    clear hmt ht
    obtain ⟨pr, qr, rfl, _⟩ := orow.out.form
    go_wp2
    go_ret
    exact ⟨pr, qr, rfl, orow.out, hx3.out⟩
/-- The rows' number. -/
def nR (cells : List Int) (m : Nat) : Nat := cells.length / m
def tabC (cells : List Int) (m : Nat) (zs : List Int) : List Col := colsT (nR cells m) (rowsF cells m) (kinds3 zs m)
theorem rowsF_len2 {cells : List Int} {m i : Nat} (h : i < nR cells m) : (rowsF cells m i).length = m := by
  refine rowsF_len _ _ _ ?_
  have h1 : (i + 1) * m ≤ cells.length / m * m := Nat.mul_le_mul_right _ h
  have h2 := Nat.div_mul_le_self cells.length m
  rw [Nat.add_mul] at h1
  omega
theorem bok_iff (cells : List Int) (m : Nat) (zs : List Int) (hm : m ≤ 256) : BOK (nR cells m) (rowsF cells m) (kinds3 zs m) ↔ nR cells m ≤ 65536 := by
  refine ⟨fun h => h.1, fun h => ⟨h, by rw [kinds3_len]; exact hm, fun j hj => ?_, fun i hi => ?_⟩⟩
  · rw [kinds3_len] at hj
    rw [kinds3_at _ _ _ hj]
    exact kind3_ok zs j
  · rw [kinds3_len]
    exact rowsF_len2 hi
/-- Rows, of the call's own. -/
def OwnRws (w : World) (base : Nat) (a : Option Addr) (cap n : Nat) (f : Nat → List Int) : Prop := ∃ ss, w.ownsRow base 23 1 (.slice a n cap) n ss ∧ RowsI w base ss f n
section
variable {w w' : World} {base base' b : Nat} {a : Option Addr} {cap n : Nat} {f : Nat → List Int}
theorem OwnRws.at (h : OwnRws w base a cap n f) : IRows w a n f := by obtain ⟨ss, h1, h2⟩ := h; exact h2.at h1
theorem OwnRws.ext (h : OwnRws w base a cap n f) (he : Ext w w') : OwnRws w' base a cap n f := by obtain ⟨ss, h1, h2⟩ := h; exact ⟨ss, ownsRow_ext h1 he, h2.ext he⟩
theorem OwnRws.mono (h : OwnRws w base a cap n f) (hb : base' ≤ base) : OwnRws w base' a cap n f := by
  obtain ⟨ss, h1, h2⟩ := h
  refine ⟨ss, ownsRow_mono h1 hb, fun i hi => ?_⟩
  obtain ⟨x, c, e, ho⟩ := h2 i hi
  exact ⟨x, c, e, ho.mono hb⟩
theorem OwnRws.kept (h : OwnRws w base a cap n f) (hg : w.grownBy w' (some b)) (hb : b < base) : OwnRws w' base a cap n f := by
  obtain ⟨ss, h1, h2⟩ := h
  refine ⟨ss, ownsRow_kept h1 hg hb, fun i hi => ?_⟩
  obtain ⟨x, c, e, ho⟩ := h2 i hi
  exact ⟨x, c, e, ho.kept hg hb⟩
end
def RetTOf (cells : List Int) (m : Nat) (zs : List Int) (w : World) : Ending → World → Prop := fun en w' => Ext w w' ∧ ∃ a cap ra rcap, OwnRws w' w.heap.size ra rcap (nR cells m) (rowsF cells m) ∧
  ((nR cells m ≤ 65536 ∧ en = .returned (.tuple #[.agg #[.int .i64 (nR cells m), .slice a (tabC cells m zs).length cap], .slice ra (nR cells m) rcap, .bool true]) ∧ OwnCols w' w.heap.size a cap (tabC cells m zs)) ∨
   (¬ nR cells m ≤ 65536 ∧ en = .returned (.tuple #[.agg #[.int .i64 0, .slice a 0 cap], .slice ra (nR cells m) rcap, .bool false])))
set_option maxHeartbeats 4000000 in
theorem TableOf (cells zs : List Int) (a ka : Option Addr) (c kc m : Nat) (w : World) (h : Hid (IntsAt w a cells)) (hz : Hid (BytesAt w ka zs)) (l1 : cells.length ≤ 1048576) (l2 : zs.length ≤ 1048576) (m0 : 1 ≤ m) (m1 : m ≤ 256) :
    Calls Yabn.prog 4 #[.slice a cells.length c, .int .i64 m, .slice ka zs.length kc, .int .i64 3] w (RetTOf cells m zs w) := by
  have X0 : Hid (Ext w (w.alloc (.cells #[.int .i64 0, .slice none 0 0] 27))) := (Ext.refl w).alloc _
  have B0 : Hid (Blk (w.alloc (.cells #[.int .i64 0, .slice none 0 0] 27)) w.heap.size 27 [.int .i64 0, .slice none 0 0]) := Blk.new w _ _
  have hW0 : (w.alloc (.cells #[.int .i64 0, .slice none 0 0] 27)).heap.size = w.heap.size + 1 := by simp
  go_enter Yabn.func4, Yabn.ntmps4
  go_wp2_with fail
  generalize (w.alloc (.cells #[.int .i64 0, .slice none 0 0] 27)) = W0 at *
  refine (RowsFrom_1o cells a c m W0 (h.out.ext X0.out) (by omega) (by omega) (by omega)).mono ?_
  rintro e w1 ⟨ra, rcap, ss, rfl, hr, hri, x1⟩
  have hr1 : Hid (OwnRws w1 W0.heap.size ra rcap (nR cells m) (rowsF cells m)) := ⟨ss, hr, hri⟩
  have X1 : Hid (Ext w w1) := X0.out.trans x1
  have B1 := hide (B0.out.ext x1)
  clear x1 hr hri B0
  have hnr : Hid (cells.length / m = nR cells m) := rfl
  rw [hnr.out]
  go_wp2_with fail
  refine (KindsFrom3 zs ka kc m w1 (hz.out.ext X1.out) (by omega) (by omega)).mono ?_
  rintro e w2 ⟨ka2, kc2, rfl, hk, x2⟩
  have X2 : Hid (Ext w w2) := X1.out.trans x2
  have B2 := hide (B1.out.ext x2)
  have hr2 := hide (hr1.out.ext x2)
  have hk2 := hide hk.ints
  have hws : w.heap.size < w2.heap.size := B2.out.lt
  clear x2 hk X1 B1 hr1
  have hnl : nR cells m ≤ 1048576 := Nat.le_trans (Nat.div_le_self _ _) l1
  go_wp2_with fail
  refine (RefBuildTableO (nR cells m) (rowsF cells m) (kinds3 zs m) ra ka2 rcap kc2 w2 hr2.out.at hk2 (by omega) (by rw [kinds3_len]; omega) (fun i hi => by rw [rowsF_len2 hi]; omega)).mono ?_
  rintro e w3 hh
  rcases hh with ⟨hb, a3, cap3, rfl, hc, x3⟩ | ⟨hb, a3, cap3, rfl, hc, x3⟩
  · have hn := hide ((bok_iff cells m zs m1).1 hb)
    have hcl : Hid (colsT (nR cells m) (rowsF cells m) (kinds3 zs m) = tabC cells m zs) := rfl
    rw [hcl.out] at hc ⊢
    clear hb
    have X3 : Hid (Ext w (w3.alloc (.cells #[.int .i64 (nR cells m), .slice a3 (tabC cells m zs).length cap3] 27))) := (X2.out.trans x3).alloc _
    have B3 := hide ((B2.out.ext x3).alloc (.cells #[.int .i64 (nR cells m), .slice a3 (tabC cells m zs).length cap3] 27))
    have T3 : Hid (Blk (w3.alloc (.cells #[.int .i64 (nR cells m), .slice a3 (tabC cells m zs).length cap3] 27)) w3.heap.size 27 [.int .i64 (nR cells m), .slice a3 (tabC cells m zs).length cap3]) := Blk.new w3 _ _
    have hr3 := hide ((hr2.out.ext x3).ext ((Ext.refl w3).alloc (.cells #[.int .i64 (nR cells m), .slice a3 (tabC cells m zs).length cap3] 27)))
    have hc3 := hide (hc.ext ((Ext.refl w3).alloc (.cells #[.int .i64 (nR cells m), .slice a3 (tabC cells m zs).length cap3] 27)))
    clear x3 X2 B2 hr2 hc hk2
    have t0 := T3.out.box 0 _ rfl
    have t1 := T3.out.box 1 _ rfl
    go_wp2_with (refine wpList_storeB (vs := [.int .i64 (nR cells m), .slice a3 (tabC cells m zs).length cap3]) rfl rfl (by rfl) (by rfl) B3.out size_tab rfl (by simp [Value.oneCell']) ?_; intro w9 hb9 hg9; replace hb9 := hide hb9; replace hg9 := hide hg9)
    refine bodyPost_ret (results_cell3 rfl (by rfl) hb9.out Yabn.underlying27 size_tab) rfl ?_
    have hR9 := OwnRws.mono (hr3.out.kept hg9.out (by omega)) (show w.heap.size ≤ W0.heap.size by omega)
    have hC9 := OwnCols.mono (hc3.out.kept hg9.out (by omega)) (show w.heap.size ≤ w2.heap.size by omega)
    have hX9 : Ext w w9 := X3.out.grown hg9.out (fun k hk => by cases hk; exact Nat.le_refl _)
    exact ⟨hX9, a3, cap3, ra, rcap, hR9, .inl ⟨hn.out, rfl, hC9⟩⟩
  · have hn : Hid (¬ nR cells m ≤ 65536) := fun hh => hb ((bok_iff cells m zs m1).2 hh)
    clear hb
    simp only [List.length_nil]
    have X3 : Hid (Ext w (w3.alloc (.cells #[.int .i64 0, .slice a3 0 cap3] 27))) := (X2.out.trans x3).alloc _
    have B3 := hide ((B2.out.ext x3).alloc (.cells #[.int .i64 0, .slice a3 0 cap3] 27))
    have T3 : Hid (Blk (w3.alloc (.cells #[.int .i64 0, .slice a3 0 cap3] 27)) w3.heap.size 27 [.int .i64 0, .slice a3 0 cap3]) := Blk.new w3 _ _
    have hr3 := hide ((hr2.out.ext x3).ext ((Ext.refl w3).alloc (.cells #[.int .i64 0, .slice a3 0 cap3] 27)))
    have hc3 := hide (hc.ext ((Ext.refl w3).alloc (.cells #[.int .i64 0, .slice a3 0 cap3] 27)))
    clear x3 X2 B2 hr2 hc hk2
    have t0 := T3.out.box 0 _ rfl
    have t1 := T3.out.box 1 _ rfl
    go_wp2_with (refine wpList_storeB (vs := [.int .i64 0, .slice a3 0 cap3]) rfl rfl (by rfl) (by rfl) B3.out size_tab rfl (by simp [Value.oneCell']) ?_; intro w9 hb9 hg9; replace hb9 := hide hb9; replace hg9 := hide hg9)
    refine bodyPost_ret (results_cell3 rfl (by rfl) hb9.out Yabn.underlying27 size_tab) rfl ?_
    have hR9 := OwnRws.mono (hr3.out.kept hg9.out (by omega)) (show w.heap.size ≤ W0.heap.size by omega)
    have hC9 := OwnCols.mono (hc3.out.kept hg9.out (by omega)) (show w.heap.size ≤ w2.heap.size by omega)
    have hX9 : Ext w w9 := X3.out.grown hg9.out (fun k hk => by cases hk; exact Nat.le_refl _)
    exact ⟨hX9, a3, cap3, ra, rcap, hR9, .inr ⟨hn.out, rfl⟩⟩
end Go.Proofs.YbyabwGreat
