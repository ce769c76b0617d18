/- Walks: impl.GroupRows, spec.RefGroupRows -/
import Derived.Test.YbyaawGrp7
import Derived.Test.YbyaawEx8
import Derived.Test.YbyaawEx6
import Derived.Test.YbyaawWpSt
namespace Go.Proofs.Ybyaaw
open Go.RowKit
set_option maxRecDepth 100000
set_option linter.unusedVariables false
set_option linter.unusedSimpArgs false

section
variable {ops : Array Oper} {rest : List Oper} {o : Oper} {a : Act} {Q : Exit → Act → World → Prop} {w : World}
/-- append(s, xs...) -/
theorem app_i64L (hg : o.guard = none) {s x : Operand} (ho : o.op = .call { callee := .builtin .append, args := #[s, x], argTypes := #[48, 48] })
    (base : Nat) (hE : base ≤ w.heap.size) (v : Value) (n : Nat) (xs ys : List Int) (hs : a.eval s = v) (hown : OwnI w base 2 v xs) (hn : xs.length = n)
    (B off m c : Nat) (hx : a.eval x = .slice (some ⟨B, off, none⟩) m c) (hm : ys.length = m) (h0 : 0 < m) (hys : IntsAt w (some ⟨B, off, none⟩) ys) (hb : n + m < 2 ^ 39)
    (h : ∀ g cap w', OwnI w' base 2 (.slice (some ⟨g, 0, none⟩) (n + m) cap) (xs ++ ys) → w.grownBy w' v.ownBlock → g < w'.heap.size →
      wpList Yaan.prog ops Q rest (a.put o.dst (.slice (some ⟨g, 0, none⟩) (n + m) cap)) w') : wpList Yaan.prog ops Q (o :: rest) a w := by
  obtain ⟨i, h2, h3, h4, h5⟩ := info_parts info_int64
  subst hn
  refine wpList_append_lies w hg s x 48 ho base 2 i (.int .i64 0) 1 8 Yaan.underlying48 h2 h3 h4 h5 (by simp [Value.cells]) (by omega) v xs.length (xs.map (Value.int .i64)) hs hown ⟨B, off, none⟩ m c (ys.map (Value.int .i64)) hx (by simp [hm]) ?_ (by simp [Value.oneCell']) h0 (by unfold maxLen; omega) (by omega) hE w.heap.size rfl ?_
  · intro j u hu
    rw [List.getElem?_map] at hu
    cases hy : ys[j]? with
    | none => rw [hy] at hu; cases hu
    | some y =>
      rw [hy] at hu
      cases hu
      have hj : j < ys.length := by
        rcases Nat.lt_or_ge j ys.length with h | h
        · exact h
        · rw [List.getElem?_eq_none h] at hy; cases hy
      obtain ⟨b, off', e, hc⟩ := hys j hj
      cases e
      rw [List.getD_eq_getElem?_getD, hy] at hc
      have hadd : (⟨B, off, none⟩ : Addr).add j = ⟨B, off + j, none⟩ := by unfold Addr.add; split <;> simp_all
      rw [hadd]
      exact hc
  · intro g cap w' ho' hgr hor hlt
    refine h g cap w' ?_ hgr hlt
    unfold OwnI
    simpa [hm] using ho'
end

theorem SelOK.up {sel : List Int} {n : Int} (h : SelOK sel n) : ∀ j : Nat, j < sel.length → (j : Int) ≤ sel.getD j 0 := by
  intro j
  induction j with
  | zero => intro hj; exact (h 0 hj).1
  | succ j ih =>
    intro hj
    have h1 := ih (by omega)
    have h2 := (h (j + 1) hj).2.2 (by omega)
    rw [Nat.add_sub_cancel] at h2
    omega
theorem SelOK.length {sel : List Int} {n : Nat} (h : SelOK sel n) : sel.length ≤ n := by
  rcases Nat.eq_zero_or_pos sel.length with h0 | h0
  · omega
  · have h1 := h.up (sel.length - 1) (by omega)
    have h2 := (h (sel.length - 1) (by omega)).2.1
    omega
theorem cost_gr {p : Pl} {k n : Nat} {sel : List Int} (hc : costV p k n = true) (h : SelOK sel n) : sel.length * p.gr.length ≤ 16777216 := by
  have hl := h.length
  unfold costV at hc
  rcases Nat.eq_zero_or_pos n with h0 | h0
  · have : sel.length = 0 := by omega
    rw [this]; omega
  · have h1 : n * (k + p.code.length + p.its.length + p.gr.length) ≤ 16777216 := by
      simp only [Bool.or_eq_true, decide_eq_true_eq] at hc
      omega
    have h2 : sel.length * p.gr.length ≤ n * (k + p.code.length + p.its.length + p.gr.length) := Nat.mul_le_mul hl (by omega)
    omega
/-- What GroupRows answers. -/
def GrOK (p : Pl) (k n : Nat) (sel : List Int) : Prop := costV p k n = true ∧ SelOK sel n
def RetGR (c : Prop) (gr : List Int) (rows : Nat → List Int) (sel : List Int) (w : World) : Ending → World → Prop := fun en w' => Ext w w' ∧ ((c ∧ ∃ ka ga kc gc, en = .returned (.tuple #[.agg (gpCells gr rows sel ka ga kc gc).toArray, .bool true]) ∧ OwnG w' w.heap.size gr rows sel ka ga kc gc) ∨ (¬ c ∧ en = .returned (.tuple #[.agg gpz.toArray, .bool false])))
theorem gpz_one : ∀ u ∈ gpz, u.oneCell' = true := by simp [gpz, Value.oneCell']
set_option maxHeartbeats 8000000 in
theorem GroupRows (p : Pl) (ca ia ga a sa : Option Addr) (cc ic gc cap sc : Nat) (cs : List Col) (n : Nat) (sel : List Int) (w : World) (hp : Hid (PAt w p ca ia ga)) (hok : Hid (PlOK p)) (ht : Hid (ColsAt w a cs)) (hv : Hid (ValidT cs n)) (hnc : p.nc = cs.length) (hs : Hid (IntsAt w sa sel)) (hsl : sel.length ≤ 65537) :
    Calls Yaan.prog 133 #[.agg (plCells p ca ia ga cc ic gc).toArray, .agg #[.int .i64 n, .slice a cs.length cap], .slice sa sel.length sc] w (RetGR (GrOK p cs.length n sel) p.gr (rowT cs) sel w) := by
  have hlen := hide hp.out.len
  have hgi := hide hp.out.gr
  have hgp := hide hok.out.gr
  obtain ⟨nc, code, wh, its, gr, li, ag⟩ := p
  simp only at hnc
  replace hnc := hide hnc
  have hl3 : cs.length ≤ 256 := hv.out.2.2.1
  have hn2 : n ≤ 65536 := by have := hv.out.2.1; omega
  have hlg : gr.length ≤ 65600 := hlen.out.lg
  have hB1 : Hid (Blk (((w.alloc (.cells #[.int .i64 nc, .slice ca code.length cc, .int .i64 wh, .slice ia its.length ic, .slice ga gr.length gc, .int .i64 li, .bool ag] 81)).alloc (.cells #[.int .i64 n, .slice a cs.length cap] 66)).alloc (.cells #[.int .i64 0, .int .i64 0, .slice none 0 0, .slice none 0 0] 181)) w.heap.size 81 [.int .i64 nc, .slice ca code.length cc, .int .i64 wh, .slice ia its.length ic, .slice ga gr.length gc, .int .i64 li, .bool ag]) := ((Blk.new w _ _).alloc _).alloc _
  have hB2 : Hid (Blk (((w.alloc (.cells #[.int .i64 nc, .slice ca code.length cc, .int .i64 wh, .slice ia its.length ic, .slice ga gr.length gc, .int .i64 li, .bool ag] 81)).alloc (.cells #[.int .i64 n, .slice a cs.length cap] 66)).alloc (.cells #[.int .i64 0, .int .i64 0, .slice none 0 0, .slice none 0 0] 181)) (w.heap.size + 1) 66 [.int .i64 n, .slice a cs.length cap]) := by
    have := Blk.new (w.alloc (.cells #[.int .i64 nc, .slice ca code.length cc, .int .i64 wh, .slice ia its.length ic, .slice ga gr.length gc, .int .i64 li, .bool ag] 81)) #[.int .i64 n, .slice a cs.length cap] 66
    rw [show (w.alloc (.cells #[.int .i64 nc, .slice ca code.length cc, .int .i64 wh, .slice ia its.length ic, .slice ga gr.length gc, .int .i64 li, .bool ag] 81)).heap.size = w.heap.size + 1 by simp] at this
    exact this.alloc _
  have hG : Hid (Blk (((w.alloc (.cells #[.int .i64 nc, .slice ca code.length cc, .int .i64 wh, .slice ia its.length ic, .slice ga gr.length gc, .int .i64 li, .bool ag] 81)).alloc (.cells #[.int .i64 n, .slice a cs.length cap] 66)).alloc (.cells #[.int .i64 0, .int .i64 0, .slice none 0 0, .slice none 0 0] 181)) (w.heap.size + 2) 181 gpz) := by
    have := Blk.new ((w.alloc (.cells #[.int .i64 nc, .slice ca code.length cc, .int .i64 wh, .slice ia its.length ic, .slice ga gr.length gc, .int .i64 li, .bool ag] 81)).alloc (.cells #[.int .i64 n, .slice a cs.length cap] 66)) #[.int .i64 0, .int .i64 0, .slice none 0 0, .slice none 0 0] 181
    rw [show ((w.alloc (.cells #[.int .i64 nc, .slice ca code.length cc, .int .i64 wh, .slice ia its.length ic, .slice ga gr.length gc, .int .i64 li, .bool ag] 81)).alloc (.cells #[.int .i64 n, .slice a cs.length cap] 66)).heap.size = w.heap.size + 2 by simp] at this
    exact this
  have hX : Hid (Ext w (((w.alloc (.cells #[.int .i64 nc, .slice ca code.length cc, .int .i64 wh, .slice ia its.length ic, .slice ga gr.length gc, .int .i64 li, .bool ag] 81)).alloc (.cells #[.int .i64 n, .slice a cs.length cap] 66)).alloc (.cells #[.int .i64 0, .int .i64 0, .slice none 0 0, .slice none 0 0] 181))) := (((Ext.refl w).alloc _).alloc _).alloc _
  simp only [plCells]
  go_enter Yaan.func133, Yaan.ntmps133
  go_wp2_with fail
  generalize (((w.alloc (.cells #[.int .i64 nc, .slice ca code.length cc, .int .i64 wh, .slice ia its.length ic, .slice ga gr.length gc, .int .i64 li, .bool ag] 81)).alloc (.cells #[.int .i64 n, .slice a cs.length cap] 66)).alloc (.cells #[.int .i64 0, .int .i64 0, .slice none 0 0, .slice none 0 0] 181)) = W at *
  refine (baseOK_yes ⟨nc, code, wh, its, gr, li, ag⟩ ca ia ga a cc ic gc cap cs n W (hp.out.ext hX.out) hok (ht.out.ext hX.out) hv hnc.out).mono ?_
  rintro e w1 ⟨rfl, x1⟩
  have X1 : Hid (Ext w w1) := hX.out.trans x1
  replace hB1 := hide (hB1.out.ext x1)
  replace hB2 := hide (hB2.out.ext x1)
  replace hG := hide (hG.out.ext x1)
  clear x1 hX
  obtain ⟨V, hV⟩ : ∃ V, Hid (costV ⟨nc, code, wh, its, gr, li, ag⟩ cs.length n = V) := ⟨_, rfl⟩
  rw [hV.out]
  cases V with
  | false =>
    dsimp only
    go_wp2_with (refine wpList_storeB (vs := gpz) rfl rfl (by rfl) (by rfl) hG.out size_gp rfl gpz_one ?_; intro w9 hb9 hg9; replace hb9 := hide hb9; replace hg9 := hide hg9)
    refine bodyPost_ret (results_cell2 rfl (by rfl) hb9.out Yaan.underlying181 size_gp) rfl ?_
    exact ⟨X1.out.grown hg9.out (fun q hq => by cases hq; omega), .inr ⟨(fun hh => by have h1 := hh.1; rw [hV.out] at h1; cases h1), rfl⟩⟩
  | true =>
  have t0 := hB2.out.box 0 _ rfl
  have t1 := hB2.out.box 1 _ rfl
  dsimp only
  go_wp2_with fail
  refine (selOK_impl sel sa sc n w1 (hs.out.ext X1.out) (by omega)).mono ?_
  rintro e w2 ⟨bz, rfl, hbz, x2⟩
  have X2 : Hid (Ext w w2) := X1.out.trans x2
  replace hB1 := hide (hB1.out.ext x2)
  replace hB2 := hide (hB2.out.ext x2)
  replace hG := hide (hG.out.ext x2)
  replace hbz := hide hbz
  clear x2 t0 t1 X1
  cases bz with
  | false =>
    dsimp only
    go_wp2_with (refine wpList_storeB (vs := gpz) rfl rfl (by rfl) (by rfl) hG.out size_gp rfl gpz_one ?_; intro w9 hb9 hg9; replace hb9 := hide hb9; replace hg9 := hide hg9)
    refine bodyPost_ret (results_cell2 rfl (by rfl) hb9.out Yaan.underlying181 size_gp) rfl ?_
    exact ⟨X2.out.grown hg9.out (fun q hq => by cases hq; omega), .inr ⟨(fun hh => absurd (hbz.out.2 hh.2) (by decide)), rfl⟩⟩
  | true =>
  have hsel : Hid (SelOK sel n) := hbz.out.1 rfl
  have hcond : Hid (GrOK ⟨nc, code, wh, its, gr, li, ag⟩ cs.length n sel) := ⟨hV.out, hsel.out⟩
  have hsl2 : sel.length ≤ n := hsel.out.length
  have hcg : Hid (sel.length * gr.length ≤ 16777216) := cost_gr hV.out hsel.out
  clear hbz
  have t0 := hB2.out.box 0 _ rfl
  have t1 := hB2.out.box 1 _ rfl
  dsimp only
  have q0 := hB1.out.box 0 _ rfl
  have q1 := hB1.out.box 1 _ rfl
  have q2 := hB1.out.box 2 _ rfl
  have q3 := hB1.out.box 3 _ rfl
  have q4 := hB1.out.box 4 _ rfl
  have q5 := hB1.out.box 5 _ rfl
  have q6 := hB1.out.box 6 _ rfl
  go_wp2_with fail
  refine Dr.region_held (fun b => b = w.heap.size) [0] (by kernel_rfl) ?_
  refine Dr.held_q2 (by rfl) ?_
  go_wp2_with fail
  refine Dr.held_act (by rfl) (by rfl) ?_
  go_wp2_with fail
  refine (decodeAll cs n a cap w2.drew (ht.out.ext X2.out.drew) hv).mono ?_
  rintro e w3 ⟨ra, rc, rfl, hr, x3⟩
  have hsz := hB1.out.lt
  refine ⟨fun b hb => x3.block b (by simp only at hb; simp only [World.drew]; omega), ?_⟩
  have X3 : Hid (Ext w w3) := X2.out.drew.trans x3
  have hB13 := hide (hB1.out.ext ((Ext.refl w2).drew.trans x3))
  have hG3 := hide (hG.out.ext ((Ext.refl w2).drew.trans x3))
  have hr3 := hide hr
  clear x3 hr q0 q1 q2 q3 q4 q5 q6 t0 t1
  refine Dr.held_q1 (by rfl) ?_
  go_wp2_with fail
  refine Dr.held_act (by rfl) (by rfl) ?_
  go_wp2_with fail
  have hgr := groupRows ⟨nc, code, wh, its, gr, li, ag⟩ ca ia ga cc ic gc (colF cs) cs.length n ra sa rc sc sel w3 (hp.out.ext X3.out) (by have := hgp.out; rw [hnc.out] at this; exact this) hr3 (fun j hj => colF_len hv.out hj) (hs.out.ext X3.out) (fun j hj => ⟨(hsel.out j hj).1, (hsel.out j hj).2.1⟩) hl3 hn2 (by omega) hcg.out
  rw [rowAt_T] at hgr
  refine hgr.mono ?_
  clear hgr
  rintro e w4 ⟨ka, ga', kc, gc', rfl, hO, x4⟩
  refine ⟨fun b hb => x4.block b (by simp only at hb; have := hB13.out.lt; omega), ?_⟩
  have X4 : Hid (Ext w w4) := X3.out.trans x4
  have hB14 := hide (hB13.out.ext x4)
  have hG4 := hide (hG3.out.ext x4)
  have hz4 := hG3.out.lt
  have hO4 := hide hO
  clear x4 hO
  refine Dr.held_act (by rfl) (by rfl) ?_
  refine wp_storeB (vs := gpCells gr (rowT cs) sel ka ga' kc gc') rfl (by rfl) (by rfl) hG4.out size_gp rfl (by simp [gpCells, Value.oneCell']) ?_
  intro w5 hb5 hg5
  refine ⟨fun b hb => hg5.block b (by simp only at hb; rw [hb]; exact hB14.out.lt) (by simp only at hb; rw [hb]; intro e; injection e; omega), ?_⟩
  have hX5 : Hid (Ext w w5) := X4.out.grown hg5 (fun k hk => by cases hk; omega)
  have hO5 : Hid (OwnG w5 w.heap.size gr (rowT cs) sel ka ga' kc gc') := ⟨OwnI.mono (OwnI.kept hO4.out.keys hg5 (by omega)) X3.out.size, OwnI.mono (OwnI.kept hO4.out.gid hg5 (by omega)) X3.out.size⟩
  have q9 := (hB14.out.grown hg5 (fun e => by injection e; omega)).box 0 _ rfl
  replace hb5 := hide hb5
  clear hg5 hO4 X4 hB14 hG4
  refine Dr.held_q1 (by rfl) ?_
  go_wp2_with fail
  refine Dr.held_nil (by rfl) ⟨fun _ => ⟨w.heap.size, 0, rfl, rfl, Dr.isCells_of q9⟩, trivial⟩ ?_
  clear q9
  go_wp2_with fail
  refine bodyPost_ret (results_cell2 rfl (by rfl) hb5.out Yaan.underlying181 size_gp) rfl ?_
  exact ⟨hX5.out, .inl ⟨hcond.out, ka, ga', kc, gc', rfl, hO5.out⟩⟩
end Go.Proofs.Ybyaaw
