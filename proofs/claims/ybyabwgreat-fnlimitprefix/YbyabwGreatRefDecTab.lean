/- Walk: spec.RefDecodeTable -/
import Derived.Test.YbyabwGreatDecTab
namespace Go.Proofs.YbyabwGreat
open Go.RowKit
set_option maxRecDepth 100000
set_option linter.unusedVariables false

def RowsI (w : World) (base : Nat) (ss : List Value) (f : Nat → List Int) (k : Nat) : Prop :=
  ∀ i, i < k → ∃ a c, ss.getD i nilV = .slice a (f i).length c ∧ OwnI w base 2 (.slice a (f i).length c) (f i)
theorem RowsI.ext {w w' : World} {base : Nat} {ss : List Value} {f : Nat → List Int} {k : Nat} (h : RowsI w base ss f k) (he : Ext w w') : RowsI w' base ss f k := fun i hi => by
  obtain ⟨a, c, e, ho⟩ := h i hi
  exact ⟨a, c, e, ho.ext he⟩
theorem RowsI.snoc {w w1 w2 : World} {base b n : Nat} {ss : List Value} {f : Nat → List Int} {k : Nat} {v : Value} {vs : List Value} (h : RowsI w1 base ss f k) (hs : ss.length = k) (hv : w1.ownsRow b 23 1 v n vs) (hg : w1.grownBy w2 v.ownBlock) {a : Option Addr} {c : Nat} (ho : OwnI w1 base 2 (.slice a (f k).length c) (f k)) :
    RowsI w2 base (ss ++ [.slice a (f k).length c]) f (k + 1) := fun i hi => by
  rcases Nat.lt_or_ge i k with hik | hik
  · obtain ⟨a1, c1, e, ho1⟩ := h i hik
    refine ⟨a1, c1, ?_, ho1.but hg (apart_types ho1 hv (by decide))⟩
    rw [← e, List.getD_eq_getElem?_getD, List.getElem?_append_left (by omega), ← List.getD_eq_getElem?_getD]
  · obtain rfl : i = k := by omega
    refine ⟨a, c, ?_, ho.but hg (apart_types ho hv (by decide))⟩
    rw [List.getD_eq_getElem?_getD, List.getElem?_append_right (by omega)]
    simp [hs]
theorem RowsI.at {w : World} {base b : Nat} {ss : List Value} {f : Nat → List Int} {n cap : Nat} {a : Option Addr} (h : RowsI w base ss f n) (hv : w.ownsRow b 23 1 (.slice a n cap) n ss) : IRows w a n f := fun i hi => by
  obtain ⟨g, rfl, hc⟩ := ownsRow_cell hv i hi
  obtain ⟨a1, c1, e, ho⟩ := h i hi
  rw [e] at hc
  exact ⟨g, 0, a1, c1, rfl, by rw [Nat.zero_add]; exact hc, ho.ints⟩

theorem ownsRow_form {w : World} {base : Nat} {e : TypeId} {v : Value} {n : Nat} {ss : List Value} (h : w.ownsRow base e 1 v n ss) : ∃ a cap, v = .slice a n cap := by
  rcases h.2 with ⟨rfl, hn⟩ | ⟨g, cap, cur, hv, _⟩
  · exact ⟨none, 0, by rw [hn]⟩
  · exact ⟨_, cap, hv⟩
theorem take_succ_getD2 (xs : List Int) (k : Nat) (h : k < xs.length) : xs.take k ++ [xs.getD k 0] = xs.take (k + 1) := by
  rw [List.take_succ_eq_append_getElem h]; simp [List.getElem?_eq_getElem h]

section
variable {ops : Array Oper} {rest : List Oper} {o : Oper} {a : Act} {Q : Exit → Act → World → Prop} {w : World}
theorem app_rows (hg : o.guard = none) {s x : Operand} (ho : o.op = .call { callee := .builtin .append, args := #[s, x], argTypes := #[28, 28] })
    (base : Nat) (hE : base ≤ w.heap.size) (v : Value) (n : Nat) (ss : List Value) (y : Value) (hs : a.eval s = v) (hown : w.ownsRow base 23 1 v n ss)
    (B c : Nat) (hx : a.eval x = .slice (some ⟨B, 0, none⟩) 1 c) (hblk : w.heap[B]? = some (.cells #[y] 23 (0, 0))) (hy : y.oneCell' = true) (hb : n < 2 ^ 39)
    (h : ∀ g cap w', w'.ownsRow base 23 1 (.slice (some ⟨g, 0, none⟩) (n + 1) cap) (n + 1) (ss ++ [y]) → w.grownBy w' v.ownBlock → g < w'.heap.size →
      wpList Yabn.prog ops Q rest (a.put o.dst (.slice (some ⟨g, 0, none⟩) (n + 1) cap)) w') : wpList Yabn.prog ops Q (o :: rest) a w := by
  obtain ⟨i, h2, h3, h4, h5⟩ := info_parts info_row
  exact wpList_app hg ho 23 Yabn.underlying28 h2 h3 h4 h5 (by simp [Value.cells]) (by omega) (by omega) base hE v n ss hs hown B 1 c [y] hx hblk rfl (by simpa using hy) (by omega) (by omega) (fun g cap w' ho' hgr _ hlt => h g cap w' ho' hgr hlt)
end

/-- (rows, b): rows that can be read. -/
def RetRI (n : Nat) (f : Nat → List Int) (b : Bool) (w : World) : Ending → World → Prop := fun en w' => ∃ a cap, en = .returned (.tuple #[.slice a n cap, .bool b]) ∧ IRows w' a n f ∧ Ext w w'

set_option maxHeartbeats 1000000 in
theorem RefDecodeTable_no (cs : List Col) (n : Int) (a : Option Addr) (cap : Nat) (w : World) (h : Hid (ColsAt w a cs)) (lc : cs.length < 2 ^ 40) (hv : Hid (¬ ValidT cs n)) (f : Nat → List Int) :
    Calls Yabn.prog 24 #[.agg #[.int .i64 n, .slice a cs.length cap]] w (RetRI 0 f false w) := by
  have hx0 : Hid (Ext w (w.alloc (.cells #[.int .i64 n, .slice a cs.length cap] 27))) := (Ext.refl w).alloc _
  go_enter Yabn.func24, Yabn.ntmps24
  go_wp2_with fail
  refine (RefValidTable cs n a cap _ (h.out.ext hx0.out) lc).mono ?_
  rintro e w1 ⟨b, rfl, hb, x1⟩
  obtain rfl : b = false := by
    cases b with
    | false => rfl
    | true => exact absurd (hb.1 rfl) hv.out
  have X1 : Hid (Ext w w1) := hx0.out.trans x1
  clear hb x1
  go_wp2
  go_ret2
  exact ⟨none, 0, rfl, fun i hi => by omega, X1.out⟩

set_option maxHeartbeats 32000000 in
theorem RefDecodeTable_yes (cs : List Col) (n : Nat) (a : Option Addr) (cap : Nat) (w : World) (h : Hid (ColsAt w a cs)) (lc : cs.length ≤ 256) (ln : n ≤ 65536) (hv : Hid (ValidT cs n)) :
    Calls Yabn.prog 24 #[.agg #[.int .i64 n, .slice a cs.length cap]] w (RetRI n (rowT cs) true w) := by
  have hbX : Box (w.alloc (.cells #[.int .i64 n, .slice a cs.length cap] 27)) w.heap.size _ := Box.new w _ _
  have hx0 : Ext w (w.alloc (.cells #[.int .i64 n, .slice a cs.length cap] 27)) := (Ext.refl w).alloc _
  replace hbX := hide hbX
  replace hx0 := hide hx0
  go_enter Yabn.func24, Yabn.ntmps24
  go_wp2_with fail
  generalize (w.alloc (.cells #[.int .i64 n, .slice a cs.length cap] 27)) = X at *
  refine (RefValidTable cs n a cap X (h.out.ext hx0.out) (by omega)).mono ?_
  rintro e w1 ⟨b, rfl, hb, x1⟩
  obtain rfl : b = true := hb.2 hv.out
  have hb1 := hide (hbX.out.ext x1)
  have X1 : Hid (Ext w w1) := hx0.out.trans x1
  clear hb x1 hbX hx0
  go_wp2_with fail
  go_loopw [4, 5] (fun v j wr => ∃ (k : Nat) (ss : List Value), j = .int .i64 k ∧ k ≤ cs.length ∧ Hid (wr.ownsRow w1.heap.size 23 1 v k ss) ∧ Hid (RowsI wr w1.heap.size ss (fun i => dec (cs.getD i col0)) k) ∧ Hid (Ext w1 wr)) (fun _ j _ => cs.length - (intOf j).toNat)
  case atStart => exact ⟨0, [], rfl, by omega, World.ownsRow_nil _ _ _ _, fun i hi => by omega, Ext.refl w1⟩
  obtain ⟨k, ss, rfl, hk, hown, hrows, hext⟩ := hrel
  have zW := hext.out.size
  have hbr := hide (hb1.out.ext hext.out)
  have k0 := hbr.out 0 _ rfl
  have k1 := hbr.out 1 _ rfl
  by_cases hlt : k < cs.length
  · have hlt' : (k : Int) < cs.length := by omega
    obtain ⟨b, off, a1, a2, a3, a4, c1, c2, c3, c4, rfl, ⟨g0, g1, g2, g3, g4⟩, hca, hcl⟩ := (h.out.ext (X1.out.trans hext.out)) k hlt
    have hvm := hv.out.2.2.2 k hlt
    have hdl := dec_len _ _ hvm
    have hsl : ss.length = k := by have := hown.out.1; omega
    have hnew : ∀ (v1 w2 : World) (pc : Option Addr) (qc : Nat) (v : Value) (vs : List Value), Ext wr v1 → OwnI v1 wr.heap.size 2 (.slice pc (dec (cs.getD k col0)).length qc) (dec (cs.getD k col0)) → v1.ownsRow w1.heap.size 23 1 v k vs → v1.grownBy w2 v.ownBlock →
        RowsI w2 w1.heap.size (ss ++ [.slice pc (dec (cs.getD k col0)).length qc]) (fun i => dec (cs.getD i col0)) (k + 1) := fun v1 w2 pc qc v vs hx ho hv hg =>
      RowsI.snoc (w := wr) (hrows.out.ext hx) hsl hv hg (ho.mono zW)
    replace hnew := hide hnew
    replace hvm := hide hvm
    replace hca := hide hca
    have l2 := hcl.dict
    have l3 := hcl.codes
    have l4 := hcl.runs
    generalize cs.getD k col0 = C at *
    obtain ⟨ck, cp, cd, cc, cr⟩ := C
    simp only at g0 g1 g2 g3 g4 l2 l3 l4
    have hdl' : (dec ⟨ck, cp, cd, cc, cr⟩).length = n := by omega
    generalize hxs : dec ⟨ck, cp, cd, cc, cr⟩ = xs at *
    replace hdl' := hide hdl'
    clear hdl hcl
    go_wp2
    refine Dr.region_text (by kernel_rfl) ?_
    go_wp2_with fail
    have hdc := RefDecodeColumn_yes ck n cp cd cc cr a1 a2 a3 a4 c1 c2 c3 c4 wr.drew (hca.out.extC (Ext.refl _).drew) l2 l3 l4 hvm.out
    rw [hxs] at hdc
    refine hdc.mono ?_
    clear hdc
    rintro e v1 ⟨pc, qc, rfl, oc, x1⟩
    have X1' : Hid (Ext wr v1) := (Ext.refl wr).drew.trans x1
    have oc' : Hid (OwnI v1 wr.heap.size 2 (.slice pc xs.length qc) xs) := oc
    have zv1 := X1'.out.size
    clear x1 oc k0 k1 g0 g1 g2 g3 g4 hca
    go_wp2
    refine ⟨by rfl, ?_⟩
    have ho1 := hide (World.ownsRow.alloc (ownsRow_ext hown.out X1'.out) (.cells #[.slice pc xs.length qc] 23))
    have hln : k < 2 ^ 39 := by omega
    replace hsl := hide hsl
    go_wp2_with (at_builtin; refine app_rows rfl rfl w1.heap.size (by simp; omega) _ k ss (.slice pc xs.length qc) rfl ho1.out v1.heap.size 1 (by rfl) (heap_alloc_new v1 _) rfl hln ?_; intro g cp2 w2 hown2 hgr hlt2; replace hgr := hide hgr; replace hown2 := hide hown2)
    have hfin := hide (hnew.out (v1.alloc (.cells #[.slice pc xs.length qc] 23)) w2 pc qc _ _ (X1'.out.alloc _) (oc'.out.alloc _) ho1.out hgr.out)
    have X2 : Hid (Ext w1 w2) := ((hext.out.trans X1'.out).alloc _).grown hgr.out (fun q hq => (World.ownsRow.lt hown.out q hq).1)
    clear hnew ho1 hgr
    go_roundw
    case rel => exact ⟨k + 1, _, by go_num, by omega, hown2.out, hfin.out, X2.out⟩
    case measure => simp [intOf]; omega
  obtain rfl : k = cs.length := by omega
  clear hlt hk
  obtain ⟨ac, qc, rfl⟩ := ownsRow_form hown.out
  have hC := hide (hrows.out.at hown.out)
  clear hown hrows
  obtain ⟨W2, rfl⟩ : ∃ W2, W2 = wr := ⟨_, rfl⟩
  have XW2 : Hid (Ext w W2) := X1.out.trans hext.out
  go_wp2
  clear k0 k1
  go_loopw [8, 9] (fun v i wr => ∃ (k : Nat) (ss : List Value), i = .int .i64 k ∧ k ≤ n ∧ Hid (wr.ownsRow W2.heap.size 23 1 v k ss) ∧ Hid (RowsI wr W2.heap.size ss (rowT cs) k) ∧ Hid (Ext W2 wr)) (fun _ i _ => n - (intOf i).toNat)
  case atStart => exact ⟨0, [], rfl, by omega, World.ownsRow_nil _ _ _ _, fun i hi => by omega, Ext.refl W2⟩
  obtain ⟨k, ss, rfl, hk, hown, hrows, hextW⟩ := hrel
  have zW3 := hextW.out.size
  have hbr3 := hide (hbr.out.ext hextW.out)
  have k0 := hbr3.out 0 _ rfl
  by_cases hlt : k < n
  · have hlt' : (k : Int) < n := by omega
    obtain ⟨W3, rfl⟩ : ∃ W3, W3 = wr := ⟨_, rfl⟩
    have hsl : ss.length = k := by have := hown.out.1; omega
    go_wp2_with (at_make; refine mk0_i64 rfl rfl cs.length rfl (by omega) W3.heap.size rfl ?_; intro v1 orow x1 hsz1; replace orow := hide orow; replace x1 := hide x1)
    clear k0
    go_loopw [10, 11] (fun v j wr => ∃ (m : Nat), j = .int .i64 m ∧ m ≤ cs.length ∧ Hid (OwnI wr W3.heap.size 2 v ((rowT cs k).take m)) ∧ Hid (Ext W3 wr)) (fun _ j _ => cs.length - (intOf j).toNat)
    case atStart => exact ⟨0, rfl, by omega, orow, x1⟩
    clear orow x1 hsz1
    obtain ⟨m, rfl, hm, orow, hx3⟩ := hrel
    have zW4 := hx3.out.size
    by_cases hmt : m < cs.length
    · have hmt' : (m : Int) < cs.length := by omega
      obtain ⟨b, off, pc, qc2, rfl, gm, im⟩ := (hC.out.ext (hextW.out.trans hx3.out)) m hmt
      have hvm := hv.out.2.2.2 m hmt
      have hdl := dec_len _ _ hvm
      simp only at gm im
      obtain ⟨b2, off2, rfl, gi⟩ := im k (by omega)
      have htk := take_succ_getD2 (rowT cs k) m (by rw [rowT_len]; exact hmt)
      rw [rowT_at cs k m hmt] at htk
      have hln : ((rowT cs k).take m).length < 2 ^ 39 := by simp; omega
      have hdl' : (dec (cs.getD m col0)).length = n := by omega
      rw [hdl'] at gm
      generalize (dec (cs.getD m col0)).getD k 0 = y at *
      generalize (rowT cs k).take m = ps at *
      replace htk := hide htk
      replace hln := hide hln
      have hb2 := cell_lt gi
      have hb1' := cell_lt gm
      simp only at hb2 hb1'
      clear hdl hdl' hvm im
      go_wp2_with (at_builtin; refine app_i64 rfl rfl W3.heap.size (by simp; omega) _ ps y rfl (orow.out.alloc _) wr.heap.size 1 (by rfl) (heap_alloc_new wr _) hln.out ?_; intro g cap w2 hown2 hgr hor hlt2; replace hgr := hide hgr; replace hown2 := hide hown2; replace hor := hide hor)
      go_roundw
      case rel =>
        refine ⟨m + 1, by go_num, by omega, hown2.out.congr htk.out, (hx3.out.alloc _).grown hgr.out ?_⟩
        intro q hq; exact orow.out.block q hq
      case measure => simp [intOf]; omega
    · obtain rfl : m = cs.length := by omega
      clear hmt hm
      have hfull : (rowT cs k).take cs.length = rowT cs k := by rw [← rowT_len cs k, List.take_length]
      rw [hfull] at orow
      obtain ⟨pr, qr, rfl, _⟩ := orow.out.form
      have hlr := rowT_len cs k
      have hnew : ∀ (v1 w2 : World) (v : Value) (vs : List Value), Ext W3 v1 → OwnI v1 W3.heap.size 2 (.slice pr (rowT cs k).length qr) (rowT cs k) → v1.ownsRow W2.heap.size 23 1 v k vs → v1.grownBy w2 v.ownBlock →
          RowsI w2 W2.heap.size (ss ++ [.slice pr (rowT cs k).length qr]) (rowT cs) (k + 1) := fun v1 w2 v vs hx ho hv hg =>
        RowsI.snoc (w := W3) (hrows.out.ext hx) hsl hv hg (ho.mono zW3)
      replace hnew := hide hnew
      replace hlr := hide hlr
      have ho1 := hide (World.ownsRow.alloc (ownsRow_ext hown.out hx3.out) (.cells #[.slice pr (rowT cs k).length qr] 23))
      have hln : k < 2 ^ 39 := by omega
      clear hfull
      replace hsl := hide hsl
      go_wp2_with (at_builtin; refine app_rows rfl rfl W2.heap.size (by simp; omega) _ k ss (.slice pr (rowT cs k).length qr) rfl ho1.out wr.heap.size 1 (by rfl) (heap_alloc_new wr _) rfl hln ?_; intro g cp2 w2 hown2 hgr hlt2; replace hgr := hide hgr; replace hown2 := hide hown2)
      have hfin := hide (hnew.out (wr.alloc (.cells #[.slice pr (rowT cs k).length qr] 23)) w2 _ _ (hx3.out.alloc _) (orow.out.alloc _) ho1.out hgr.out)
      have X2 : Hid (Ext W2 w2) := ((hextW.out.trans hx3.out).alloc _).grown hgr.out (fun q hq => (World.ownsRow.lt hown.out q hq).1)
      clear hnew ho1 hgr
      go_roundw
      case rel => exact ⟨k + 1, _, by go_num, by omega, hown2.out, hfin.out, X2.out⟩
      case measure => simp [intOf]; omega
  · obtain rfl : k = n := by omega
    clear hlt hk
    obtain ⟨ar, qr, rfl⟩ := ownsRow_form hown.out
    have hR := hide (hrows.out.at hown.out)
    go_wp2
    go_ret2
    exact ⟨ar, qr, rfl, hR.out, XW2.out.trans hextW.out⟩
end Go.Proofs.YbyabwGreat
