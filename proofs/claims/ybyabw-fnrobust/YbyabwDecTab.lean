/- Walk: impl.DecodeTable -/
import Derived.Test.YbyabwRowL
namespace Go.Proofs.Ybyabw
open Go.RowKit
set_option maxRecDepth 100000
set_option linter.unusedVariables false

/-- Row i of a table. -/
def rowT (cs : List Col) (i : Nat) : List Int := cs.map fun c => (dec c).getD i 0
theorem rowT_len (cs : List Col) (i : Nat) : (rowT cs i).length = cs.length := by simp [rowT]
theorem rowT_at (cs : List Col) (i j : Nat) (h : j < cs.length) : (rowT cs i).getD j 0 = (dec (cs.getD j col0)).getD i 0 := by
  simp [rowT, List.getD_eq_getElem?_getD, List.getElem?_eq_getElem h]

/-- (rows, b): the rows are the call's own. -/
def RetRV (n : Nat) (f : Nat → List Int) (b : Bool) (w : World) : Ending → World → Prop := fun en w' => ∃ a cap, en = .returned (.tuple #[.slice a n cap, .bool b]) ∧ OwnRows w' w.heap.size w'.heap.size a cap n f ∧ Ext w w'
theorem ownRows_nil (w : World) (base top : Nat) (f : Nat → List Int) : OwnRows w base top none 0 0 f :=
  ⟨[], fun _ => 0, fun _ => 0, 0, World.ownsRow_nil _ _ _ _, fun i h1 h2 => by omega, ⟨fun i j h1 h2 => by omega, fun i h1 => by omega, fun i h1 => by omega⟩, fun q hq => by cases hq⟩

set_option maxHeartbeats 1000000 in
theorem DecodeTable_no (cs : List Col) (n : Int) (a : Option Addr) (cap : Nat) (w : World) (h : Hid (ColsAt w a cs)) (lc : cs.length < 2 ^ 40) (hv : Hid (¬ ValidT cs n)) (f : Nat → List Int) :
    Calls Yabn.prog 52 #[.agg #[.int .i64 n, .slice a cs.length cap]] w (RetRV 0 f false w) := by
  have hx0 : Hid (Ext w (w.alloc (.cells #[.int .i64 n, .slice a cs.length cap] 34))) := (Ext.refl w).alloc _
  go_enter Yabn.func52, Yabn.ntmps52
  go_wp2_with fail
  refine (ValidTable cs n a cap _ (h.out.ext hx0.out) lc).mono ?_
  rintro e w1 ⟨b, rfl, hb, x1⟩
  obtain rfl : b = false := by
    cases b with
    | false => rfl
    | true => exact absurd (hb.1 rfl) hv.out
  have X1 : Hid (Ext w w1) := hx0.out.trans x1
  clear hb x1
  go_wp2
  go_ret2
  exact ⟨none, 0, rfl, ownRows_nil _ _ _ _, X1.out⟩

set_option maxHeartbeats 32000000 in
theorem DecodeTable_yes (cs : List Col) (n : Nat) (a : Option Addr) (cap : Nat) (w : World) (h : Hid (ColsAt w a cs)) (lc : cs.length ≤ 256) (ln : n ≤ 65536) (hv : Hid (ValidT cs n)) :
    Calls Yabn.prog 52 #[.agg #[.int .i64 n, .slice a cs.length cap]] w (RetRV n (rowT cs) true w) := by
  have hbX : Box (w.alloc (.cells #[.int .i64 n, .slice a cs.length cap] 34)) w.heap.size _ := Box.new w _ _
  have hx0 : Ext w (w.alloc (.cells #[.int .i64 n, .slice a cs.length cap] 34)) := (Ext.refl w).alloc _
  replace hbX := hide hbX
  replace hx0 := hide hx0
  go_enter Yabn.func52, Yabn.ntmps52
  go_wp2_with fail
  generalize (w.alloc (.cells #[.int .i64 n, .slice a cs.length cap] 34)) = X at *
  refine (ValidTable cs n a cap X (h.out.ext hx0.out) (by omega)).mono ?_
  rintro e w1 ⟨b, rfl, hb, x1⟩
  obtain rfl : b = true := hb.2 hv.out
  have hb1 := hide (hbX.out.ext x1)
  have X1 : Hid (Ext w w1) := hx0.out.trans x1
  have z1 : w.heap.size < w1.heap.size := cell_lt (hb1.out 0 _ rfl)
  clear hb x1 hbX hx0
  have k0 := hb1.out 0 _ rfl
  have k1 := hb1.out 1 _ rfl
  go_wp2_with (at_make; refine mk_rows rfl rfl n rfl rfl (by omega) w1.heap.size rfl ?_; intro w2 hown hx2 hsz2; have X2 := hide (X1.out.trans hx2); have hb2 := hide (hb1.out.ext hx2); clear k0 k1; have k0 := hb2.out 0 _ rfl; have k1 := hb2.out 1 _ rfl; replace hown := hide hown; replace hx2 := hide hx2)
  clear k0 k1
  go_loopw [6] (fun i wr => ∃ (k : Nat) (ss : List Value) (lo hi : Nat → Nat), i = .int .i64 k ∧ k ≤ n ∧ Hid (wr.ownsRow w1.heap.size 23 1 (.slice (some ⟨w1.heap.size, 0, none⟩) n n) n ss) ∧ Hid (RowsF wr ss (fun j => fillTo (rowT cs j) cs.length 0) lo hi 0 k) ∧ Hid (Spread lo hi w1.heap.size k wr.heap.size) ∧ Hid (But (fun q => q = w1.heap.size) w2 wr)) (fun i _ => n - (intOf i).toNat)
  case atStart => exact ⟨0, _, fun _ => 0, fun _ => 0, rfl, by omega, hown, fun i h1 h2 => by omega, ⟨fun i j h1 h2 => by omega, fun i h1 => by omega, fun i h1 => by omega⟩, But.refl _ _⟩
  clear hown
  obtain ⟨k, ss, lo, hi, rfl, hk, hown, hrows, hsp, hbut⟩ := hrel
  have zW := hbut.out.size
  have hX : Hid (Ext w wr) := But.ext ((But.of_ext X2.out).trans hbut.out) (fun q hq => by omega)
  have hbr := hide (hbut.out.box hb2.out (by omega) (by omega))
  have k0 := hbr.out 0 _ rfl
  have hsl : ss.length = n := by have := hown.out.1; omega
  by_cases hlt : k < n
  · have hlt' : (k : Int) < n := by omega
    obtain ⟨g', eg, gk⟩ := ownsRow_cell hown.out k hlt
    cases eg
    have fk := World.ownsRow.frozenAt hown.out k
    have hnew : ∀ (v1 : World) p q, Ext wr v1 → OwnI v1 wr.heap.size 2 (.slice p cs.length q) (List.replicate cs.length 0) →
        RowsF (v1.setCell ⟨w1.heap.size, k, none⟩ (.slice p cs.length q)) (ss.set k (.slice p cs.length q)) (fun j => fillTo (rowT cs j) cs.length 0) (fun i => if i = k then wr.heap.size else lo i) (fun i => if i = k then v1.heap.size else hi i) 0 (k + 1) := by
      intro v1 p q hx ho i h1 h2
      have b2 : But (fun q => q = w1.heap.size) v1 (v1.setCell ⟨w1.heap.size, k, none⟩ (.slice p cs.length q)) := But.of_grown (grown_setCell v1 ⟨w1.heap.size, k, none⟩ _) (fun q hq => by cases hq; rfl)
      have eL : ∀ j, (fillTo (rowT cs j) cs.length 0).length = cs.length := fun j => length_fillTo _ _ _ (rowT_len cs j) (Nat.zero_le _)
      by_cases e : i = k
      · subst e
        refine ⟨p, q, by rw [getD_setV _ _ _ (by omega), if_pos rfl, eL], ?_, ?_⟩
        · simp only [if_true, fillTo_zero, List.length_replicate]
          exact ho.butS b2 (fun z hz hh => by have := ho.block z hz; omega)
        · simp only [if_true, eL]
          exact fun z hz => (World.ownsRow.lt ho z hz).2
      · obtain ⟨a1, c1, e1, ho1, ht1⟩ := hrows.out i h1 (by omega)
        refine ⟨a1, c1, by rw [getD_setV _ _ _ (by omega), if_neg e]; exact e1, ?_, ?_⟩
        · simp only [if_neg e]
          have := hsp.out.above i (by omega)
          exact (ho1.ext hx).butS b2 (fun z hz hh => by have := ho1.block z hz; omega)
        · simp only [if_neg e]; exact ht1
    replace hnew := hide hnew
    generalize ss.getD k nilV = zk at gk
    replace hsl := hide hsl
    go_wp2_with (at_make; refine mk_i64 rfl rfl cs.length rfl rfl (by omega) wr.heap.size rfl ?_; intro v1 O1 x1 hsz1; have gk1 := x1.cell gk; have fk1 : v1.frozen? ⟨w1.heap.size, k, none⟩ = false := (by rw [World.frozen?_of_block (x1.block _ (by simp only; omega))]; exact fk); replace O1 := hide O1; replace x1 := hide x1)
    have zz1 := x1.out.size
    have hfin := hide (hnew.out v1 _ _ x1.out O1.out)
    have hst := hide ((World.ownsRow.stored (ownsRow_ext hown.out x1.out) k (.slice (some ⟨wr.heap.size, 0, none⟩) cs.length cs.length)).1)
    have hsp2 : Hid (Spread (fun i => if i = k then wr.heap.size else lo i) (fun i => if i = k then v1.heap.size else hi i) w1.heap.size (k + 1) (v1.setCell ⟨w1.heap.size, k, none⟩ (.slice (some ⟨wr.heap.size, 0, none⟩) cs.length cs.length)).heap.size) := by
      have := (hsp.out.step (Nat.le_refl _) zz1 (by omega))
      simp only [Hid]
      simpa using this
    have hb3 : Hid (But (fun q => q = w1.heap.size) w2 (v1.setCell ⟨w1.heap.size, k, none⟩ (.slice (some ⟨wr.heap.size, 0, none⟩) cs.length cs.length))) := (hbut.out.trans (But.of_ext x1.out)).trans (But.of_grown (grown_setCell v1 ⟨w1.heap.size, k, none⟩ _) (fun q hq => by cases hq; rfl))
    clear hnew O1 x1
    go_roundw
    case rel => exact ⟨k + 1, _, _, _, by go_num, by omega, hst.out, hfin.out, hsp2.out, hb3.out⟩
    case measure => simp [intOf]; omega
  obtain rfl : k = n := by omega
  obtain ⟨n, rfl⟩ : ∃ n, n = k := ⟨_, rfl⟩
  clear hlt hk
  obtain ⟨W3, rfl⟩ : ∃ W3, W3 = wr := ⟨_, rfl⟩
  clear hbut hx2 X2 hb2
  go_wp2
  clear k0
  go_loopw [7] (fun j wr => ∃ (m : Nat), j = .int .i64 m ∧ m ≤ cs.length ∧ Hid (wr.ownsRow w1.heap.size 23 1 (.slice (some ⟨w1.heap.size, 0, none⟩) n n) n ss) ∧ Hid (RowsF wr ss (fun j => fillTo (rowT cs j) cs.length m) lo hi 0 n) ∧ Hid (But (Rng w1.heap.size W3.heap.size) W3 wr)) (fun j _ => cs.length - (intOf j).toNat)
  case atStart => exact ⟨0, rfl, by omega, hown, hrows, But.refl _ _⟩
  clear hown hrows
  obtain ⟨m, rfl, hm, hown, hrows, hbut⟩ := hrel
  have zW4 := hbut.out.size
  have hX4 : Hid (Ext w wr) := But.ext ((But.of_ext hX.out).trans hbut.out) (fun q hq => by have := hq.1; omega)
  have hbr4 := hide (hbut.out.box hbr.out (by omega) (fun hq => by have := hq.1; omega))
  by_cases hmt : m < cs.length
  · have hmt' : (m : Int) < cs.length := by omega
    obtain ⟨b, off, a1, a2, a3, a4, c1, c2, c3, c4, rfl, ⟨g0, g1, g2, g3, g4⟩, hca, _⟩ := (h.out.ext hX4.out) m hmt
    have hvm := hv.out.2.2.2 m hmt
    have hdl := dec_len _ _ hvm
    have hrow : ∀ i, (rowT cs i).getD m 0 = (dec (cs.getD m col0)).getD i 0 := fun i => rowT_at cs i m hmt
    replace hrow := hide hrow
    replace hvm := hide hvm
    replace hca := hide hca
    have k0 := hbr4.out 0 _ rfl
    have k1 := hbr4.out 1 _ rfl
    generalize cs.getD m col0 = C at *
    obtain ⟨ck, cp, cd, cc, cr⟩ := C
    simp only at g0 g1 g2 g3 g4
    have hdl' : (dec ⟨ck, cp, cd, cc, cr⟩).length = n := by omega
    generalize hxs : dec ⟨ck, cp, cd, cc, cr⟩ = xs at *
    replace hdl' := hide hdl'
    clear hdl
    go_wp2
    refine Dr.region_text (by kernel_rfl) ?_
    go_wp2_with fail
    have hdc := decodeCol ck cp cd cc cr a1 a2 a3 a4 c1 c2 c3 c4 n wr.drew (hca.out.extC (Ext.refl _).drew) hvm.out
    rw [hxs] at hdc
    refine hdc.mono ?_
    clear hdc
    rintro e v1 ⟨pc, qc, rfl, oc, x1⟩
    have X1' : Hid (Ext wr v1) := (Ext.refl wr).drew.trans x1
    have zv1 := X1'.out.size
    have hoc : Hid (OwnI v1 wr.heap.size 2 (.slice pc n qc) xs) := by
      simp only [Hid]
      have : OwnI v1 wr.heap.size 2 (.slice pc xs.length qc) xs := oc
      rwa [hdl'.out] at this
    rw [hdl'.out]
    clear x1 oc k0 k1 g0 g1 g2 g3 g4 hca
    go_wp2
    refine ⟨by rfl, ?_⟩
    go_wp2
    have ho0 := hide (ownsRow_ext hown.out X1'.out)
    have hr0 := hide (hrows.out.ext X1'.out)
    have hbr5 := hide (hbr4.out.ext X1'.out)
    have hb0 : Hid (But (Rng w1.heap.size W3.heap.size) W3 v1) := hbut.out.trans (But.of_ext X1'.out)
    clear hown hrows
    go_loopw [9] (fun i wr => ∃ (k : Nat), i = .int .i64 k ∧ k ≤ n ∧ Hid (wr.ownsRow w1.heap.size 23 1 (.slice (some ⟨w1.heap.size, 0, none⟩) n n) n ss) ∧ Hid (RowsF wr ss (fun j => fillTo (rowT cs j) cs.length (if j < k then m + 1 else m)) lo hi 0 n) ∧ Hid (But (Rng w1.heap.size W3.heap.size) v1 wr)) (fun i _ => n - (intOf i).toNat)
    case atStart => exact ⟨0, rfl, by omega, ho0, (by simpa [Hid] using hr0.out), But.refl _ _⟩
    clear ho0 hr0
    obtain ⟨k, rfl, hk, hown, hrows, hbut6⟩ := hrel
    have zW6 := hbut6.out.size
    have hbr6 := hide (hbut6.out.box hbr5.out (by omega) (fun hq => by have := hq.1; omega))
    have k0 := hbr6.out 0 _ rfl
    by_cases hlt : k < n
    · have hlt' : (k : Int) < n := by omega
      obtain ⟨g', eg, gk⟩ := ownsRow_cell hown.out k hlt
      cases eg
      obtain ⟨p, q, e, hp, ht⟩ := hrows.out k (Nat.zero_le _) hlt
      simp only [Nat.lt_irrefl, if_false] at e hp ht
      have eL : ∀ j mm, mm ≤ cs.length → (fillTo (rowT cs j) cs.length mm).length = cs.length := fun j mm hmm => length_fillTo _ _ _ (rowT_len cs j) hmm
      rw [eL k m (by omega)] at e hp ht
      rw [e] at gk
      have hab := hsp.out.above k hlt
      have hbl := hsp.out.below k hlt
      have hfs := fillTo_set (rowT cs k) cs.length m (rowT_len cs k) hmt
      rw [hrow.out k] at hfs
      obtain ⟨gr, rfl⟩ : ∃ gr, p = some ⟨gr, 0, none⟩ := by
        obtain ⟨p', q', e', hf⟩ := hp.form
        injection e' with e1
        subst e1
        rcases hf with ⟨rfl, _⟩ | hf
        · obtain ⟨_, _, e2, _⟩ := hp.ints m (by rw [eL k m (by omega)]; exact hmt)
          cases e2
        · exact hf
      have hpl := OwnI.lt hp
      have hpt := ht gr rfl
      have gm := OwnI.cellAt hp m (by rw [eL k m (by omega)]; exact hmt)
      have fm := OwnI.frozenAt hp (eL k m (by omega)).symm m
      have hst := (OwnI.stored hp (eL k m (by omega)).symm m (xs.getD k 0)).congr hfs
      have hcol := hoc.out.butS hbut6.out (fun z hz hr => by have := hoc.out.block z hz; have := hr.2; omega)
      obtain ⟨bc, ofc, rfl, gc⟩ := hcol.ints k (by rw [hdl'.out]; exact hlt)
      have hnx : RowsF (wr.setCell ⟨gr, m, none⟩ (.int .i64 (xs.getD k 0))) ss (fun j => fillTo (rowT cs j) cs.length (if j < k + 1 then m + 1 else m)) lo hi 0 n := fun i i1 i2 => by
        have b1 : But (fun q => q = gr) wr (wr.setCell ⟨gr, m, none⟩ (.int .i64 (xs.getD k 0))) := But.of_grown (grown_setCell wr ⟨gr, m, none⟩ _) (fun q hq => by cases hq; rfl)
        by_cases hik : i = k
        · subst hik
          refine ⟨some ⟨gr, 0, none⟩, q, ?_, ?_, ?_⟩
          · simp only [Nat.lt_succ_self, if_true, eL i (m + 1) (by omega)]; exact e
          · simp only [Nat.lt_succ_self, if_true, eL i (m + 1) (by omega)]; exact hst
          · simp only [Nat.lt_succ_self, if_true, eL i (m + 1) (by omega)]; exact ht
        · obtain ⟨p2, q2, e2, o2, t2⟩ := hrows.out i i1 i2
          have ef : (if i < k + 1 then m + 1 else m) = (if i < k then m + 1 else m) := by
            by_cases hh : i < k
            · rw [if_pos hh, if_pos (by omega)]
            · rw [if_neg hh, if_neg (by omega)]
          simp only [ef]
          refine ⟨p2, q2, e2, o2.butS b1 (fun z hz hr => ?_), t2⟩
          have s1 := o2.block z hz
          have s2 := t2 z hz
          rcases Nat.lt_or_gt_of_ne hik with hlt2 | hlt2
          · have := hsp.out.ord i k hlt2 hlt; omega
          · have := hsp.out.ord k i hlt2 i2; omega
      have hou := hown.out
      have hou2 : (wr.setCell ⟨gr, m, none⟩ (.int .i64 (xs.getD k 0))).ownsRow w1.heap.size 23 1 (.slice (some ⟨w1.heap.size, 0, none⟩) n n) n ss := (But.of_grown (S := fun q => q = gr) (grown_setCell wr ⟨gr, m, none⟩ _) (fun q hq => by cases hq; rfl)).row hown.out (fun z hz hr => by cases hz; simp only at hr; omega)
      have hb7 : But (Rng w1.heap.size W3.heap.size) v1 (wr.setCell ⟨gr, m, none⟩ (.int .i64 (xs.getD k 0))) := hbut6.out.trans (But.of_grown (grown_setCell wr ⟨gr, m, none⟩ _) (fun q hq => by cases hq; exact ⟨by simp only; omega, by simp only; omega⟩))
      generalize xs.getD k 0 = y at *
      generalize (fillTo (rowT cs k) cs.length m).getD m 0 = zm at gm
      replace hnx := hide hnx
      replace hou2 := hide hou2
      replace hb7 := hide hb7
      have hbc : bc < wr.heap.size := cell_lt gc
      clear hou hcol hst hfs hp ht e eL
      go_wp2
      refine Dr.region_text (by kernel_rfl) ?_
      go_wp2
      refine ⟨by rfl, ?_⟩
      go_wp2
      go_roundw
      case rel => exact ⟨k + 1, by go_num, by omega, World.ownsRow.drew hou2.out, hnx.out.ext (Ext.refl _).drew, hb7.out.trans (But.of_ext (Ext.refl _).drew)⟩
      case measure => simp [intOf]; omega
    · obtain rfl : k = n := by omega
      clear hlt hk
      have hfin : Hid (RowsF wr ss (fun j => fillTo (rowT cs j) cs.length (m + 1)) lo hi 0 k) := fun i i1 i2 => by
        have := hrows.out i i1 i2
        simp only [if_pos i2] at this
        exact this
      have hb8 : Hid (But (Rng w1.heap.size W3.heap.size) W3 wr) := hb0.out.trans hbut6.out
      go_wp2
      go_roundw
      case rel => exact ⟨m + 1, by go_num, by omega, hown.out, hfin.out, hb8.out⟩
      case measure => simp [intOf]; omega
  · obtain rfl : m = cs.length := by omega
    clear hmt hm
    have hfin : Hid (OwnRows wr w.heap.size wr.heap.size (some ⟨w1.heap.size, 0, none⟩) n n (rowT cs)) := by
      refine OwnRows.congr (f := fun j => fillTo (rowT cs j) cs.length cs.length) ⟨ss, lo, hi, w1.heap.size, ownsRow_mono hown.out (by omega), hrows.out, hsp.out.mono zW4, fun q hq => by cases hq; exact ⟨rfl, by simp only; omega⟩⟩ (fun i _ => fillTo_all _ _ (rowT_len cs i))
    go_wp2
    go_ret2
    exact ⟨_, _, rfl, hfin.out, hX4.out⟩
end Go.Proofs.Ybyabw
