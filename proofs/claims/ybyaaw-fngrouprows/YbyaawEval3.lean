/- Walks: impl.EvalRow, spec.RefEval -/
import Derived.Test.YbyaawEval2
namespace Go.Proofs.Ybyaaw
open Go.RowKit
set_option maxRecDepth 100000
set_option linter.unusedVariables false

def evOK (ns : List Nd) (row : List Int) (r : Int) : Prop := 0 ≤ r ∧ r < ns.length ∧ ∀ i : Nat, (i : Int) ≤ r → wfP (ns.getD i nd0) i row.length
def evAt (ns : List Nd) (row : List Int) (r : Int) : Int := (evTo ns row (r.toNat + 1)).getD r.toNat 0
/-- The two evaluators' answer. -/
def RetEv (ns : List Nd) (row : List Int) (r : Int) (w : World) : Ending → World → Prop := fun en w' => Ext w w' ∧ ((evOK ns row r ∧ en = .returned (.tuple #[.int .i64 (evAt ns row r), .bool true])) ∨ (¬ evOK ns row r ∧ en = .returned (.tuple #[.int .i64 0, .bool false])))

theorem mixTo_root (ns : List Nd) (row ys : List Int) (r : Nat) : (mixTo ns row ys (r + 1)).getD r 0 = evAt ns row r := by
  rw [mixTo_below ns row ys (r + 1) r (by omega)]
  simp [evAt]

set_option maxHeartbeats 1000000 in
theorem EvalRow_out (ns : List Nd) (row : List Int) (a ar : Option Addr) (c cr : Nat) (r : Int) (w : World) (h : r < 0 ∨ (ns.length : Int) ≤ r) :
    Calls Yaan.prog 52 #[.slice a ns.length c, .int .i64 r, .slice ar row.length cr] w (RetEv ns row r w) := by
  have hno : ¬ evOK ns row r := fun hh => by have h1 := hh.1; have h2 := hh.2.1; omega
  replace hno := hide hno
  by_cases h0 : r < 0
  · go_enter Yaan.func52, Yaan.ntmps52
    go_wp2
    go_ret2
    exact ⟨Ext.refl w, .inr ⟨hno.out, rfl⟩⟩
  · have h1 : (ns.length : Int) ≤ r := by omega
    go_enter Yaan.func52, Yaan.ntmps52
    go_wp2
    go_ret2
    exact ⟨Ext.refl w, .inr ⟨hno.out, rfl⟩⟩

set_option maxHeartbeats 1000000 in
theorem RefEval_out (ns : List Nd) (row : List Int) (a ar : Option Addr) (c cr : Nat) (r : Int) (w : World) (h : r < 0 ∨ (ns.length : Int) ≤ r) :
    Calls Yaan.prog 51 #[.slice a ns.length c, .int .i64 r, .slice ar row.length cr] w (RetEv ns row r w) := by
  have hno : ¬ evOK ns row r := fun hh => by have h1 := hh.1; have h2 := hh.2.1; omega
  replace hno := hide hno
  by_cases h0 : r < 0
  · go_enter Yaan.func51, Yaan.ntmps51
    go_wp2
    go_ret2
    exact ⟨Ext.refl w, .inr ⟨hno.out, rfl⟩⟩
  · have h1 : (ns.length : Int) ≤ r := by omega
    go_enter Yaan.func51, Yaan.ntmps51
    go_wp2
    go_ret2
    exact ⟨Ext.refl w, .inr ⟨hno.out, rfl⟩⟩



set_option maxHeartbeats 4000000 in
theorem EvalRow_in (ns : List Nd) (row : List Int) (a ar : Option Addr) (c cr r : Nat) (w : World) (h : Hid (NodesAt w a ns)) (hr : Hid (IntsAt w ar row)) (l1 : ns.length < 2 ^ 39) (l2 : row.length < 2 ^ 39) (hrn : r < ns.length) :
    Calls Yaan.prog 52 #[.slice a ns.length c, .int .i64 r, .slice ar row.length cr] w (RetEv ns row r w) := by
  have hrn' : (r : Int) < ns.length := by omega
  have hd1 : decide ((r : Int) < 0) = false := by simp
  have hd3 : decide (ns.length ≤ r) = false := by simp; omega
  have hd2 : decide ((ns.length : Int) ≤ (r : Int)) = false := by simp; omega
  go_enter Yaan.func52, Yaan.ntmps52
  go_wp2
  go_loopw [8] (fun i wr => ∃ k : Nat, i = .int .i64 k ∧ k ≤ r + 1 ∧ Hid (∀ i : Nat, i < k → wfP (ns.getD i nd0) i row.length) ∧ Hid (Ext w wr)) (fun i _ => r + 1 - (intOf i).toNat)
  case atStart => exact ⟨0, rfl, by omega, fun i hi => by omega, Ext.refl w⟩
  obtain ⟨k, rfl, hk, hall, hext⟩ := hrel
  by_cases hlt : k ≤ r
  · have hlt' : (k : Int) ≤ r := by omega
    have hkn : (k : Int) < ns.length := by omega
    obtain ⟨b, off, rfl, g1, g2, g3, g4⟩ := (h.out.ext hext.out).get k (by omega)
    have hwk : ∀ q : Bool, (q = true ↔ wfP (ns.getD k nd0) k row.length) → (q = true → ∀ i : Nat, i < k + 1 → wfP (ns.getD i nd0) i row.length) ∧ (q = false → ¬ evOK ns row r) := by
      intro q hq
      refine ⟨fun hh i hi => ?_, fun hh ho => ?_⟩
      · rcases Nat.lt_or_ge i k with h3 | h3
        · exact hall.out i h3
        · obtain rfl : i = k := by omega
          exact hq.1 hh
      · have := hq.2 (ho.2.2 k (by omega))
        rw [hh] at this
        cases this
    generalize ns.getD k nd0 = nd at hwk g1 g2 g3 g4
    obtain ⟨y1, y2, y3, y4⟩ := nd
    simp only at g1 g2 g3 g4
    replace hwk := hide hwk
    go_wp2_with fail
    refine (impl.wellFormed y1 y2 y3 y4 k row.length wr).mono ?_
    rintro e w1 ⟨q, rfl, hq, hx1⟩
    obtain ⟨hq1, hq2⟩ := hwk.out q hq
    clear hwk hq
    cases q with
    | false =>
      have hno := hide (hq2 rfl)
      clear hq1 hq2
      replace hx1 := hide hx1
      go_wp2
      go_ret2
      exact ⟨hext.out.trans hx1.out, .inr ⟨hno.out, rfl⟩⟩
    | true =>
      have hyes := hide (hq1 rfl)
      clear hq1 hq2
      replace hx1 := hide hx1
      go_wp2
      go_roundw
      case rel => exact ⟨k + 1, by go_num, by omega, hyes.out, hext.out.trans hx1.out⟩
      case measure => simp [intOf]; omega
  obtain rfl : k = r + 1 := by omega
  have hlt' : ¬ ((r + 1 : Nat) : Int) ≤ r := by omega
  clear hlt hk
  have hok : Hid (evOK ns row r) := ⟨by omega, by omega, fun i hi => hall.out i (by omega)⟩
  have hwf : Hid (∀ i, i ≤ r → wfP (ns.getD i nd0) i row.length) := fun i hi => hall.out i (by omega)
  clear hall
  go_wp2_with (first | (at_make; refine mk_i64 rfl rfl (r + 1) (by go_num) (by go_num) (by omega) wr.heap.size rfl ?_; intro w1 hown hx1 hsz; replace hown := hide hown; replace hx1 := hide hx1) | fail)
  have hl3 : (List.replicate (r + 1) (0 : Int)).length = r + 1 := by simp
  have hev := evalInto ns row (List.replicate (r + 1) 0) a ar c cr wr.heap.size (r + 1) r wr w1 hx1 (h.out.ext hext.out) (hr.out.ext hext.out) (by rw [hl3]; exact hown.out) l1 l2 (by omega) hrn (by omega) hwf
  rw [hl3] at hev
  refine hev.mono ?_
  clear hev
  rintro e w2 ⟨rfl, hown2, hb2⟩
  have hcell := OwnI.cellAt hown2 r (by rw [mixTo_len _ _ _ _ (by omega)]; omega)
  rw [mixTo_root] at hcell
  have hx2 : Ext w w2 := Below.trans (hext.out.trans hx1.out) (hb2.mono hext.out.size)
  replace hx2 := hide hx2
  clear hown2 hb2 hown hx1 hl3
  generalize hz : evAt ns row r = z at *
  replace hz := hide hz
  go_wp2
  go_ret2
  exact ⟨hx2.out, .inl ⟨hok.out, by rw [hz.out]; rfl⟩⟩
set_option maxHeartbeats 8000000 in
theorem RefEval_in (ns : List Nd) (row : List Int) (a ar : Option Addr) (c cr r : Nat) (w : World) (h : Hid (NodesAt w a ns)) (hr : Hid (IntsAt w ar row)) (l1 : ns.length < 2 ^ 39) (l2 : row.length < 2 ^ 39) (hrn : r < ns.length) :
    Calls Yaan.prog 51 #[.slice a ns.length c, .int .i64 r, .slice ar row.length cr] w (RetEv ns row r w) := by
  have hrn' : (r : Int) < ns.length := by omega
  have hd1 : decide ((r : Int) < 0) = false := by simp
  have hd3 : decide (ns.length ≤ r) = false := by simp; omega
  have hd2 : decide ((ns.length : Int) ≤ (r : Int)) = false := by simp; omega
  go_enter Yaan.func51, Yaan.ntmps51
  go_wp2
  go_loopw [8] (fun i wr => ∃ k : Nat, i = .int .i64 k ∧ k ≤ r + 1 ∧ Hid (∀ i : Nat, i < k → wfP (ns.getD i nd0) i row.length) ∧ Hid (Ext w wr)) (fun i _ => r + 1 - (intOf i).toNat)
  case atStart => exact ⟨0, rfl, by omega, fun i hi => by omega, Ext.refl w⟩
  obtain ⟨k, rfl, hk, hall, hext⟩ := hrel
  by_cases hlt : k ≤ r
  · have hlt' : (k : Int) ≤ r := by omega
    have hkn : (k : Int) < ns.length := by omega
    obtain ⟨b, off, rfl, g1, g2, g3, g4⟩ := (h.out.ext hext.out).get k (by omega)
    have hwk : ∀ q : Bool, (q = true ↔ wfP (ns.getD k nd0) k row.length) → (q = true → ∀ i : Nat, i < k + 1 → wfP (ns.getD i nd0) i row.length) ∧ (q = false → ¬ evOK ns row r) := by
      intro q hq
      refine ⟨fun hh i hi => ?_, fun hh ho => ?_⟩
      · rcases Nat.lt_or_ge i k with h3 | h3
        · exact hall.out i h3
        · obtain rfl : i = k := by omega
          exact hq.1 hh
      · have := hq.2 (ho.2.2 k (by omega))
        rw [hh] at this
        cases this
    generalize ns.getD k nd0 = nd at hwk g1 g2 g3 g4
    obtain ⟨y1, y2, y3, y4⟩ := nd
    simp only at g1 g2 g3 g4
    replace hwk := hide hwk
    go_wp2_with fail
    refine (spec.WellFormed y1 y2 y3 y4 k row.length wr).mono ?_
    rintro e w1 ⟨q, rfl, hq, hx1⟩
    obtain ⟨hq1, hq2⟩ := hwk.out q hq
    clear hwk hq
    cases q with
    | false =>
      have hno := hide (hq2 rfl)
      clear hq1 hq2
      replace hx1 := hide hx1
      go_wp2
      go_ret2
      exact ⟨hext.out.trans hx1.out, .inr ⟨hno.out, rfl⟩⟩
    | true =>
      have hyes := hide (hq1 rfl)
      clear hq1 hq2
      replace hx1 := hide hx1
      go_wp2
      go_roundw
      case rel => exact ⟨k + 1, by go_num, by omega, hyes.out, hext.out.trans hx1.out⟩
      case measure => simp [intOf]; omega
  obtain rfl : k = r + 1 := by omega
  have hlt' : ¬ ((r + 1 : Nat) : Int) ≤ r := by omega
  clear hlt hk
  have hok : Hid (evOK ns row r) := ⟨by omega, by omega, fun i hi => hall.out i (by omega)⟩
  have hwf : Hid (∀ i, i ≤ r → wfP (ns.getD i nd0) i row.length) := fun i hi => hall.out i (by omega)
  clear hall
  go_wp2_with (at_make; refine mk_i64 rfl rfl (r + 1) (by go_num) (by go_num) (by omega) wr.heap.size rfl ?_; intro w1 hown hx1 hsz; replace hown := hide hown; replace hx1 := hide hx1)
  obtain ⟨W, rfl⟩ : ∃ W, W = wr := ⟨_, rfl⟩
  obtain ⟨ys, hys⟩ : ∃ ys, ys = List.replicate (r + 1) (0 : Int) := ⟨_, rfl⟩
  have hyl : ys.length = r + 1 := by rw [hys]; simp
  rw [← hys] at hown
  clear hys
  replace hyl := hide hyl
  go_loopw [10] (fun i wr => ∃ k : Nat, i = .int .i64 k ∧ k ≤ r + 1 ∧ Hid (OwnI wr W.heap.size 2 (.slice (some ⟨W.heap.size, 0, none⟩) (r + 1) (r + 1)) (mixTo ns row ys k)) ∧ Hid (Ext W wr)) (fun i _ => r + 1 - (intOf i).toNat)
  case atStart => exact ⟨0, rfl, by omega, by rw [mixTo_zero]; exact hown, hx1⟩
  clear hown hx1 hsz
  obtain ⟨k, rfl, hk, hown, hxW⟩ := hrel
  have hext2 : Hid (Ext w wr) := hext.out.trans hxW.out
  have hsz := hxW.out.size
  by_cases hlt : k ≤ r
  · have hlt2 : (k : Int) ≤ r := by omega
    have hkn : (k : Int) < ns.length := by omega
    have hky : (k : Int) < ((r + 1 : Nat) : Int) := by omega
    obtain ⟨b, off, rfl, g1, g2, g3, g4⟩ := (h.out.ext hext2.out).get k (by omega)
    have hw := hwf.out k hlt
    have hset := mixTo_set ns row ys k (by rw [hyl.out]; omega)
    have hml := mixTo_len ns row ys k (by rw [hyl.out]; omega)
    rw [hyl.out] at hml
    have hgl := OwnI.lt hown.out
    have hst : ∀ ob, OwnI ((wr.setCell ⟨W.heap.size, k, none⟩ (.int .i64 (evN (ns.getD k nd0) row (evTo ns row k)))).alloc ob) W.heap.size 2 (.slice (some ⟨W.heap.size, 0, none⟩) (r + 1) (r + 1)) (mixTo ns row ys (k + 1)) :=
      fun ob => ((OwnI.stored hown.out hml.symm k (evN (ns.getD k nd0) row (evTo ns row k))).congr hset).alloc ob
    have hnx : Hid (∀ ob v, Ext W ((wr.setCell ⟨W.heap.size, k, none⟩ v).alloc ob)) := fun ob v => (hxW.out.setCell (Nat.le_refl _) v).alloc ob
    have hfz := OwnI.frozenAt hown.out hml.symm k
    have hcell : Hid (∀ i : Nat, i < k → wr.cell? ⟨W.heap.size, i, none⟩ = some (.int .i64 ((evTo ns row k).getD i 0))) := fun i hi => by
      have := OwnI.cellAt hown.out i (by omega)
      rw [mixTo_below ns row ys k i hi] at this
      exact this
    have hcur := OwnI.cellAt hown.out k (by omega)
    generalize (mixTo ns row ys k).getD k 0 = q at hcur
    have hbl := cell_lt g1
    generalize ns.getD k nd0 = nd at *
    obtain ⟨o, y, l, rr⟩ := nd
    generalize evTo ns row k = vs at *
    simp only at g1 g2 g3 g4 hbl
    unfold wfP at hw
    simp only at hw
    clear hset hml
    have hgb := hgl.2
    by_cases o1 : o = 1
    · subst o1
      clear hw hcell
      have he : evN ⟨1, y, l, rr⟩ row vs = y := by simp [evN]
      rw [he] at hst
      clear he
      replace hst := hide hst
      as_aux_lemma =>
        go_wp2_with (first | (go_at_call 121; refine (b2i_spec _ _).mono ?_; rintro e wx ⟨rfl, rfl⟩) | (go_at_call 122; refine (apply _ _ _ _).mono ?_; rintro e wx ⟨rfl, rfl⟩))
        go_roundw
        case rel => exact ⟨k + 1, by go_num, by omega, hst.out _, hnx.out _ _⟩
        case measure => simp [intOf]; omega
    by_cases o2 : o = 2
    · subst o2
      obtain ⟨hl0, hl1⟩ := hw.2.2.1 rfl
      clear hw hcell
      obtain ⟨m, rfl⟩ := Int.eq_ofNat_of_zero_le hl0
      obtain ⟨b2, off2, rfl, gr⟩ := (hr.out.ext hext2.out) m (by omega)
      have hb2 := cell_lt gr
      have he : evN ⟨2, (m : Int), l, rr⟩ row vs = row.getD m 0 := by simp [evN]
      rw [he] at hst
      clear he
      generalize row.getD m 0 = z1 at *
      replace hst := hide hst
      simp only at hb2
      as_aux_lemma =>
        go_wp2_with (first | (go_at_call 121; refine (b2i_spec _ _).mono ?_; rintro e wx ⟨rfl, rfl⟩) | (go_at_call 122; refine (apply _ _ _ _).mono ?_; rintro e wx ⟨rfl, rfl⟩))
        go_roundw
        case rel => exact ⟨k + 1, by go_num, by omega, hst.out _, hnx.out _ _⟩
        case measure => simp [intOf]; omega
    by_cases o3 : o = 3
    · subst o3
      obtain ⟨hl0, hl1⟩ := hw.2.2.2.1 (.inl rfl)
      clear hw
      obtain ⟨m, rfl⟩ := Int.eq_ofNat_of_zero_le hl0
      have gl := hcell.out m (by omega)
      have hm2 : (m : Int) < ((r + 1 : Nat) : Int) := by omega
      have he : evN ⟨3, y, (m : Int), rr⟩ row vs = wrap64 (-(vs.getD m 0)) := by simp [evN]
      rw [he] at hst
      clear he
      generalize vs.getD m 0 = z1 at *
      replace hst := hide hst
      as_aux_lemma =>
        go_wp2_with (first | (go_at_call 121; refine (b2i_spec _ _).mono ?_; rintro e wx ⟨rfl, rfl⟩) | (go_at_call 122; refine (apply _ _ _ _).mono ?_; rintro e wx ⟨rfl, rfl⟩))
        go_roundw
        case rel => exact ⟨k + 1, by go_num, by omega, hst.out _, hnx.out _ _⟩
        case measure => simp [intOf]; omega
    by_cases o15 : o = 15
    · subst o15
      obtain ⟨hl0, hl1⟩ := hw.2.2.2.1 (.inr rfl)
      clear hw
      obtain ⟨m, rfl⟩ := Int.eq_ofNat_of_zero_le hl0
      have gl := hcell.out m (by omega)
      have hm2 : (m : Int) < ((r + 1 : Nat) : Int) := by omega
      have he : evN ⟨15, y, (m : Int), rr⟩ row vs = b2n (vs.getD m 0 == 0) := by simp [evN]
      rw [he] at hst
      clear he
      generalize vs.getD m 0 = z1 at *
      replace hst := hide hst
      as_aux_lemma =>
        go_wp2_with (first | (go_at_call 121; refine (b2i_spec _ _).mono ?_; rintro e wx ⟨rfl, rfl⟩) | (go_at_call 122; refine (apply _ _ _ _).mono ?_; rintro e wx ⟨rfl, rfl⟩))
        go_roundw
        case rel => exact ⟨k + 1, by go_num, by omega, hst.out _, hnx.out _ _⟩
        case measure => simp [intOf]; omega
    · obtain ⟨hl0, hl1, hr0, hr1⟩ := hw.2.2.2.2 (by omega)
      clear hw
      obtain ⟨m, rfl⟩ := Int.eq_ofNat_of_zero_le hl0
      have gl := hcell.out m (by omega)
      have hm2 : (m : Int) < ((r + 1 : Nat) : Int) := by omega
      obtain ⟨m2, rfl⟩ := Int.eq_ofNat_of_zero_le hr0
      have gr := hcell.out m2 (by omega)
      have hm3 : (m2 : Int) < ((r + 1 : Nat) : Int) := by omega
      have he : evN ⟨o, y, (m : Int), (m2 : Int)⟩ row vs = applyI o (vs.getD m 0) (vs.getD m2 0) := by simp [evN, o1, o2, o3, o15]
      rw [he] at hst
      clear he
      generalize vs.getD m 0 = z1 at *
      generalize vs.getD m2 0 = z2 at *
      have p1 : (o == 1) = false := by simp [o1]
      have p2 : (o == 2) = false := by simp [o2]
      have p3 : (o == 3) = false := by simp [o3]
      have p15 : (o == 15) = false := by simp [o15]
      clear o1 o2 o3 o15
      replace hst := hide hst
      as_aux_lemma =>
        go_wp2_with (first | (go_at_call 121; refine (b2i_spec _ _).mono ?_; rintro e wx ⟨rfl, rfl⟩) | (go_at_call 122; refine (apply _ _ _ _).mono ?_; rintro e wx ⟨rfl, rfl⟩))
        refine Dr.region_text (by kernel_rfl) ?_
        go_wp2_with (first | (go_at_call 121; refine (b2i_spec _ _).mono ?_; rintro e wx ⟨rfl, rfl⟩) | (go_at_call 122; refine (apply _ _ _ _).mono ?_; rintro e wx ⟨rfl, rfl⟩))
        refine ⟨by rfl, ?_⟩
        go_wp2_with (first | (go_at_call 121; refine (b2i_spec _ _).mono ?_; rintro e wx ⟨rfl, rfl⟩) | (go_at_call 122; refine (apply _ _ _ _).mono ?_; rintro e wx ⟨rfl, rfl⟩))
        go_roundw
        case rel => exact ⟨k + 1, by go_num, by omega, OwnI.drew (hst.out _), (hnx.out _ _).drew⟩
        case measure => simp [intOf]; omega
  · obtain rfl : k = r + 1 := by omega
    have hlt2 : ¬ ((r + 1 : Nat) : Int) ≤ r := by omega
    clear hlt hk
    have hcell := OwnI.cellAt hown.out r (by rw [mixTo_len _ _ _ _ (by rw [hyl.out]; omega), hyl.out]; omega)
    rw [mixTo_root] at hcell
    generalize hz : evAt ns row r = z at *
    replace hz := hide hz
    go_wp2
    go_ret2
    exact ⟨hext2.out, .inl ⟨hok.out, by rw [hz.out]; rfl⟩⟩

theorem EvalRow (ns : List Nd) (row : List Int) (a ar : Option Addr) (c cr : Nat) (r : Int) (w : World) (h : Hid (NodesAt w a ns)) (hr : Hid (IntsAt w ar row)) (l1 : ns.length < 2 ^ 39) (l2 : row.length < 2 ^ 39) :
    Calls Yaan.prog 52 #[.slice a ns.length c, .int .i64 r, .slice ar row.length cr] w (RetEv ns row r w) := by
  by_cases hh : r < 0 ∨ (ns.length : Int) ≤ r
  · exact EvalRow_out ns row a ar c cr r w hh
  · obtain ⟨q, rfl⟩ := Int.eq_ofNat_of_zero_le (show 0 ≤ r by omega)
    exact EvalRow_in ns row a ar c cr q w h hr l1 l2 (by omega)
theorem RefEval (ns : List Nd) (row : List Int) (a ar : Option Addr) (c cr : Nat) (r : Int) (w : World) (h : Hid (NodesAt w a ns)) (hr : Hid (IntsAt w ar row)) (l1 : ns.length < 2 ^ 39) (l2 : row.length < 2 ^ 39) :
    Calls Yaan.prog 51 #[.slice a ns.length c, .int .i64 r, .slice ar row.length cr] w (RetEv ns row r w) := by
  by_cases hh : r < 0 ∨ (ns.length : Int) ≤ r
  · exact RefEval_out ns row a ar c cr r w hh
  · obtain ⟨q, rfl⟩ := Int.eq_ofNat_of_zero_le (show 0 ≤ r by omega)
    exact RefEval_in ns row a ar c cr q w h hr l1 l2 (by omega)
end Go.Proofs.Ybyaaw
