/- Walk: impl.evalInto -/
import Derived.Test.YbyabwGreatEval1
import Derived.Test.YbyabwGreatPairs0
import Derived.Test.YbyabwGreatInts1
namespace Go.Proofs.YbyabwGreat
open Go.RowKit
set_option maxRecDepth 100000
set_option linter.unusedVariables false

theorem b2i_impl (b : Bool) (w : World) : Calls Yabn.prog 76 #[.bool b] w (RetIx (b2n b) w) := by
  cases b
  · go_enter Yabn.func76, Yabn.ntmps76
    go_wp2
    go_ret
    exact ⟨rfl, rfl⟩
  · go_enter Yabn.func76, Yabn.ntmps76
    go_wp2
    go_ret
    exact ⟨rfl, rfl⟩


/-- The values' slice at round k. -/
def mixTo (ns : List Nd) (row ys : List Int) (k : Nat) : List Int := evTo ns row k ++ ys.drop k
theorem mixTo_zero (ns : List Nd) (row ys : List Int) : mixTo ns row ys 0 = ys := by simp [mixTo, evTo]
theorem mixTo_len (ns : List Nd) (row ys : List Int) (k : Nat) (h : k ≤ ys.length) : (mixTo ns row ys k).length = ys.length := by simp [mixTo, evTo_len]; omega
theorem mixTo_below (ns : List Nd) (row ys : List Int) (k i : Nat) (h : i < k) : (mixTo ns row ys k).getD i 0 = (evTo ns row k).getD i 0 := by
  have := evTo_len ns row k
  simp only [mixTo, List.getD_eq_getElem?_getD]
  rw [List.getElem?_append_left (by omega)]
theorem mixTo_set (ns : List Nd) (row ys : List Int) (k : Nat) (h : k < ys.length) : (mixTo ns row ys k).set k (evN (ns.getD k nd0) row (evTo ns row k)) = mixTo ns row ys (k + 1) := by
  have hl := evTo_len ns row k
  unfold mixTo
  rw [List.set_append_right _ _ (by omega), hl, Nat.sub_self, List.drop_eq_getElem_cons h, List.set_cons_zero]
  simp only [evTo, List.append_assoc]
  rfl

def RetEvalInto (base : Nat) (e : TypeId) (v : Value) (xs : List Int) (w : World) : Ending → World → Prop := fun en w' => en = .returned (.tuple #[]) ∧ OwnI w' base e v xs ∧ Below base w w'

set_option maxHeartbeats 20000000 in
theorem evalInto (ns : List Nd) (row ys : List Int) (a ar : Option Addr) (c cr g cap u : Nat) (w0 w : World) (h0 : Hid (Ext w0 w)) (hn : Hid (NodesAt w0 a ns)) (hr : Hid (IntsAt w0 ar row))
    (hv : Hid (OwnI w w0.heap.size 2 (.slice (some ⟨g, 0, none⟩) ys.length cap) ys)) (l1 : ns.length < 2 ^ 39) (l2 : row.length < 2 ^ 39) (l3 : ys.length < 2 ^ 39) (hu1 : u < ns.length) (hu2 : u < ys.length)
    (hwf : Hid (∀ i, i ≤ u → wfP (ns.getD i nd0) i row.length)) :
    Calls Yabn.prog 45 #[.slice a ns.length c, .int .i64 u, .slice ar row.length cr, .slice (some ⟨g, 0, none⟩) ys.length cap] w (RetEvalInto w0.heap.size 2 (.slice (some ⟨g, 0, none⟩) ys.length cap) (mixTo ns row ys (u + 1)) w) := by
  go_enter Yabn.func45, Yabn.ntmps45
  go_wp2
  go_loopw [8] (fun i wr => ∃ k : Nat, i = .int .i64 k ∧ k ≤ u + 1 ∧ Hid (OwnI wr w0.heap.size 2 (.slice (some ⟨g, 0, none⟩) ys.length cap) (mixTo ns row ys k)) ∧ Hid (Below w0.heap.size w wr)) (fun i _ => u + 1 - (intOf i).toNat)
  case atStart => exact ⟨0, rfl, by omega, by rw [mixTo_zero]; exact hv, Below.refl _ _⟩
  obtain ⟨k, rfl, hk, hown, hbel⟩ := hrel
  have hext : Hid (Ext w0 wr) := Below.trans h0.out hbel.out
  have hsz := hext.out.size
  have hgl := OwnI.lt hown.out
  by_cases hlt : k ≤ u
  · have hlt' : (k : Int) ≤ u := by omega
    have hkn : (k : Int) < ns.length := by omega
    have hky : (k : Int) < ys.length := by omega
    obtain ⟨b, off, rfl, g1, g2, g3, g4⟩ := (hn.out.ext hext.out).get k (by omega)
    have hw := hwf.out k hlt
    have hset := mixTo_set ns row ys k (by omega)
    have hml := mixTo_len ns row ys k (by omega)
    have hst : ∀ ob, OwnI ((wr.setCell ⟨g, k, none⟩ (.int .i64 (evN (ns.getD k nd0) row (evTo ns row k)))).alloc ob) w0.heap.size 2 (.slice (some ⟨g, 0, none⟩) ys.length cap) (mixTo ns row ys (k + 1)) :=
      fun ob => ((OwnI.stored hown.out hml.symm k (evN (ns.getD k nd0) row (evTo ns row k))).congr hset).alloc ob
    have hnx : Hid (∀ ob v, Below w0.heap.size w ((wr.setCell ⟨g, k, none⟩ v).alloc ob)) := fun ob v => Below.alloc (hbel.out.setCell hgl.1 v) (by simpa using hsz) ob
    have hfz := OwnI.frozenAt hown.out hml.symm k
    have hcell : Hid (∀ i : Nat, i < k → wr.cell? ⟨g, i, none⟩ = some (.int .i64 ((evTo ns row k).getD i 0))) := fun i hi => by
      have := OwnI.cellAt hown.out i (by omega)
      rw [mixTo_below ns row ys k i hi] at this
      exact this
    have hcur := OwnI.cellAt hown.out k (by omega)
    generalize (mixTo ns row ys k).getD k 0 = q at hcur
    have hbl := cell_lt g1
    generalize ns.getD k nd0 = nd at *
    obtain ⟨o, y, l, r⟩ := nd
    generalize evTo ns row k = vs at *
    simp only at g1 g2 g3 g4 hbl
    unfold wfP at hw
    simp only at hw
    clear hset hml
    have hops : o = 1 ∨ o = 2 ∨ o = 3 ∨ o = 15 ∨ o = 4 ∨ o = 5 ∨ o = 6 ∨ o = 7 ∨ o = 8 ∨ o = 9 ∨ o = 10 ∨ o = 11 ∨ o = 12 ∨ o = 13 ∨ o = 14 := by omega
    have hgb := hgl.2
    rcases hops with rfl | rfl | rfl | rfl | rfl | rfl | rfl | rfl | rfl | rfl | rfl | rfl | rfl | rfl | rfl
    · clear hw hcell
      have he : evN ⟨1, y, l, r⟩ row vs = y := by simp [evN]
      rw [he] at hst
      clear he
      replace hst := hide hst
      as_aux_lemma =>
        go_wp2_with (go_at_call 76; refine (b2i_impl _ _).mono ?_; rintro e wx ⟨rfl, rfl⟩)
        go_roundw
        case rel => exact ⟨k + 1, by go_num, by omega, hst.out _, hnx.out _ _⟩
        case measure => simp [intOf]; omega
    · obtain ⟨hl0, hl1⟩ := hw.2.2.1 rfl
      clear hw hcell
      obtain ⟨m, rfl⟩ := Int.eq_ofNat_of_zero_le hl0
      obtain ⟨b2, off2, rfl, gr⟩ := (hr.out.ext hext.out) m (by omega)
      have hb2 := cell_lt gr
      have he : evN ⟨2, (m : Int), l, r⟩ row vs = row.getD m 0 := by simp [evN]
      rw [he] at hst
      clear he
      generalize row.getD m 0 = z1 at *
      replace hst := hide hst
      simp only at hb2
      as_aux_lemma =>
        go_wp2_with (go_at_call 76; refine (b2i_impl _ _).mono ?_; rintro e wx ⟨rfl, rfl⟩)
        go_roundw
        case rel => exact ⟨k + 1, by go_num, by omega, hst.out _, hnx.out _ _⟩
        case measure => simp [intOf]; omega
    · obtain ⟨hl0, hl1⟩ := hw.2.2.2.1 (.inl rfl)
      clear hw
      obtain ⟨m, rfl⟩ := Int.eq_ofNat_of_zero_le hl0
      have gl := hcell.out m (by omega)
      have hm2 : (m : Int) < ys.length := by omega
      have he : evN ⟨3, y, (m : Int), r⟩ row vs = wrap64 (-(vs.getD m 0)) := by simp [evN]
      rw [he] at hst
      clear he
      generalize vs.getD m 0 = z1 at *
      replace hst := hide hst
      as_aux_lemma =>
        go_wp2_with (go_at_call 76; refine (b2i_impl _ _).mono ?_; rintro e wx ⟨rfl, rfl⟩)
        go_roundw
        case rel => exact ⟨k + 1, by go_num, by omega, hst.out _, hnx.out _ _⟩
        case measure => simp [intOf]; omega
    · obtain ⟨hl0, hl1⟩ := hw.2.2.2.1 (.inr rfl)
      clear hw
      obtain ⟨m, rfl⟩ := Int.eq_ofNat_of_zero_le hl0
      have gl := hcell.out m (by omega)
      have hm2 : (m : Int) < ys.length := by omega
      have he : evN ⟨15, y, (m : Int), r⟩ row vs = b2n (vs.getD m 0 == 0) := by simp [evN]
      rw [he] at hst
      clear he
      generalize vs.getD m 0 = z1 at *
      replace hst := hide hst
      as_aux_lemma =>
        go_wp2_with (go_at_call 76; refine (b2i_impl _ _).mono ?_; rintro e wx ⟨rfl, rfl⟩)
        go_roundw
        case rel => exact ⟨k + 1, by go_num, by omega, hst.out _, hnx.out _ _⟩
        case measure => simp [intOf]; omega
    · obtain ⟨hl0, hl1, hr0, hr1⟩ := hw.2.2.2.2 (by omega)
      clear hw
      obtain ⟨m, rfl⟩ := Int.eq_ofNat_of_zero_le hl0
      have gl := hcell.out m (by omega)
      have hm2 : (m : Int) < ys.length := by omega
      obtain ⟨m2, rfl⟩ := Int.eq_ofNat_of_zero_le hr0
      have gr := hcell.out m2 (by omega)
      have hm3 : (m2 : Int) < ys.length := by omega
      have he : evN ⟨4, y, (m : Int), (m2 : Int)⟩ row vs = wrap64 (vs.getD m 0 + vs.getD m2 0) := by simp [evN, applyI]
      rw [he] at hst
      clear he
      generalize vs.getD m 0 = z1 at *
      generalize vs.getD m2 0 = z2 at *
      replace hst := hide hst
      as_aux_lemma =>
        go_wp2_with (go_at_call 76; refine (b2i_impl _ _).mono ?_; rintro e wx ⟨rfl, rfl⟩)
        refine Dr.region_text (by kernel_rfl) ?_
        go_wp2_with (go_at_call 76; refine (b2i_impl _ _).mono ?_; rintro e wx ⟨rfl, rfl⟩)
        refine ⟨by rfl, ?_⟩
        go_wp2_with (go_at_call 76; refine (b2i_impl _ _).mono ?_; rintro e wx ⟨rfl, rfl⟩)
        go_roundw
        case rel => exact ⟨k + 1, by go_num, by omega, OwnI.drew (hst.out _), Below.drew (hnx.out _ _)⟩
        case measure => simp [intOf]; omega
    · obtain ⟨hl0, hl1, hr0, hr1⟩ := hw.2.2.2.2 (by omega)
      clear hw
      obtain ⟨m, rfl⟩ := Int.eq_ofNat_of_zero_le hl0
      have gl := hcell.out m (by omega)
      have hm2 : (m : Int) < ys.length := by omega
      obtain ⟨m2, rfl⟩ := Int.eq_ofNat_of_zero_le hr0
      have gr := hcell.out m2 (by omega)
      have hm3 : (m2 : Int) < ys.length := by omega
      have he : evN ⟨5, y, (m : Int), (m2 : Int)⟩ row vs = wrap64 (vs.getD m 0 - vs.getD m2 0) := by simp [evN, applyI]
      rw [he] at hst
      clear he
      generalize vs.getD m 0 = z1 at *
      generalize vs.getD m2 0 = z2 at *
      replace hst := hide hst
      as_aux_lemma =>
        go_wp2_with (go_at_call 76; refine (b2i_impl _ _).mono ?_; rintro e wx ⟨rfl, rfl⟩)
        refine Dr.region_text (by kernel_rfl) ?_
        go_wp2_with (go_at_call 76; refine (b2i_impl _ _).mono ?_; rintro e wx ⟨rfl, rfl⟩)
        refine ⟨by rfl, ?_⟩
        go_wp2_with (go_at_call 76; refine (b2i_impl _ _).mono ?_; rintro e wx ⟨rfl, rfl⟩)
        go_roundw
        case rel => exact ⟨k + 1, by go_num, by omega, OwnI.drew (hst.out _), Below.drew (hnx.out _ _)⟩
        case measure => simp [intOf]; omega
    · obtain ⟨hl0, hl1, hr0, hr1⟩ := hw.2.2.2.2 (by omega)
      clear hw
      obtain ⟨m, rfl⟩ := Int.eq_ofNat_of_zero_le hl0
      have gl := hcell.out m (by omega)
      have hm2 : (m : Int) < ys.length := by omega
      obtain ⟨m2, rfl⟩ := Int.eq_ofNat_of_zero_le hr0
      have gr := hcell.out m2 (by omega)
      have hm3 : (m2 : Int) < ys.length := by omega
      have he : evN ⟨6, y, (m : Int), (m2 : Int)⟩ row vs = wrap64 (vs.getD m 0 * vs.getD m2 0) := by simp [evN, applyI]
      rw [he] at hst
      clear he
      generalize vs.getD m 0 = z1 at *
      generalize vs.getD m2 0 = z2 at *
      replace hst := hide hst
      as_aux_lemma =>
        go_wp2_with (go_at_call 76; refine (b2i_impl _ _).mono ?_; rintro e wx ⟨rfl, rfl⟩)
        refine Dr.region_text (by kernel_rfl) ?_
        go_wp2_with (go_at_call 76; refine (b2i_impl _ _).mono ?_; rintro e wx ⟨rfl, rfl⟩)
        refine ⟨by rfl, ?_⟩
        go_wp2_with (go_at_call 76; refine (b2i_impl _ _).mono ?_; rintro e wx ⟨rfl, rfl⟩)
        go_roundw
        case rel => exact ⟨k + 1, by go_num, by omega, OwnI.drew (hst.out _), Below.drew (hnx.out _ _)⟩
        case measure => simp [intOf]; omega
    · obtain ⟨hl0, hl1, hr0, hr1⟩ := hw.2.2.2.2 (by omega)
      clear hw
      obtain ⟨m, rfl⟩ := Int.eq_ofNat_of_zero_le hl0
      have gl := hcell.out m (by omega)
      have hm2 : (m : Int) < ys.length := by omega
      obtain ⟨m2, rfl⟩ := Int.eq_ofNat_of_zero_le hr0
      have gr := hcell.out m2 (by omega)
      have hm3 : (m2 : Int) < ys.length := by omega
      have he : evN ⟨7, y, (m : Int), (m2 : Int)⟩ row vs = b2n (vs.getD m 0 == vs.getD m2 0) := by simp [evN, applyI]
      rw [he] at hst
      clear he
      generalize vs.getD m 0 = z1 at *
      generalize vs.getD m2 0 = z2 at *
      replace hst := hide hst
      as_aux_lemma =>
        go_wp2_with (go_at_call 76; refine (b2i_impl _ _).mono ?_; rintro e wx ⟨rfl, rfl⟩)
        refine Dr.region_text (by kernel_rfl) ?_
        go_wp2_with (go_at_call 76; refine (b2i_impl _ _).mono ?_; rintro e wx ⟨rfl, rfl⟩)
        refine ⟨by rfl, ?_⟩
        go_wp2_with (go_at_call 76; refine (b2i_impl _ _).mono ?_; rintro e wx ⟨rfl, rfl⟩)
        go_roundw
        case rel => exact ⟨k + 1, by go_num, by omega, OwnI.drew (hst.out _), Below.drew (hnx.out _ _)⟩
        case measure => simp [intOf]; omega
    · obtain ⟨hl0, hl1, hr0, hr1⟩ := hw.2.2.2.2 (by omega)
      clear hw
      obtain ⟨m, rfl⟩ := Int.eq_ofNat_of_zero_le hl0
      have gl := hcell.out m (by omega)
      have hm2 : (m : Int) < ys.length := by omega
      obtain ⟨m2, rfl⟩ := Int.eq_ofNat_of_zero_le hr0
      have gr := hcell.out m2 (by omega)
      have hm3 : (m2 : Int) < ys.length := by omega
      have he : evN ⟨8, y, (m : Int), (m2 : Int)⟩ row vs = b2n (vs.getD m 0 != vs.getD m2 0) := by simp [evN, applyI]
      rw [he] at hst
      clear he
      generalize vs.getD m 0 = z1 at *
      generalize vs.getD m2 0 = z2 at *
      replace hst := hide hst
      as_aux_lemma =>
        go_wp2_with (go_at_call 76; refine (b2i_impl _ _).mono ?_; rintro e wx ⟨rfl, rfl⟩)
        refine Dr.region_text (by kernel_rfl) ?_
        go_wp2_with (go_at_call 76; refine (b2i_impl _ _).mono ?_; rintro e wx ⟨rfl, rfl⟩)
        refine ⟨by rfl, ?_⟩
        go_wp2_with (go_at_call 76; refine (b2i_impl _ _).mono ?_; rintro e wx ⟨rfl, rfl⟩)
        go_roundw
        case rel => exact ⟨k + 1, by go_num, by omega, OwnI.drew (hst.out _), Below.drew (hnx.out _ _)⟩
        case measure => simp [intOf]; omega
    · obtain ⟨hl0, hl1, hr0, hr1⟩ := hw.2.2.2.2 (by omega)
      clear hw
      obtain ⟨m, rfl⟩ := Int.eq_ofNat_of_zero_le hl0
      have gl := hcell.out m (by omega)
      have hm2 : (m : Int) < ys.length := by omega
      obtain ⟨m2, rfl⟩ := Int.eq_ofNat_of_zero_le hr0
      have gr := hcell.out m2 (by omega)
      have hm3 : (m2 : Int) < ys.length := by omega
      have he : evN ⟨9, y, (m : Int), (m2 : Int)⟩ row vs = b2n (decide (vs.getD m 0 < vs.getD m2 0)) := by simp [evN, applyI]
      rw [he] at hst
      clear he
      generalize vs.getD m 0 = z1 at *
      generalize vs.getD m2 0 = z2 at *
      replace hst := hide hst
      as_aux_lemma =>
        go_wp2_with (go_at_call 76; refine (b2i_impl _ _).mono ?_; rintro e wx ⟨rfl, rfl⟩)
        refine Dr.region_text (by kernel_rfl) ?_
        go_wp2_with (go_at_call 76; refine (b2i_impl _ _).mono ?_; rintro e wx ⟨rfl, rfl⟩)
        refine ⟨by rfl, ?_⟩
        go_wp2_with (go_at_call 76; refine (b2i_impl _ _).mono ?_; rintro e wx ⟨rfl, rfl⟩)
        go_roundw
        case rel => exact ⟨k + 1, by go_num, by omega, OwnI.drew (hst.out _), Below.drew (hnx.out _ _)⟩
        case measure => simp [intOf]; omega
    · obtain ⟨hl0, hl1, hr0, hr1⟩ := hw.2.2.2.2 (by omega)
      clear hw
      obtain ⟨m, rfl⟩ := Int.eq_ofNat_of_zero_le hl0
      have gl := hcell.out m (by omega)
      have hm2 : (m : Int) < ys.length := by omega
      obtain ⟨m2, rfl⟩ := Int.eq_ofNat_of_zero_le hr0
      have gr := hcell.out m2 (by omega)
      have hm3 : (m2 : Int) < ys.length := by omega
      have he : evN ⟨10, y, (m : Int), (m2 : Int)⟩ row vs = b2n (decide (vs.getD m 0 ≤ vs.getD m2 0)) := by simp [evN, applyI]
      rw [he] at hst
      clear he
      generalize vs.getD m 0 = z1 at *
      generalize vs.getD m2 0 = z2 at *
      replace hst := hide hst
      as_aux_lemma =>
        go_wp2_with (go_at_call 76; refine (b2i_impl _ _).mono ?_; rintro e wx ⟨rfl, rfl⟩)
        refine Dr.region_text (by kernel_rfl) ?_
        go_wp2_with (go_at_call 76; refine (b2i_impl _ _).mono ?_; rintro e wx ⟨rfl, rfl⟩)
        refine ⟨by rfl, ?_⟩
        go_wp2_with (go_at_call 76; refine (b2i_impl _ _).mono ?_; rintro e wx ⟨rfl, rfl⟩)
        go_roundw
        case rel => exact ⟨k + 1, by go_num, by omega, OwnI.drew (hst.out _), Below.drew (hnx.out _ _)⟩
        case measure => simp [intOf]; omega
    · obtain ⟨hl0, hl1, hr0, hr1⟩ := hw.2.2.2.2 (by omega)
      clear hw
      obtain ⟨m, rfl⟩ := Int.eq_ofNat_of_zero_le hl0
      have gl := hcell.out m (by omega)
      have hm2 : (m : Int) < ys.length := by omega
      obtain ⟨m2, rfl⟩ := Int.eq_ofNat_of_zero_le hr0
      have gr := hcell.out m2 (by omega)
      have hm3 : (m2 : Int) < ys.length := by omega
      have he : evN ⟨11, y, (m : Int), (m2 : Int)⟩ row vs = b2n (decide (vs.getD m2 0 < vs.getD m 0)) := by simp [evN, applyI]
      rw [he] at hst
      clear he
      generalize vs.getD m 0 = z1 at *
      generalize vs.getD m2 0 = z2 at *
      replace hst := hide hst
      as_aux_lemma =>
        go_wp2_with (go_at_call 76; refine (b2i_impl _ _).mono ?_; rintro e wx ⟨rfl, rfl⟩)
        refine Dr.region_text (by kernel_rfl) ?_
        go_wp2_with (go_at_call 76; refine (b2i_impl _ _).mono ?_; rintro e wx ⟨rfl, rfl⟩)
        refine ⟨by rfl, ?_⟩
        go_wp2_with (go_at_call 76; refine (b2i_impl _ _).mono ?_; rintro e wx ⟨rfl, rfl⟩)
        go_roundw
        case rel => exact ⟨k + 1, by go_num, by omega, OwnI.drew (hst.out _), Below.drew (hnx.out _ _)⟩
        case measure => simp [intOf]; omega
    · obtain ⟨hl0, hl1, hr0, hr1⟩ := hw.2.2.2.2 (by omega)
      clear hw
      obtain ⟨m, rfl⟩ := Int.eq_ofNat_of_zero_le hl0
      have gl := hcell.out m (by omega)
      have hm2 : (m : Int) < ys.length := by omega
      obtain ⟨m2, rfl⟩ := Int.eq_ofNat_of_zero_le hr0
      have gr := hcell.out m2 (by omega)
      have hm3 : (m2 : Int) < ys.length := by omega
      have he : evN ⟨12, y, (m : Int), (m2 : Int)⟩ row vs = b2n (decide (vs.getD m2 0 ≤ vs.getD m 0)) := by simp [evN, applyI]
      rw [he] at hst
      clear he
      generalize vs.getD m 0 = z1 at *
      generalize vs.getD m2 0 = z2 at *
      replace hst := hide hst
      as_aux_lemma =>
        go_wp2_with (go_at_call 76; refine (b2i_impl _ _).mono ?_; rintro e wx ⟨rfl, rfl⟩)
        refine Dr.region_text (by kernel_rfl) ?_
        go_wp2_with (go_at_call 76; refine (b2i_impl _ _).mono ?_; rintro e wx ⟨rfl, rfl⟩)
        refine ⟨by rfl, ?_⟩
        go_wp2_with (go_at_call 76; refine (b2i_impl _ _).mono ?_; rintro e wx ⟨rfl, rfl⟩)
        go_roundw
        case rel => exact ⟨k + 1, by go_num, by omega, OwnI.drew (hst.out _), Below.drew (hnx.out _ _)⟩
        case measure => simp [intOf]; omega
    · obtain ⟨hl0, hl1, hr0, hr1⟩ := hw.2.2.2.2 (by omega)
      clear hw
      obtain ⟨m, rfl⟩ := Int.eq_ofNat_of_zero_le hl0
      have gl := hcell.out m (by omega)
      have hm2 : (m : Int) < ys.length := by omega
      obtain ⟨m2, rfl⟩ := Int.eq_ofNat_of_zero_le hr0
      have gr := hcell.out m2 (by omega)
      have hm3 : (m2 : Int) < ys.length := by omega
      have he : evN ⟨13, y, (m : Int), (m2 : Int)⟩ row vs = b2n (vs.getD m 0 != 0 && vs.getD m2 0 != 0) := by simp [evN, applyI]
      rw [he] at hst
      clear he
      generalize vs.getD m 0 = z1 at *
      generalize vs.getD m2 0 = z2 at *
      have hb : (z1 != 0) = true ∨ (z1 != 0) = false := by cases (z1 != 0) <;> simp
      rcases hb with hb | hb
      · rw [hb] at hst
        simp only [Bool.true_and] at hst
        replace hst := hide hst
        as_aux_lemma =>
          go_wp2_with (go_at_call 76; refine (b2i_impl _ _).mono ?_; rintro e wx ⟨rfl, rfl⟩)
          go_roundw
          case rel => exact ⟨k + 1, by go_num, by omega, hst.out _, hnx.out _ _⟩
          case measure => simp [intOf]; omega
      · rw [hb] at hst
        simp only [Bool.false_and] at hst
        replace hst := hide hst
        as_aux_lemma =>
          go_wp2_with (go_at_call 76; refine (b2i_impl _ _).mono ?_; rintro e wx ⟨rfl, rfl⟩)
          go_roundw
          case rel => exact ⟨k + 1, by go_num, by omega, hst.out _, hnx.out _ _⟩
          case measure => simp [intOf]; omega
    · obtain ⟨hl0, hl1, hr0, hr1⟩ := hw.2.2.2.2 (by omega)
      clear hw
      obtain ⟨m, rfl⟩ := Int.eq_ofNat_of_zero_le hl0
      have gl := hcell.out m (by omega)
      have hm2 : (m : Int) < ys.length := by omega
      obtain ⟨m2, rfl⟩ := Int.eq_ofNat_of_zero_le hr0
      have gr := hcell.out m2 (by omega)
      have hm3 : (m2 : Int) < ys.length := by omega
      have he : evN ⟨14, y, (m : Int), (m2 : Int)⟩ row vs = b2n (vs.getD m 0 != 0 || vs.getD m2 0 != 0) := by simp [evN, applyI]
      rw [he] at hst
      clear he
      generalize vs.getD m 0 = z1 at *
      generalize vs.getD m2 0 = z2 at *
      have hb : (z1 != 0) = true ∨ (z1 != 0) = false := by cases (z1 != 0) <;> simp
      rcases hb with hb | hb
      · rw [hb] at hst
        simp only [Bool.true_or] at hst
        replace hst := hide hst
        as_aux_lemma =>
          go_wp2_with (go_at_call 76; refine (b2i_impl _ _).mono ?_; rintro e wx ⟨rfl, rfl⟩)
          go_roundw
          case rel => exact ⟨k + 1, by go_num, by omega, hst.out _, hnx.out _ _⟩
          case measure => simp [intOf]; omega
      · rw [hb] at hst
        simp only [Bool.false_or] at hst
        replace hst := hide hst
        as_aux_lemma =>
          go_wp2_with (go_at_call 76; refine (b2i_impl _ _).mono ?_; rintro e wx ⟨rfl, rfl⟩)
          go_roundw
          case rel => exact ⟨k + 1, by go_num, by omega, hst.out _, hnx.out _ _⟩
          case measure => simp [intOf]; omega
  · obtain rfl : k = u + 1 := by omega
    have hlt' : ¬ ((u + 1 : Nat) : Int) ≤ u := by omega
    clear hlt hk
    go_wp2
    go_end0
    exact ⟨rfl, hown.out, hbel.out⟩
end Go.Proofs.YbyabwGreat
