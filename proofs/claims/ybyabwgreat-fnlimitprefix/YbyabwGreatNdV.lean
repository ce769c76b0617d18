/- Walk: spec.nodeValues -/
import Derived.Test.YbyabwGreatEval2h
import Derived.Test.YbyabwGreatCmpT
namespace Go.Proofs.YbyabwGreat
open Go.RowKit
set_option maxRecDepth 100000
set_option linter.unusedVariables false
set_option linter.unusedSimpArgs false

set_option maxHeartbeats 8000000 in
theorem nodeValues (ns : List Nd) (row : List Int) (a ar : Option Addr) (c cr rl : Nat) (w : World) (h : Hid (NodesAt w a ns)) (hr : Hid (IntsAt w ar row)) (l1 : ns.length < 2 ^ 39) (hrl : row.length = rl) (l2 : rl < 2 ^ 39) (hwf : Hid (WfA ns rl)) :
    Calls Yabn.prog 63 #[.slice a ns.length c, .slice ar rl cr] w (RetInts 2 (evTo ns row ns.length) w) := by
  subst hrl
  go_enter Yabn.func63, Yabn.ntmps63
  go_wp2_with (at_make; refine mk_i64 rfl rfl ns.length (by go_num) (by go_num) (by omega) w.heap.size rfl ?_; intro w1 hown hx1 hsz; replace hown := hide hown; replace hx1 := hide hx1)
  obtain ⟨ys, hys⟩ : ∃ ys, ys = List.replicate ns.length (0 : Int) := ⟨_, rfl⟩
  have hyl : ys.length = ns.length := by rw [hys]; simp
  rw [← hys] at hown
  clear hys
  replace hyl := hide hyl
  go_loopw [6] (fun i wr => ∃ k : Nat, i = .int .i64 k ∧ k ≤ ns.length ∧ Hid (OwnI wr w.heap.size 2 (.slice (some ⟨w.heap.size, 0, none⟩) ns.length ns.length) (mixTo ns row ys k)) ∧ Hid (Ext w wr)) (fun i _ => ns.length - (intOf i).toNat)
  case atStart => exact ⟨0, rfl, by omega, by rw [mixTo_zero]; exact hown, hx1⟩
  clear hown hx1 hsz
  obtain ⟨k, rfl, hk, hown, hxW⟩ := hrel
  have hext2 : Hid (Ext w wr) := hxW
  have hsz := hxW.out.size
  by_cases hlt : k < ns.length
  · have hkn : (k : Int) < ns.length := by omega
    obtain ⟨b, off, rfl, g1, g2, g3, g4⟩ := (h.out.ext hext2.out).get k (by omega)
    have hw := hwf.out k hlt
    have hset := mixTo_set ns row ys k (by rw [hyl.out]; omega)
    have hml := mixTo_len ns row ys k (by rw [hyl.out]; omega)
    rw [hyl.out] at hml
    have hgl := OwnI.lt hown.out
    have hst : ∀ ob, OwnI ((wr.setCell ⟨w.heap.size, k, none⟩ (.int .i64 (evN (ns.getD k nd0) row (evTo ns row k)))).alloc ob) w.heap.size 2 (.slice (some ⟨w.heap.size, 0, none⟩) ns.length ns.length) (mixTo ns row ys (k + 1)) :=
      fun ob => ((OwnI.stored hown.out hml.symm k (evN (ns.getD k nd0) row (evTo ns row k))).congr hset).alloc ob
    have hnx : Hid (∀ ob v, Ext w ((wr.setCell ⟨w.heap.size, k, none⟩ v).alloc ob)) := fun ob v => (hxW.out.setCell (Nat.le_refl _) v).alloc ob
    have hfz := OwnI.frozenAt hown.out hml.symm k
    have hcell : Hid (∀ i : Nat, i < k → wr.cell? ⟨w.heap.size, i, none⟩ = some (.int .i64 ((evTo ns row k).getD i 0))) := fun i hi => by
      have := OwnI.cellAt hown.out i (by omega)
      rw [mixTo_below ns row ys k i hi] at this
      exact this
    have hcur := OwnI.cellAt hown.out k (by omega)
    generalize (mixTo ns row ys k).getD k 0 = q at hcur
    have hbl := cell_lt g1
    generalize ns.getD k nd0 = nd at *
    obtain ⟨o, y, l, rr⟩ := nd
    generalize evTo ns row k = vs at *
    simp only at g1 g2 g3 g4 hbl
    unfold wfP at hw
    simp only at hw
    clear hset hml
    have hgb := hgl.2
    by_cases o1 : o = 1
    · subst o1
      clear hw hcell
      have he : evN ⟨1, y, l, rr⟩ row vs = y := by simp [evN]
      rw [he] at hst
      clear he
      replace hst := hide hst
      as_aux_lemma =>
        go_wp2_with (first | (go_at_call 89; refine (b2i_spec _ _).mono ?_; rintro e wx ⟨rfl, rfl⟩) | (go_at_call 90; refine (apply _ _ _ _).mono ?_; rintro e wx ⟨rfl, rfl⟩))
        go_roundw
        case rel => exact ⟨k + 1, by go_num, by omega, hst.out _, hnx.out _ _⟩
        case measure => simp [intOf]; omega
    by_cases o2 : o = 2
    · subst o2
      obtain ⟨hl0, hl1⟩ := hw.2.2.1 rfl
      clear hw hcell
      obtain ⟨m, rfl⟩ := Int.eq_ofNat_of_zero_le hl0
      obtain ⟨b2, off2, rfl, gr⟩ := (hr.out.ext hext2.out) m (by omega)
      have hb2 := cell_lt gr
      have he : evN ⟨2, (m : Int), l, rr⟩ row vs = row.getD m 0 := by simp [evN]
      rw [he] at hst
      clear he
      generalize row.getD m 0 = z1 at *
      replace hst := hide hst
      simp only at hb2
      as_aux_lemma =>
        go_wp2_with (first | (go_at_call 89; refine (b2i_spec _ _).mono ?_; rintro e wx ⟨rfl, rfl⟩) | (go_at_call 90; refine (apply _ _ _ _).mono ?_; rintro e wx ⟨rfl, rfl⟩))
        go_roundw
        case rel => exact ⟨k + 1, by go_num, by omega, hst.out _, hnx.out _ _⟩
        case measure => simp [intOf]; omega
    by_cases o3 : o = 3
    · subst o3
      obtain ⟨hl0, hl1⟩ := hw.2.2.2.1 (.inl rfl)
      clear hw
      obtain ⟨m, rfl⟩ := Int.eq_ofNat_of_zero_le hl0
      have gl := hcell.out m (by omega)
      have hm2 : (m : Int) < (ns.length : Int) := by omega
      have he : evN ⟨3, y, (m : Int), rr⟩ row vs = wrap64 (-(vs.getD m 0)) := by simp [evN]
      rw [he] at hst
      clear he
      generalize vs.getD m 0 = z1 at *
      replace hst := hide hst
      as_aux_lemma =>
        go_wp2_with (first | (go_at_call 89; refine (b2i_spec _ _).mono ?_; rintro e wx ⟨rfl, rfl⟩) | (go_at_call 90; refine (apply _ _ _ _).mono ?_; rintro e wx ⟨rfl, rfl⟩))
        go_roundw
        case rel => exact ⟨k + 1, by go_num, by omega, hst.out _, hnx.out _ _⟩
        case measure => simp [intOf]; omega
    by_cases o15 : o = 15
    · subst o15
      obtain ⟨hl0, hl1⟩ := hw.2.2.2.1 (.inr rfl)
      clear hw
      obtain ⟨m, rfl⟩ := Int.eq_ofNat_of_zero_le hl0
      have gl := hcell.out m (by omega)
      have hm2 : (m : Int) < (ns.length : Int) := by omega
      have he : evN ⟨15, y, (m : Int), rr⟩ row vs = b2n (vs.getD m 0 == 0) := by simp [evN]
      rw [he] at hst
      clear he
      generalize vs.getD m 0 = z1 at *
      replace hst := hide hst
      as_aux_lemma =>
        go_wp2_with (first | (go_at_call 89; refine (b2i_spec _ _).mono ?_; rintro e wx ⟨rfl, rfl⟩) | (go_at_call 90; refine (apply _ _ _ _).mono ?_; rintro e wx ⟨rfl, rfl⟩))
        go_roundw
        case rel => exact ⟨k + 1, by go_num, by omega, hst.out _, hnx.out _ _⟩
        case measure => simp [intOf]; omega
    · obtain ⟨hl0, hl1, hr0, hr1⟩ := hw.2.2.2.2 (by omega)
      clear hw
      obtain ⟨m, rfl⟩ := Int.eq_ofNat_of_zero_le hl0
      have gl := hcell.out m (by omega)
      have hm2 : (m : Int) < (ns.length : Int) := by omega
      obtain ⟨m2, rfl⟩ := Int.eq_ofNat_of_zero_le hr0
      have gr := hcell.out m2 (by omega)
      have hm3 : (m2 : Int) < (ns.length : Int) := by omega
      have he : evN ⟨o, y, (m : Int), (m2 : Int)⟩ row vs = applyI o (vs.getD m 0) (vs.getD m2 0) := by simp [evN, o1, o2, o3, o15]
      rw [he] at hst
      clear he
      generalize vs.getD m 0 = z1 at *
      generalize vs.getD m2 0 = z2 at *
      have p1 : (o == 1) = false := by simp [o1]
      have p2 : (o == 2) = false := by simp [o2]
      have p3 : (o == 3) = false := by simp [o3]
      have p15 : (o == 15) = false := by simp [o15]
      clear o1 o2 o3 o15
      replace hst := hide hst
      as_aux_lemma =>
        go_wp2_with (first | (go_at_call 89; refine (b2i_spec _ _).mono ?_; rintro e wx ⟨rfl, rfl⟩) | (go_at_call 90; refine (apply _ _ _ _).mono ?_; rintro e wx ⟨rfl, rfl⟩))
        refine Dr.region_text (by kernel_rfl) ?_
        go_wp2_with (first | (go_at_call 89; refine (b2i_spec _ _).mono ?_; rintro e wx ⟨rfl, rfl⟩) | (go_at_call 90; refine (apply _ _ _ _).mono ?_; rintro e wx ⟨rfl, rfl⟩))
        refine ⟨by rfl, ?_⟩
        go_wp2_with (first | (go_at_call 89; refine (b2i_spec _ _).mono ?_; rintro e wx ⟨rfl, rfl⟩) | (go_at_call 90; refine (apply _ _ _ _).mono ?_; rintro e wx ⟨rfl, rfl⟩))
        go_roundw
        case rel => exact ⟨k + 1, by go_num, by omega, OwnI.drew (hst.out _), (hnx.out _ _).drew⟩
        case measure => simp [intOf]; omega
  · obtain rfl : k = ns.length := by omega
    have hlt2 : ¬ (ns.length : Int) < ns.length := by omega
    clear hlt hk
    have hO2 := hide (hown.out.congr (mixTo_all ns row ys hyl.out))
    have hel := evTo_len ns row ns.length
    go_wp2
    go_ret
    exact ⟨some ⟨w.heap.size, 0, none⟩, ns.length, by rw [hel]; rfl, by rw [hel]; exact hO2.out, hxW.out⟩
end Go.Proofs.YbyabwGreat
