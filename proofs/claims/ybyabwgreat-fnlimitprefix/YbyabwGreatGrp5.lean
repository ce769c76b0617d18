/- Walks: spec.cmpKeys, spec.keyOf -/
import Derived.Test.YbyabwGreatGrp4
namespace Go.Proofs.YbyabwGreat
open Go.RowKit
set_option maxRecDepth 100000
set_option linter.unusedVariables false
set_option linter.unusedSimpArgs false

def RetCmpX (v : Int) (w : World) : Ending → World → Prop := fun en w' => en = .returned (.int .i64 v) ∧ Ext w w'
set_option maxHeartbeats 4000000 in
theorem cmpKeys (x y : List Int) (xa ya : Option Addr) (xc yc n m : Nat) (hn : Hid (x.length = n)) (hm : Hid (y.length = n)) (hnm : m = n) (w : World) (hx : Hid (IntsAt w xa x)) (hy : Hid (IntsAt w ya y)) (hl : n ≤ 65600) :
    Calls Yabn.prog 92 #[.slice xa n xc, .slice ya m yc] w (RetCmpX (cmpL x y) w) := by
  subst hnm
  obtain ⟨V, hV⟩ : ∃ V, Hid (cmpL x y = V) := ⟨_, rfl⟩
  rw [hV.out]
  go_enter Yabn.func92, Yabn.ntmps92
  go_wp2_with fail
  go_loopw [5] (fun i wr => ∃ c : Nat, i = .int .i64 c ∧ c ≤ m ∧ Hid (cmpL (x.drop c) (y.drop c) = V) ∧ Hid (Ext w wr)) (fun i _ => m - (intOf i).toNat)
  case atStart => exact ⟨0, rfl, Nat.zero_le _, hV, Ext.refl w⟩
  obtain ⟨c, rfl, hc, hinv, hX⟩ := hrel
  by_cases hlt : c < m
  · have hlt' : (c : Int) < m := by omega
    have e := hinv.out
    rw [drop_cons_I x c (by rw [hn.out]; exact hlt), drop_cons_I y c (by rw [hm.out]; exact hlt), cmpL_cons] at e
    obtain ⟨b1, off1, rfl, c1⟩ := (hx.out.ext hX.out) c (by rw [hn.out]; exact hlt)
    obtain ⟨b2, off2, rfl, c2⟩ := (hy.out.ext hX.out) c (by rw [hm.out]; exact hlt)
    generalize x.getD c 0 = u at *
    generalize y.getD c 0 = v at *
    by_cases h1 : u < v
    · rw [if_pos h1] at e
      replace e := hide e
      go_wp2_with fail
      refine Dr.region_text (by kernel_rfl) ?_
      go_wp2_with fail
      refine ⟨by rfl, ?_⟩
      go_wp2_with fail
      go_ret
      exact ⟨by rw [← e.out]; rfl, hX.out.drew⟩
    · rw [if_neg h1] at e
      by_cases h2 : v < u
      · rw [if_pos h2] at e
        replace e := hide e
        go_wp2_with fail
        refine Dr.region_text (by kernel_rfl) ?_
        go_wp2_with fail
        refine ⟨by rfl, ?_⟩
        go_wp2_with fail
        refine Dr.region_text (by kernel_rfl) ?_
        go_wp2_with fail
        refine ⟨by rfl, ?_⟩
        go_wp2_with fail
        go_ret
        exact ⟨by rw [← e.out]; rfl, hX.out.drew.drew⟩
      · rw [if_neg h2] at e
        replace e := hide e
        go_wp2_with fail
        refine Dr.region_text (by kernel_rfl) ?_
        go_wp2_with fail
        refine ⟨by rfl, ?_⟩
        go_wp2_with fail
        refine Dr.region_text (by kernel_rfl) ?_
        go_wp2_with fail
        refine ⟨by rfl, ?_⟩
        go_wp2_with fail
        go_roundw
        case rel => exact ⟨c + 1, by go_num, by omega, e.out, hX.out.drew.drew⟩
        case measure => simp [intOf]; omega
  · have hlt' : ¬ (c : Int) < m := by omega
    have e := hinv.out
    rw [List.drop_of_length_le (by rw [hn.out]; omega)] at e
    have e0 : Hid (V = 0) := by show _ = _; rw [← e]; simp [cmpL]
    clear e
    go_wp2
    go_ret
    exact ⟨by rw [e0.out]; rfl, hX.out⟩

/-- The key of one row. -/
def keyR (gr row : List Int) : List Int := gr.map (fun g => row.getD g.toNat 0)
theorem keyR_len (gr row : List Int) : (keyR gr row).length = gr.length := by simp [keyR]
theorem keyR_at (gr row : List Int) (c : Nat) (h : c < gr.length) : (keyR gr row).getD c 0 = row.getD (gr.getD c 0).toNat 0 := by simp [keyR, h]
theorem take_snocI (l : List Int) (k : Nat) (h : k < l.length) : l.take (k + 1) = l.take k ++ [l.getD k 0] := by
  rw [List.take_succ_eq_append_getElem h, List.getD_eq_getElem?_getD, List.getElem?_eq_getElem h]; rfl
set_option maxHeartbeats 4000000 in
theorem keyOf (gr row : List Int) (ra ga : Option Addr) (rc gc n : Nat) (hn : Hid (row.length = n)) (w : World) (hr : Hid (IntsAt w ra row)) (hg : Hid (IntsAt w ga gr)) (hin : Hid (∀ i, i < gr.length → 0 ≤ gr.getD i 0 ∧ gr.getD i 0 < n)) (hl : gr.length ≤ 65600) (hnl : n ≤ 65600) :
    Calls Yabn.prog 91 #[.slice ra n rc, .slice ga gr.length gc] w (RetInts 2 (keyR gr row) w) := by
  obtain ⟨m, hm⟩ : ∃ m, Hid (gr.length = m) := ⟨_, rfl⟩
  have hKl := hide (keyR_len gr row)
  have hKa : Hid (∀ c, c < m → (keyR gr row).getD c 0 = row.getD (gr.getD c 0).toNat 0) := by rw [← hm.out]; exact keyR_at gr row
  rw [hm.out] at hKl hin hl ⊢
  generalize keyR gr row = K at *
  go_enter Yabn.func91, Yabn.ntmps91
  go_wp2_with (at_make; refine mk0_i64 rfl rfl m rfl (by omega) w.heap.size rfl ?_; intro w1 O1 x1 z1; replace O1 := hide O1; replace x1 := hide x1)
  go_loopw [5, 6] (fun v i wr => ∃ c : Nat, i = .int .i64 c ∧ c ≤ m ∧ Hid (OwnI wr w.heap.size 2 v (K.take c)) ∧ Hid (Ext w wr)) (fun _ i _ => m - (intOf i).toNat)
  case atStart => exact ⟨0, rfl, Nat.zero_le _, O1, x1⟩
  clear O1 x1 z1
  obtain ⟨c, rfl, hc, hO, hX⟩ := hrel
  by_cases hlt : c < m
  · have hlt' : (c : Int) < m := by omega
    obtain ⟨b1, off1, rfl, c1⟩ := (hg.out.ext hX.out) c (by rw [hm.out]; exact hlt)
    obtain ⟨i0, i1⟩ := hin.out c hlt
    have hKc := hKa.out c hlt
    generalize gr.getD c 0 = g at *
    obtain ⟨z, rfl⟩ : ∃ z : Nat, g = (z : Int) := ⟨g.toNat, by omega⟩
    rw [Int.toNat_natCast] at hKc
    have hz : z < n := by omega
    obtain ⟨b2, off2, rfl, c2⟩ := (hr.out.ext hX.out) z (by rw [hn.out]; exact hz)
    have hT : Hid (K.take (c + 1) = K.take c ++ [row.getD z 0]) := by show _ = _; rw [take_snocI K c (by rw [hKl.out]; exact hlt), hKc]
    generalize row.getD z 0 = u at *
    have hln : Hid ((K.take c).length < 2 ^ 39) := by show _ < _; rw [List.length_take]; omega
    clear hKc
    generalize K.take c = L at *
    have hX3 : Hid (Ext w (wr.alloc (.cells #[.int .i64 u] 2))) := hX.out.alloc _
    have hG3 := hide (OwnI.alloc hO.out (.cells #[.int .i64 u] 2))
    have hblk := hide (heap_alloc_new wr (.cells #[.int .i64 u] 2))
    go_wp2_with (at_builtin; refine app_i64 rfl rfl w.heap.size hX3.out.size _ L u rfl hG3.out wr.heap.size 1 (by rfl) hblk.out hln.out ?_; intro g7 cap7 w7 O7 hgr7 hor7 hlt7; have hX7 : Hid (Ext w w7) := hX3.out.grown hgr7 (fun q hq => (World.ownsRow.lt hG3.out q hq).1); have hO7 := hide O7; clear O7 hgr7 hor7 hlt7)
    go_roundw
    case rel => exact ⟨c + 1, by go_num, by omega, by rw [hT.out]; exact hO7.out, hX7.out⟩
    case measure => simp [intOf]; omega
  · have hlt' : ¬ (c : Int) < m := by omega
    obtain rfl : c = m := by omega
    have hKt : Hid (K.take c = K) := List.take_of_length_le (by rw [hKl.out]; exact Nat.le_refl _)
    rw [hKt.out] at hO
    obtain ⟨pa, pc, rfl, _⟩ := hO.out.form
    go_wp2
    go_ret
    exact ⟨_, _, rfl, hO.out, hX.out⟩
end Go.Proofs.YbyabwGreat
