/- Walk: laws.FnDecodeColumn -/
import Derived.Test.YbyaawTab1
import Derived.Test.YbyaawHeld
import Derived.Test.YbyaawOwnP
namespace Go.Proofs.Ybyaaw
open Go.RowKit
set_option maxRecDepth 100000
set_option linter.unusedVariables false

theorem info_run : (Yaan.prog.info? 63).map (fun i => (i.zero, i.size, i.bytes)) = some (some (.agg #[.int .i64 0, .int .i64 0]), 2, 16) := by kernel_rfl

section
variable {ops : Array Oper} {rest : List Oper} {o : Oper} {a : Act} {Q : Exit → Act → World → Prop} {w : World}
theorem app_run (hg : o.guard = none) {s x : Operand} (ho : o.op = .call { callee := .builtin .append, args := #[s, x], argTypes := #[49, 49] })
    (base : Nat) (hE : base ≤ w.heap.size) (v : Value) (xs : List (Int × Int)) (y1 y2 : Int) (hs : a.eval s = v) (hown : OwnP w base 63 v xs)
    (B c : Nat) (hx : a.eval x = .slice (some ⟨B, 0, none⟩) 1 c) (hblk : w.heap[B]? = some (.cells #[.int .i64 y1, .int .i64 y2] 63 (0, 0))) (hb : xs.length < 2 ^ 39)
    (h : ∀ g cap w', OwnP w' base 63 (.slice (some ⟨g, 0, none⟩) (xs.length + 1) cap) (xs ++ [(y1, y2)]) → w.grownBy w' v.ownBlock → (v.ownBlock = some g ∨ g = w.heap.size) → g < w'.heap.size →
      wpList Yaan.prog ops Q rest (a.put o.dst (.slice (some ⟨g, 0, none⟩) (xs.length + 1) cap)) w') : wpList Yaan.prog ops Q (o :: rest) a w := by
  obtain ⟨i, h2, h3, h4, h5⟩ := info_parts info_run
  exact wpList_appP hg ho 63 Yaan.underlying49 h2 h3 h4 h5 base hE v xs y1 y2 hs hown B c hx hblk hb h
end

def True1 (w : World) : Ending → World → Prop := fun e w' => e = .returned (.bool true) ∧ Ext w w'

theorem zip_take_succ (xs ys : List Int) (k : Nat) (hx : k < xs.length) (hy : k < ys.length) : ((xs.zip ys).take k) ++ [(xs.getD k 0, ys.getD k 0)] = (xs.zip ys).take (k + 1) := by
  have hz : k < (xs.zip ys).length := by simp; omega
  rw [List.take_succ_eq_append_getElem hz]
  simp [List.getElem?_eq_getElem hx, List.getElem?_eq_getElem hy]


set_option maxHeartbeats 2000000 in
theorem fnDecodeColumn_big (a0 : Int) (pl di co rv rc : List Int) (a1 a2 a3 a4 a5 : Option Addr) (c1 c2 c3 c4 c5 : Nat) (a6 : Int) (w : World) (b0 : -128 ≤ a0 ∧ a0 ≤ 127) (b6 : -2147483648 ≤ a6 ∧ a6 ≤ 2147483647) (hbig : 1048576 < (pl.length : Int) ∨ 1048576 < (di.length : Int) ∨ 1048576 < (co.length : Int) ∨ 1048576 < (rv.length : Int) ∨ 1048576 < (rc.length : Int)) : Calls Yaan.prog 7 #[.int .i8 a0, .slice a1 pl.length c1, .slice a2 di.length c2, .slice a3 co.length c3, .slice a4 rv.length c4, .slice a5 rc.length c5, .int .i32 a6] w (True1 w) := by
  go_enter Yaan.func7, Yaan.ntmps7
  go_wp2_with fail
  all_goals (go_ret; exact ⟨rfl, Ext.refl w⟩)

set_option maxHeartbeats 1000000 in
theorem fnDecodeColumn_a (a0 : Int) (pl di co rv rc : List Int) (a1 a2 a3 a4 a5 : Option Addr) (c1 c2 c3 c4 c5 : Nat) (a6 : Int) (w : World) (b0 : -128 ≤ a0 ∧ a0 ≤ 127) (b6 : -2147483648 ≤ a6 ∧ a6 ≤ 2147483647) (h1 : Hid (IntsAt w a1 pl)) (h2 : Hid (IntsAt w a2 di)) (h3 : Hid (IntsAt w a3 co)) (h4 : Hid (IntsAt w a4 rv)) (h5 : Hid (IntsAt w a5 rc)) (hl1 : ¬ 1048576 < (pl.length : Int)) (hl2 : ¬ 1048576 < (di.length : Int)) (hl3 : ¬ 1048576 < (co.length : Int)) (hl4 : ¬ 1048576 < (rv.length : Int)) (hl5 : ¬ 1048576 < (rc.length : Int)) (hM : (rc.length : Int) < rv.length) : Calls Yaan.prog 7 #[.int .i8 a0, .slice a1 pl.length c1, .slice a2 di.length c2, .slice a3 co.length c3, .slice a4 rv.length c4, .slice a5 rc.length c5, .int .i32 a6] w (True1 w) := by
  obtain ⟨b0a, b0b⟩ := b0
  obtain ⟨b6a, b6b⟩ := b6
  go_enter Yaan.func7, Yaan.ntmps7
  go_wp2
  go_loopw [16, 17] (fun v i wr => ∃ k : Nat, i = .int .i64 k ∧ k ≤ rc.length ∧ Hid (OwnP wr w.heap.size 63 v ((rv.zip rc).take k)) ∧ Hid (Ext w wr)) (fun _ i _ => rc.length - (intOf i).toNat)
  case atStart => exact ⟨0, rfl, by omega, OwnP.nil _ _ _, Ext.refl w⟩
  obtain ⟨k, rfl, hk, hown, hext⟩ := hrel
  by_cases hlt : k < rc.length
  · have hlt' : (k : Int) < rc.length := by omega
    have hx1 : (k : Int) < rv.length := by omega
    have hx2 : (k : Int) < rc.length := by omega
    obtain ⟨bv, ov, rfl, g1⟩ := (h4.out.ext hext.out) k (by omega)
    obtain ⟨bc, oc, rfl, g2⟩ := (h5.out.ext hext.out) k (by omega)
    have hz := zip_take_succ rv rc k (by omega) (by omega)
    have hln : ((rv.zip rc).take k).length < 2 ^ 39 := by simp; omega
    have hb1 := cell_lt g1
    have hb2 := cell_lt g2
    simp only at hb1 hb2
    generalize rv.getD k 0 = x at *
    generalize rc.getD k 0 = y at *
    generalize (rv.zip rc).take k = ps at *
    replace hz := hide hz
    replace hln := hide hln
    have hsz := hext.out.size
    go_wp2
    refine Dr.region_text (by kernel_rfl) ?_
    go_wp2_with (at_builtin; refine app_run rfl rfl w.heap.size (by simp; omega) _ ps x y rfl ((OwnP.drew hown.out).alloc _) wr.heap.size 1 (by rfl) (heap_alloc_new wr.drew _) hln.out ?_; intro g cap w2 hown2 hgr hor hlt2; replace hgr := hide hgr; replace hown2 := hide hown2; replace hor := hide hor)
    refine ⟨by rfl, ?_⟩
    go_wp2
    go_roundw
    case rel =>
      refine ⟨k + 1, by go_num, by omega, hown2.out.congr hz.out, (hext.out.drew.alloc _).grown hgr.out ?_⟩
      intro q hq; exact hown.out.block q hq
    case measure => simp [intOf]; omega
  have hrl : ((rv.zip rc).take k).length = k := by simp; omega
  generalize (rv.zip rc).take k = ru at hown hrl
  obtain ⟨ar, cr, rfl, _⟩ := hown.out.form
  have hru : PairsAt wr ar ru := OwnP.pairs hown.out
  have hlr : ru.length < 2 ^ 40 := by omega
  have hcol : Hid (ColAt wr ⟨a0, pl, di, co, ru⟩ a1 a2 a3 ar) := ⟨h1.out.ext hext.out, h2.out.ext hext.out, h3.out.ext hext.out, hru⟩
  clear hown hrl hru
  have hk1 : (rc.length : Int) ≤ k := by omega
  clear hlt hk
  have l2 : di.length < 2 ^ 40 := by omega
  have l3 : co.length < 2 ^ 40 := by omega
  have hnew : Hid (Box (wr.alloc (.cells #[.int .i64 a0, .slice a1 pl.length c1, .slice a2 di.length c2, .slice a3 co.length c3, .slice ar ru.length cr] 51)) wr.heap.size _) := Box.new wr _ _
  have hw0 : Hid (Ext w (wr.alloc (.cells #[.int .i64 a0, .slice a1 pl.length c1, .slice a2 di.length c2, .slice a3 co.length c3, .slice ar ru.length cr] 51))) := hext.out.alloc _
  have hcol0 : Hid (ColAt (wr.alloc (.cells #[.int .i64 a0, .slice a1 pl.length c1, .slice a2 di.length c2, .slice a3 co.length c3, .slice ar ru.length cr] 51)) ⟨a0, pl, di, co, ru⟩ a1 a2 a3 ar) := hcol.out.ext ((Ext.refl wr).alloc _)
  by_cases hV : Valid ⟨a0, pl, di, co, ru⟩ a6
  · have hdl := dec_len _ _ hV
    have hn1 := hV.2.1
    generalize hxs : dec ⟨a0, pl, di, co, ru⟩ = xs at hdl
    have hxl : xs.length < 2 ^ 40 := by omega
    replace hV := hide hV
    replace hxs := hide hxs
    replace hdl := hide hdl
    go_wp2_with (first
      | (go_at_call 32; refine (DecodeColumn_yes a0 pl di co ru a1 a2 a3 ar c1 c2 c3 cr a6 _ hcol0 l2 l3 hlr hV).mono ?_; rw [hxs.out]; rintro e w1 ⟨p1, q1, rfl, ho1, hx1⟩; have hb1 := hide (hnew.out.ext hx1); have f0 := hb1.out 0 _ rfl; have f1 := hb1.out 1 _ rfl; have f2 := hb1.out 2 _ rfl; have f3 := hb1.out 3 _ rfl; have f4 := hb1.out 4 _ rfl; replace ho1 := hide ho1; replace hx1 := hide hx1)
      | (go_at_call 35; refine (RefDecodeColumn_yes a0 a6 pl di co ru a1 a2 a3 ar c1 c2 c3 cr _ (hcol0.out.ext hx1.out) l2 l3 hlr hV.out).mono ?_; rw [hxs.out]; rintro e w2 ⟨p2, q2, rfl, ho2, hx2⟩; clear f0 f1 f2 f3 f4; replace ho2 := hide ho2; replace hx2 := hide hx2)
      | (go_at_call 29; refine (Int64sEqual xs xs p1 p2 q1 q2 _ ((OwnI.ints ho1.out).ext hx2.out) (OwnI.ints ho2.out) hxl hxl).mono ?_; rintro e w3 ⟨q, rfl, hq, hx3⟩; have hq' : q = true := hq.2 rfl; subst hq'; clear hq; have hx4 := hide ((hx1.out.trans hx2.out).trans hx3); have hb1 := hide (hnew.out.ext hx4.out); have f0 := hb1.out 0 _ rfl; have f1 := hb1.out 1 _ rfl; have f2 := hb1.out 2 _ rfl; have f3 := hb1.out 3 _ rfl; have f4 := hb1.out 4 _ rfl; clear hx3))
    clear f0 f1 f2 f3 f4
    have hbA : Box ((w3.alloc (.cells #[.int .i64 a0, .slice a1 pl.length c1, .slice a2 di.length c2, .slice a3 co.length c3, .slice ar ru.length cr] 51)).alloc (.cells #[.int .i64 a6, .slice (some ⟨w3.heap.size, 0, none⟩) 1 1] 66)) w3.heap.size _ := (Box.new w3 _ _).alloc _
    have hbB : Box ((w3.alloc (.cells #[.int .i64 a0, .slice a1 pl.length c1, .slice a2 di.length c2, .slice a3 co.length c3, .slice ar ru.length cr] 51)).alloc (.cells #[.int .i64 a6, .slice (some ⟨w3.heap.size, 0, none⟩) 1 1] 66)) (w3.heap.size + 1) [.int .i64 a6, .slice (some ⟨w3.heap.size, 0, none⟩) 1 1] := by have := Box.new (w3.alloc (.cells #[.int .i64 a0, .slice a1 pl.length c1, .slice a2 di.length c2, .slice a3 co.length c3, .slice ar ru.length cr] 51)) #[.int .i64 a6, .slice (some ⟨w3.heap.size, 0, none⟩) 1 1] 66; simpa using this
    have hxW : Ext w ((w3.alloc (.cells #[.int .i64 a0, .slice a1 pl.length c1, .slice a2 di.length c2, .slice a3 co.length c3, .slice ar ru.length cr] 51)).alloc (.cells #[.int .i64 a6, .slice (some ⟨w3.heap.size, 0, none⟩) 1 1] 66)) := ((hw0.out.trans hx4.out).alloc _).alloc _
    have hcW : ColAt ((w3.alloc (.cells #[.int .i64 a0, .slice a1 pl.length c1, .slice a2 di.length c2, .slice a3 co.length c3, .slice ar ru.length cr] 51)).alloc (.cells #[.int .i64 a6, .slice (some ⟨w3.heap.size, 0, none⟩) 1 1] 66)) ⟨a0, pl, di, co, ru⟩ a1 a2 a3 ar := hcol0.out.ext ((hx4.out.alloc _).alloc _)
    have hsW : ((w3.alloc (.cells #[.int .i64 a0, .slice a1 pl.length c1, .slice a2 di.length c2, .slice a3 co.length c3, .slice ar ru.length cr] 51)).alloc (.cells #[.int .i64 a6, .slice (some ⟨w3.heap.size, 0, none⟩) 1 1] 66)).heap.size = w3.heap.size + 2 := by simp
    generalize ((w3.alloc (.cells #[.int .i64 a0, .slice a1 pl.length c1, .slice a2 di.length c2, .slice a3 co.length c3, .slice ar ru.length cr] 51)).alloc (.cells #[.int .i64 a6, .slice (some ⟨w3.heap.size, 0, none⟩) 1 1] 66)) = W at *
    generalize w3.heap.size = N at *
    have hcs : Hid (ColsAt W (some ⟨N, 0, none⟩) [⟨a0, pl, di, co, ru⟩]) := by
      intro i hi
      have hi0 : i = 0 := by simpa using hi
      subst hi0
      exact ⟨N, 0, a1, a2, a3, ar, c1, c2, c3, cr, rfl, ⟨hbA 0 _ rfl, hbA 1 _ rfl, hbA 2 _ rfl, hbA 3 _ rfl, hbA 4 _ rfl⟩, hcW, ⟨by simp; omega, l2, l3, hlr⟩⟩
    have m0 := hbB 0 _ rfl
    have m1 := hbB 1 _ rfl
    replace hxW := hide hxW
    replace hbB := hide hbB
    clear hbA hcW
    refine Dr.region_held (fun b => b < N + 2) [2] (by kernel_rfl) ?_
    refine Dr.held_q1 (by rfl) ?_
    go_wp2
    refine Dr.held_act (by rfl) (by rfl) ?_
    go_wp2_with (go_at_call 36; refine (ValidTable [⟨a0, pl, di, co, ru⟩] a6 (some ⟨N, 0, none⟩) 1 _ (hcs.out.ext (Ext.refl W).drew) (by simp)).mono ?_; rintro e w5 ⟨r1, rfl, hr1, hx5⟩)
    refine ⟨Dr.Kp_of_ext hx5 (by simp [hsW]), ?_⟩
    have n0 := (Box.ext (Box.drew hbB.out) hx5) 0 _ rfl
    have n1 := (Box.ext (Box.drew hbB.out) hx5) 1 _ rfl
    replace hx5 := hide hx5
    replace hr1 := hide hr1
    refine Dr.held_q1 (by rfl) ?_
    go_wp2
    refine Dr.held_act (by rfl) (by rfl) ?_
    go_wp2_with (go_at_call 37; refine (RefValidTable [⟨a0, pl, di, co, ru⟩] a6 (some ⟨N, 0, none⟩) 1 _ (hcs.out.ext ((Ext.refl W).drew.trans hx5.out)) (by simp)).mono ?_; rintro e w6 ⟨r2, rfl, hr2, hx6⟩)
    refine ⟨Dr.Kp_of_ext hx6 (by have := hx5.out.size; simp [hsW] at this; omega), ?_⟩
    have k0 := (Box.ext ((Box.ext (Box.drew hbB.out) hx5.out)) hx6) 0 _ rfl
    have hrr : r1 = r2 := by have := hr1.out; cases r1 <;> cases r2 <;> simp_all
    subst hrr
    replace hx6 := hide hx6
    clear hr2
    refine Dr.held_q2 (by rfl) ?_
    go_wp2
    refine Dr.held_nil (by rfl) ⟨fun _ => ⟨N + 1, 0, rfl, by omega, Dr.isCells_of k0⟩, trivial⟩ ?_
    go_wp2
    go_ret
    exact ⟨by simp, (hxW.out.drew.trans hx5.out).trans hx6.out⟩
  · replace hV := hide hV
    go_wp2_with (first
      | (go_at_call 32; refine (DecodeColumn_no a0 pl di co ru a1 a2 a3 ar c1 c2 c3 cr a6 _ hcol0 l2 l3 hlr hV).mono ?_; rintro e w1 ⟨rfl, hx1⟩; have hb1 := hide (hnew.out.ext hx1); have f0 := hb1.out 0 _ rfl; have f1 := hb1.out 1 _ rfl; have f2 := hb1.out 2 _ rfl; have f3 := hb1.out 3 _ rfl; have f4 := hb1.out 4 _ rfl; replace hx1 := hide hx1)
      | (go_at_call 35; refine (RefDecodeColumn_no a0 a6 pl di co ru a1 a2 a3 ar c1 c2 c3 cr _ (hcol0.out.ext hx1.out) l2 l3 hlr hV.out).mono ?_; rintro e w2 ⟨rfl, hx2⟩; clear f0 f1 f2 f3 f4; replace hx2 := hide hx2)
      | (go_at_call 29; refine (Int64sEqual [] [] none none 0 0 _ (IntsAt.nil _ _) (IntsAt.nil _ _) (by simp) (by simp)).mono ?_; rintro e w3 ⟨q, rfl, hq, hx3⟩; have hq' : q = true := hq.2 rfl; subst hq'; clear hq; have hx4 := hide ((hx1.out.trans hx2.out).trans hx3); have hb1 := hide (hnew.out.ext hx4.out); have f0 := hb1.out 0 _ rfl; have f1 := hb1.out 1 _ rfl; have f2 := hb1.out 2 _ rfl; have f3 := hb1.out 3 _ rfl; have f4 := hb1.out 4 _ rfl; clear hx3))
    clear f0 f1 f2 f3 f4
    have hbA : Box ((w3.alloc (.cells #[.int .i64 a0, .slice a1 pl.length c1, .slice a2 di.length c2, .slice a3 co.length c3, .slice ar ru.length cr] 51)).alloc (.cells #[.int .i64 a6, .slice (some ⟨w3.heap.size, 0, none⟩) 1 1] 66)) w3.heap.size _ := (Box.new w3 _ _).alloc _
    have hbB : Box ((w3.alloc (.cells #[.int .i64 a0, .slice a1 pl.length c1, .slice a2 di.length c2, .slice a3 co.length c3, .slice ar ru.length cr] 51)).alloc (.cells #[.int .i64 a6, .slice (some ⟨w3.heap.size, 0, none⟩) 1 1] 66)) (w3.heap.size + 1) [.int .i64 a6, .slice (some ⟨w3.heap.size, 0, none⟩) 1 1] := by have := Box.new (w3.alloc (.cells #[.int .i64 a0, .slice a1 pl.length c1, .slice a2 di.length c2, .slice a3 co.length c3, .slice ar ru.length cr] 51)) #[.int .i64 a6, .slice (some ⟨w3.heap.size, 0, none⟩) 1 1] 66; simpa using this
    have hxW : Ext w ((w3.alloc (.cells #[.int .i64 a0, .slice a1 pl.length c1, .slice a2 di.length c2, .slice a3 co.length c3, .slice ar ru.length cr] 51)).alloc (.cells #[.int .i64 a6, .slice (some ⟨w3.heap.size, 0, none⟩) 1 1] 66)) := ((hw0.out.trans hx4.out).alloc _).alloc _
    have hcW : ColAt ((w3.alloc (.cells #[.int .i64 a0, .slice a1 pl.length c1, .slice a2 di.length c2, .slice a3 co.length c3, .slice ar ru.length cr] 51)).alloc (.cells #[.int .i64 a6, .slice (some ⟨w3.heap.size, 0, none⟩) 1 1] 66)) ⟨a0, pl, di, co, ru⟩ a1 a2 a3 ar := hcol0.out.ext ((hx4.out.alloc _).alloc _)
    have hsW : ((w3.alloc (.cells #[.int .i64 a0, .slice a1 pl.length c1, .slice a2 di.length c2, .slice a3 co.length c3, .slice ar ru.length cr] 51)).alloc (.cells #[.int .i64 a6, .slice (some ⟨w3.heap.size, 0, none⟩) 1 1] 66)).heap.size = w3.heap.size + 2 := by simp
    generalize ((w3.alloc (.cells #[.int .i64 a0, .slice a1 pl.length c1, .slice a2 di.length c2, .slice a3 co.length c3, .slice ar ru.length cr] 51)).alloc (.cells #[.int .i64 a6, .slice (some ⟨w3.heap.size, 0, none⟩) 1 1] 66)) = W at *
    generalize w3.heap.size = N at *
    have hcs : Hid (ColsAt W (some ⟨N, 0, none⟩) [⟨a0, pl, di, co, ru⟩]) := by
      intro i hi
      have hi0 : i = 0 := by simpa using hi
      subst hi0
      exact ⟨N, 0, a1, a2, a3, ar, c1, c2, c3, cr, rfl, ⟨hbA 0 _ rfl, hbA 1 _ rfl, hbA 2 _ rfl, hbA 3 _ rfl, hbA 4 _ rfl⟩, hcW, ⟨by simp; omega, l2, l3, hlr⟩⟩
    have m0 := hbB 0 _ rfl
    have m1 := hbB 1 _ rfl
    replace hxW := hide hxW
    replace hbB := hide hbB
    clear hbA hcW
    refine Dr.region_held (fun b => b < N + 2) [2] (by kernel_rfl) ?_
    refine Dr.held_q1 (by rfl) ?_
    go_wp2
    refine Dr.held_act (by rfl) (by rfl) ?_
    go_wp2_with (go_at_call 36; refine (ValidTable [⟨a0, pl, di, co, ru⟩] a6 (some ⟨N, 0, none⟩) 1 _ (hcs.out.ext (Ext.refl W).drew) (by simp)).mono ?_; rintro e w5 ⟨r1, rfl, hr1, hx5⟩)
    refine ⟨Dr.Kp_of_ext hx5 (by simp [hsW]), ?_⟩
    have n0 := (Box.ext (Box.drew hbB.out) hx5) 0 _ rfl
    have n1 := (Box.ext (Box.drew hbB.out) hx5) 1 _ rfl
    replace hx5 := hide hx5
    replace hr1 := hide hr1
    refine Dr.held_q1 (by rfl) ?_
    go_wp2
    refine Dr.held_act (by rfl) (by rfl) ?_
    go_wp2_with (go_at_call 37; refine (RefValidTable [⟨a0, pl, di, co, ru⟩] a6 (some ⟨N, 0, none⟩) 1 _ (hcs.out.ext ((Ext.refl W).drew.trans hx5.out)) (by simp)).mono ?_; rintro e w6 ⟨r2, rfl, hr2, hx6⟩)
    refine ⟨Dr.Kp_of_ext hx6 (by have := hx5.out.size; simp [hsW] at this; omega), ?_⟩
    have k0 := (Box.ext ((Box.ext (Box.drew hbB.out) hx5.out)) hx6) 0 _ rfl
    have hrr : r1 = r2 := by have := hr1.out; cases r1 <;> cases r2 <;> simp_all
    subst hrr
    replace hx6 := hide hx6
    clear hr2
    refine Dr.held_q2 (by rfl) ?_
    go_wp2
    refine Dr.held_nil (by rfl) ⟨fun _ => ⟨N + 1, 0, rfl, by omega, Dr.isCells_of k0⟩, trivial⟩ ?_
    go_wp2
    go_ret
    exact ⟨by simp, (hxW.out.drew.trans hx5.out).trans hx6.out⟩

set_option maxHeartbeats 1000000 in
theorem fnDecodeColumn_b (a0 : Int) (pl di co rv rc : List Int) (a1 a2 a3 a4 a5 : Option Addr) (c1 c2 c3 c4 c5 : Nat) (a6 : Int) (w : World) (b0 : -128 ≤ a0 ∧ a0 ≤ 127) (b6 : -2147483648 ≤ a6 ∧ a6 ≤ 2147483647) (h1 : Hid (IntsAt w a1 pl)) (h2 : Hid (IntsAt w a2 di)) (h3 : Hid (IntsAt w a3 co)) (h4 : Hid (IntsAt w a4 rv)) (h5 : Hid (IntsAt w a5 rc)) (hl1 : ¬ 1048576 < (pl.length : Int)) (hl2 : ¬ 1048576 < (di.length : Int)) (hl3 : ¬ 1048576 < (co.length : Int)) (hl4 : ¬ 1048576 < (rv.length : Int)) (hl5 : ¬ 1048576 < (rc.length : Int)) (hM : ¬ (rc.length : Int) < rv.length) : Calls Yaan.prog 7 #[.int .i8 a0, .slice a1 pl.length c1, .slice a2 di.length c2, .slice a3 co.length c3, .slice a4 rv.length c4, .slice a5 rc.length c5, .int .i32 a6] w (True1 w) := by
  obtain ⟨b0a, b0b⟩ := b0
  obtain ⟨b6a, b6b⟩ := b6
  go_enter Yaan.func7, Yaan.ntmps7
  go_wp2
  go_loopw [16, 17] (fun v i wr => ∃ k : Nat, i = .int .i64 k ∧ k ≤ rv.length ∧ Hid (OwnP wr w.heap.size 63 v ((rv.zip rc).take k)) ∧ Hid (Ext w wr)) (fun _ i _ => rv.length - (intOf i).toNat)
  case atStart => exact ⟨0, rfl, by omega, OwnP.nil _ _ _, Ext.refl w⟩
  obtain ⟨k, rfl, hk, hown, hext⟩ := hrel
  by_cases hlt : k < rv.length
  · have hlt' : (k : Int) < rv.length := by omega
    have hx1 : (k : Int) < rv.length := by omega
    have hx2 : (k : Int) < rc.length := by omega
    obtain ⟨bv, ov, rfl, g1⟩ := (h4.out.ext hext.out) k (by omega)
    obtain ⟨bc, oc, rfl, g2⟩ := (h5.out.ext hext.out) k (by omega)
    have hz := zip_take_succ rv rc k (by omega) (by omega)
    have hln : ((rv.zip rc).take k).length < 2 ^ 39 := by simp; omega
    have hb1 := cell_lt g1
    have hb2 := cell_lt g2
    simp only at hb1 hb2
    generalize rv.getD k 0 = x at *
    generalize rc.getD k 0 = y at *
    generalize (rv.zip rc).take k = ps at *
    replace hz := hide hz
    replace hln := hide hln
    have hsz := hext.out.size
    go_wp2
    refine Dr.region_text (by kernel_rfl) ?_
    go_wp2_with (at_builtin; refine app_run rfl rfl w.heap.size (by simp; omega) _ ps x y rfl ((OwnP.drew hown.out).alloc _) wr.heap.size 1 (by rfl) (heap_alloc_new wr.drew _) hln.out ?_; intro g cap w2 hown2 hgr hor hlt2; replace hgr := hide hgr; replace hown2 := hide hown2; replace hor := hide hor)
    refine ⟨by rfl, ?_⟩
    go_wp2
    go_roundw
    case rel =>
      refine ⟨k + 1, by go_num, by omega, hown2.out.congr hz.out, (hext.out.drew.alloc _).grown hgr.out ?_⟩
      intro q hq; exact hown.out.block q hq
    case measure => simp [intOf]; omega
  have hrl : ((rv.zip rc).take k).length = k := by simp; omega
  generalize (rv.zip rc).take k = ru at hown hrl
  obtain ⟨ar, cr, rfl, _⟩ := hown.out.form
  have hru : PairsAt wr ar ru := OwnP.pairs hown.out
  have hlr : ru.length < 2 ^ 40 := by omega
  have hcol : Hid (ColAt wr ⟨a0, pl, di, co, ru⟩ a1 a2 a3 ar) := ⟨h1.out.ext hext.out, h2.out.ext hext.out, h3.out.ext hext.out, hru⟩
  clear hown hrl hru
  have hk1 : (rv.length : Int) ≤ k := by omega
  clear hlt hk
  have l2 : di.length < 2 ^ 40 := by omega
  have l3 : co.length < 2 ^ 40 := by omega
  have hnew : Hid (Box (wr.alloc (.cells #[.int .i64 a0, .slice a1 pl.length c1, .slice a2 di.length c2, .slice a3 co.length c3, .slice ar ru.length cr] 51)) wr.heap.size _) := Box.new wr _ _
  have hw0 : Hid (Ext w (wr.alloc (.cells #[.int .i64 a0, .slice a1 pl.length c1, .slice a2 di.length c2, .slice a3 co.length c3, .slice ar ru.length cr] 51))) := hext.out.alloc _
  have hcol0 : Hid (ColAt (wr.alloc (.cells #[.int .i64 a0, .slice a1 pl.length c1, .slice a2 di.length c2, .slice a3 co.length c3, .slice ar ru.length cr] 51)) ⟨a0, pl, di, co, ru⟩ a1 a2 a3 ar) := hcol.out.ext ((Ext.refl wr).alloc _)
  by_cases hV : Valid ⟨a0, pl, di, co, ru⟩ a6
  · have hdl := dec_len _ _ hV
    have hn1 := hV.2.1
    generalize hxs : dec ⟨a0, pl, di, co, ru⟩ = xs at hdl
    have hxl : xs.length < 2 ^ 40 := by omega
    replace hV := hide hV
    replace hxs := hide hxs
    replace hdl := hide hdl
    go_wp2_with (first
      | (go_at_call 32; refine (DecodeColumn_yes a0 pl di co ru a1 a2 a3 ar c1 c2 c3 cr a6 _ hcol0 l2 l3 hlr hV).mono ?_; rw [hxs.out]; rintro e w1 ⟨p1, q1, rfl, ho1, hx1⟩; have hb1 := hide (hnew.out.ext hx1); have f0 := hb1.out 0 _ rfl; have f1 := hb1.out 1 _ rfl; have f2 := hb1.out 2 _ rfl; have f3 := hb1.out 3 _ rfl; have f4 := hb1.out 4 _ rfl; replace ho1 := hide ho1; replace hx1 := hide hx1)
      | (go_at_call 35; refine (RefDecodeColumn_yes a0 a6 pl di co ru a1 a2 a3 ar c1 c2 c3 cr _ (hcol0.out.ext hx1.out) l2 l3 hlr hV.out).mono ?_; rw [hxs.out]; rintro e w2 ⟨p2, q2, rfl, ho2, hx2⟩; clear f0 f1 f2 f3 f4; replace ho2 := hide ho2; replace hx2 := hide hx2)
      | (go_at_call 29; refine (Int64sEqual xs xs p1 p2 q1 q2 _ ((OwnI.ints ho1.out).ext hx2.out) (OwnI.ints ho2.out) hxl hxl).mono ?_; rintro e w3 ⟨q, rfl, hq, hx3⟩; have hq' : q = true := hq.2 rfl; subst hq'; clear hq; have hx4 := hide ((hx1.out.trans hx2.out).trans hx3); have hb1 := hide (hnew.out.ext hx4.out); have f0 := hb1.out 0 _ rfl; have f1 := hb1.out 1 _ rfl; have f2 := hb1.out 2 _ rfl; have f3 := hb1.out 3 _ rfl; have f4 := hb1.out 4 _ rfl; clear hx3))
    clear f0 f1 f2 f3 f4
    have hbA : Box ((w3.alloc (.cells #[.int .i64 a0, .slice a1 pl.length c1, .slice a2 di.length c2, .slice a3 co.length c3, .slice ar ru.length cr] 51)).alloc (.cells #[.int .i64 a6, .slice (some ⟨w3.heap.size, 0, none⟩) 1 1] 66)) w3.heap.size _ := (Box.new w3 _ _).alloc _
    have hbB : Box ((w3.alloc (.cells #[.int .i64 a0, .slice a1 pl.length c1, .slice a2 di.length c2, .slice a3 co.length c3, .slice ar ru.length cr] 51)).alloc (.cells #[.int .i64 a6, .slice (some ⟨w3.heap.size, 0, none⟩) 1 1] 66)) (w3.heap.size + 1) [.int .i64 a6, .slice (some ⟨w3.heap.size, 0, none⟩) 1 1] := by have := Box.new (w3.alloc (.cells #[.int .i64 a0, .slice a1 pl.length c1, .slice a2 di.length c2, .slice a3 co.length c3, .slice ar ru.length cr] 51)) #[.int .i64 a6, .slice (some ⟨w3.heap.size, 0, none⟩) 1 1] 66; simpa using this
    have hxW : Ext w ((w3.alloc (.cells #[.int .i64 a0, .slice a1 pl.length c1, .slice a2 di.length c2, .slice a3 co.length c3, .slice ar ru.length cr] 51)).alloc (.cells #[.int .i64 a6, .slice (some ⟨w3.heap.size, 0, none⟩) 1 1] 66)) := ((hw0.out.trans hx4.out).alloc _).alloc _
    have hcW : ColAt ((w3.alloc (.cells #[.int .i64 a0, .slice a1 pl.length c1, .slice a2 di.length c2, .slice a3 co.length c3, .slice ar ru.length cr] 51)).alloc (.cells #[.int .i64 a6, .slice (some ⟨w3.heap.size, 0, none⟩) 1 1] 66)) ⟨a0, pl, di, co, ru⟩ a1 a2 a3 ar := hcol0.out.ext ((hx4.out.alloc _).alloc _)
    have hsW : ((w3.alloc (.cells #[.int .i64 a0, .slice a1 pl.length c1, .slice a2 di.length c2, .slice a3 co.length c3, .slice ar ru.length cr] 51)).alloc (.cells #[.int .i64 a6, .slice (some ⟨w3.heap.size, 0, none⟩) 1 1] 66)).heap.size = w3.heap.size + 2 := by simp
    generalize ((w3.alloc (.cells #[.int .i64 a0, .slice a1 pl.length c1, .slice a2 di.length c2, .slice a3 co.length c3, .slice ar ru.length cr] 51)).alloc (.cells #[.int .i64 a6, .slice (some ⟨w3.heap.size, 0, none⟩) 1 1] 66)) = W at *
    generalize w3.heap.size = N at *
    have hcs : Hid (ColsAt W (some ⟨N, 0, none⟩) [⟨a0, pl, di, co, ru⟩]) := by
      intro i hi
      have hi0 : i = 0 := by simpa using hi
      subst hi0
      exact ⟨N, 0, a1, a2, a3, ar, c1, c2, c3, cr, rfl, ⟨hbA 0 _ rfl, hbA 1 _ rfl, hbA 2 _ rfl, hbA 3 _ rfl, hbA 4 _ rfl⟩, hcW, ⟨by simp; omega, l2, l3, hlr⟩⟩
    have m0 := hbB 0 _ rfl
    have m1 := hbB 1 _ rfl
    replace hxW := hide hxW
    replace hbB := hide hbB
    clear hbA hcW
    refine Dr.region_held (fun b => b < N + 2) [2] (by kernel_rfl) ?_
    refine Dr.held_q1 (by rfl) ?_
    go_wp2
    refine Dr.held_act (by rfl) (by rfl) ?_
    go_wp2_with (go_at_call 36; refine (ValidTable [⟨a0, pl, di, co, ru⟩] a6 (some ⟨N, 0, none⟩) 1 _ (hcs.out.ext (Ext.refl W).drew) (by simp)).mono ?_; rintro e w5 ⟨r1, rfl, hr1, hx5⟩)
    refine ⟨Dr.Kp_of_ext hx5 (by simp [hsW]), ?_⟩
    have n0 := (Box.ext (Box.drew hbB.out) hx5) 0 _ rfl
    have n1 := (Box.ext (Box.drew hbB.out) hx5) 1 _ rfl
    replace hx5 := hide hx5
    replace hr1 := hide hr1
    refine Dr.held_q1 (by rfl) ?_
    go_wp2
    refine Dr.held_act (by rfl) (by rfl) ?_
    go_wp2_with (go_at_call 37; refine (RefValidTable [⟨a0, pl, di, co, ru⟩] a6 (some ⟨N, 0, none⟩) 1 _ (hcs.out.ext ((Ext.refl W).drew.trans hx5.out)) (by simp)).mono ?_; rintro e w6 ⟨r2, rfl, hr2, hx6⟩)
    refine ⟨Dr.Kp_of_ext hx6 (by have := hx5.out.size; simp [hsW] at this; omega), ?_⟩
    have k0 := (Box.ext ((Box.ext (Box.drew hbB.out) hx5.out)) hx6) 0 _ rfl
    have hrr : r1 = r2 := by have := hr1.out; cases r1 <;> cases r2 <;> simp_all
    subst hrr
    replace hx6 := hide hx6
    clear hr2
    refine Dr.held_q2 (by rfl) ?_
    go_wp2
    refine Dr.held_nil (by rfl) ⟨fun _ => ⟨N + 1, 0, rfl, by omega, Dr.isCells_of k0⟩, trivial⟩ ?_
    go_wp2
    go_ret
    exact ⟨by simp, (hxW.out.drew.trans hx5.out).trans hx6.out⟩
  · replace hV := hide hV
    go_wp2_with (first
      | (go_at_call 32; refine (DecodeColumn_no a0 pl di co ru a1 a2 a3 ar c1 c2 c3 cr a6 _ hcol0 l2 l3 hlr hV).mono ?_; rintro e w1 ⟨rfl, hx1⟩; have hb1 := hide (hnew.out.ext hx1); have f0 := hb1.out 0 _ rfl; have f1 := hb1.out 1 _ rfl; have f2 := hb1.out 2 _ rfl; have f3 := hb1.out 3 _ rfl; have f4 := hb1.out 4 _ rfl; replace hx1 := hide hx1)
      | (go_at_call 35; refine (RefDecodeColumn_no a0 a6 pl di co ru a1 a2 a3 ar c1 c2 c3 cr _ (hcol0.out.ext hx1.out) l2 l3 hlr hV.out).mono ?_; rintro e w2 ⟨rfl, hx2⟩; clear f0 f1 f2 f3 f4; replace hx2 := hide hx2)
      | (go_at_call 29; refine (Int64sEqual [] [] none none 0 0 _ (IntsAt.nil _ _) (IntsAt.nil _ _) (by simp) (by simp)).mono ?_; rintro e w3 ⟨q, rfl, hq, hx3⟩; have hq' : q = true := hq.2 rfl; subst hq'; clear hq; have hx4 := hide ((hx1.out.trans hx2.out).trans hx3); have hb1 := hide (hnew.out.ext hx4.out); have f0 := hb1.out 0 _ rfl; have f1 := hb1.out 1 _ rfl; have f2 := hb1.out 2 _ rfl; have f3 := hb1.out 3 _ rfl; have f4 := hb1.out 4 _ rfl; clear hx3))
    clear f0 f1 f2 f3 f4
    have hbA : Box ((w3.alloc (.cells #[.int .i64 a0, .slice a1 pl.length c1, .slice a2 di.length c2, .slice a3 co.length c3, .slice ar ru.length cr] 51)).alloc (.cells #[.int .i64 a6, .slice (some ⟨w3.heap.size, 0, none⟩) 1 1] 66)) w3.heap.size _ := (Box.new w3 _ _).alloc _
    have hbB : Box ((w3.alloc (.cells #[.int .i64 a0, .slice a1 pl.length c1, .slice a2 di.length c2, .slice a3 co.length c3, .slice ar ru.length cr] 51)).alloc (.cells #[.int .i64 a6, .slice (some ⟨w3.heap.size, 0, none⟩) 1 1] 66)) (w3.heap.size + 1) [.int .i64 a6, .slice (some ⟨w3.heap.size, 0, none⟩) 1 1] := by have := Box.new (w3.alloc (.cells #[.int .i64 a0, .slice a1 pl.length c1, .slice a2 di.length c2, .slice a3 co.length c3, .slice ar ru.length cr] 51)) #[.int .i64 a6, .slice (some ⟨w3.heap.size, 0, none⟩) 1 1] 66; simpa using this
    have hxW : Ext w ((w3.alloc (.cells #[.int .i64 a0, .slice a1 pl.length c1, .slice a2 di.length c2, .slice a3 co.length c3, .slice ar ru.length cr] 51)).alloc (.cells #[.int .i64 a6, .slice (some ⟨w3.heap.size, 0, none⟩) 1 1] 66)) := ((hw0.out.trans hx4.out).alloc _).alloc _
    have hcW : ColAt ((w3.alloc (.cells #[.int .i64 a0, .slice a1 pl.length c1, .slice a2 di.length c2, .slice a3 co.length c3, .slice ar ru.length cr] 51)).alloc (.cells #[.int .i64 a6, .slice (some ⟨w3.heap.size, 0, none⟩) 1 1] 66)) ⟨a0, pl, di, co, ru⟩ a1 a2 a3 ar := hcol0.out.ext ((hx4.out.alloc _).alloc _)
    have hsW : ((w3.alloc (.cells #[.int .i64 a0, .slice a1 pl.length c1, .slice a2 di.length c2, .slice a3 co.length c3, .slice ar ru.length cr] 51)).alloc (.cells #[.int .i64 a6, .slice (some ⟨w3.heap.size, 0, none⟩) 1 1] 66)).heap.size = w3.heap.size + 2 := by simp
    generalize ((w3.alloc (.cells #[.int .i64 a0, .slice a1 pl.length c1, .slice a2 di.length c2, .slice a3 co.length c3, .slice ar ru.length cr] 51)).alloc (.cells #[.int .i64 a6, .slice (some ⟨w3.heap.size, 0, none⟩) 1 1] 66)) = W at *
    generalize w3.heap.size = N at *
    have hcs : Hid (ColsAt W (some ⟨N, 0, none⟩) [⟨a0, pl, di, co, ru⟩]) := by
      intro i hi
      have hi0 : i = 0 := by simpa using hi
      subst hi0
      exact ⟨N, 0, a1, a2, a3, ar, c1, c2, c3, cr, rfl, ⟨hbA 0 _ rfl, hbA 1 _ rfl, hbA 2 _ rfl, hbA 3 _ rfl, hbA 4 _ rfl⟩, hcW, ⟨by simp; omega, l2, l3, hlr⟩⟩
    have m0 := hbB 0 _ rfl
    have m1 := hbB 1 _ rfl
    replace hxW := hide hxW
    replace hbB := hide hbB
    clear hbA hcW
    refine Dr.region_held (fun b => b < N + 2) [2] (by kernel_rfl) ?_
    refine Dr.held_q1 (by rfl) ?_
    go_wp2
    refine Dr.held_act (by rfl) (by rfl) ?_
    go_wp2_with (go_at_call 36; refine (ValidTable [⟨a0, pl, di, co, ru⟩] a6 (some ⟨N, 0, none⟩) 1 _ (hcs.out.ext (Ext.refl W).drew) (by simp)).mono ?_; rintro e w5 ⟨r1, rfl, hr1, hx5⟩)
    refine ⟨Dr.Kp_of_ext hx5 (by simp [hsW]), ?_⟩
    have n0 := (Box.ext (Box.drew hbB.out) hx5) 0 _ rfl
    have n1 := (Box.ext (Box.drew hbB.out) hx5) 1 _ rfl
    replace hx5 := hide hx5
    replace hr1 := hide hr1
    refine Dr.held_q1 (by rfl) ?_
    go_wp2
    refine Dr.held_act (by rfl) (by rfl) ?_
    go_wp2_with (go_at_call 37; refine (RefValidTable [⟨a0, pl, di, co, ru⟩] a6 (some ⟨N, 0, none⟩) 1 _ (hcs.out.ext ((Ext.refl W).drew.trans hx5.out)) (by simp)).mono ?_; rintro e w6 ⟨r2, rfl, hr2, hx6⟩)
    refine ⟨Dr.Kp_of_ext hx6 (by have := hx5.out.size; simp [hsW] at this; omega), ?_⟩
    have k0 := (Box.ext ((Box.ext (Box.drew hbB.out) hx5.out)) hx6) 0 _ rfl
    have hrr : r1 = r2 := by have := hr1.out; cases r1 <;> cases r2 <;> simp_all
    subst hrr
    replace hx6 := hide hx6
    clear hr2
    refine Dr.held_q2 (by rfl) ?_
    go_wp2
    refine Dr.held_nil (by rfl) ⟨fun _ => ⟨N + 1, 0, rfl, by omega, Dr.isCells_of k0⟩, trivial⟩ ?_
    go_wp2
    go_ret
    exact ⟨by simp, (hxW.out.drew.trans hx5.out).trans hx6.out⟩

theorem fnDecodeColumn_walk (a0 : Int) (pl di co rv rc : List Int) (a1 a2 a3 a4 a5 : Option Addr) (c1 c2 c3 c4 c5 : Nat) (a6 : Int) (w : World) (b0 : -128 ≤ a0 ∧ a0 ≤ 127) (b6 : -2147483648 ≤ a6 ∧ a6 ≤ 2147483647) (h1 : Hid (IntsAt w a1 pl)) (h2 : Hid (IntsAt w a2 di)) (h3 : Hid (IntsAt w a3 co)) (h4 : Hid (IntsAt w a4 rv)) (h5 : Hid (IntsAt w a5 rc)) : Calls Yaan.prog 7 #[.int .i8 a0, .slice a1 pl.length c1, .slice a2 di.length c2, .slice a3 co.length c3, .slice a4 rv.length c4, .slice a5 rc.length c5, .int .i32 a6] w (True1 w) := by
  by_cases hbig : 1048576 < (pl.length : Int) ∨ 1048576 < (di.length : Int) ∨ 1048576 < (co.length : Int) ∨ 1048576 < (rv.length : Int) ∨ 1048576 < (rc.length : Int)
  · exact fnDecodeColumn_big a0 pl di co rv rc a1 a2 a3 a4 a5 c1 c2 c3 c4 c5 a6 w b0 b6 hbig
  by_cases hM : (rc.length : Int) < rv.length
  · exact fnDecodeColumn_a a0 pl di co rv rc a1 a2 a3 a4 a5 c1 c2 c3 c4 c5 a6 w b0 b6 h1 h2 h3 h4 h5 (by omega) (by omega) (by omega) (by omega) (by omega) hM
  · exact fnDecodeColumn_b a0 pl di co rv rc a1 a2 a3 a4 a5 c1 c2 c3 c4 c5 a6 w b0 b6 h1 h2 h3 h4 h5 (by omega) (by omega) (by omega) (by omega) (by omega) hM
end Go.Proofs.Ybyaaw
