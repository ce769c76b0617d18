/- Walk: laws.FnRobust -/
import Derived.Test.YbyabwResEq
import Derived.Test.YbyabwTokEq
import Derived.Test.YbyabwParseAg
import Derived.Test.YbyabwEnc3
import Derived.Test.YbyabwRefBldTab
namespace Go.Proofs.Ybyabw
open Go.RowKit
set_option maxRecDepth 100000
set_option linter.unusedVariables false
set_option linter.unusedSimpArgs false

/-- A slice of int8 as it is read. -/
def I8At (w : World) (a : Option Addr) (zs : List Int) : Prop := ∀ i, i < zs.length → ∃ b off, a = some ⟨b, off, none⟩ ∧ w.cell? ⟨b, off + i, none⟩ = some (.int .i8 (zs.getD i 0)) ∧ -128 ≤ zs.getD i 0 ∧ zs.getD i 0 ≤ 127
theorem I8At.ext {w w' : World} {a : Option Addr} {zs : List Int} (h : I8At w a zs) (he : Ext w w') : I8At w' a zs := fun i hi => by
  obtain ⟨b, off, e, hc, h1⟩ := h i hi
  exact ⟨b, off, e, he.cell hc, h1⟩
def rbF (pl rc : List Int) (i : Nat) : Int × Int := (if 0 < pl.length then pl.getD (i % pl.length) 0 else (i : Int), rc.getD i 0)
def rbR (pl rc : List Int) (k : Nat) : List (Int × Int) := (List.range k).map (rbF pl rc)
theorem rbR_len (pl rc : List Int) (k : Nat) : (rbR pl rc k).length = k := by simp [rbR]
theorem rbR_succ (pl rc : List Int) (k : Nat) : rbR pl rc (k + 1) = rbR pl rc k ++ [rbF pl rc k] := by simp [rbR, List.range_succ]
def rbC (pl di co : List Int) (ru : List (Int × Int)) (ks : List Int) (k : Nat) : List Col := (ks.take k).map (fun z => ⟨z, pl, di, co, ru⟩)
theorem rbC_len (pl di co : List Int) (ru : List (Int × Int)) (ks : List Int) : (rbC pl di co ru ks ks.length).length = ks.length := by simp [rbC]
theorem rbC_at (pl di co : List Int) (ru : List (Int × Int)) (ks : List Int) (i : Nat) (h : i < ks.length) : (rbC pl di co ru ks ks.length).getD i col0 = ⟨ks.getD i 0, pl, di, co, ru⟩ := by
  unfold rbC
  rw [List.take_length, List.getD_eq_getElem?_getD, List.getElem?_map, List.getElem?_eq_getElem h, List.getD_eq_getElem?_getD, List.getElem?_eq_getElem h]
  rfl
def rowV (pl di co : List Int) (ru : List (Int × Int)) (a1 a2 a3 a4 : Option Addr) (c1 c2 c3 c4 : Nat) (z : Int) : List Value := [.int .i64 z, .slice a1 pl.length c1, .slice a2 di.length c2, .slice a3 co.length c3, .slice a4 ru.length c4]
theorem rowV_one (pl di co : List Int) (ru : List (Int × Int)) (a1 a2 a3 a4 : Option Addr) (c1 c2 c3 c4 : Nat) (z : Int) : ∀ u ∈ rowV pl di co ru a1 a2 a3 a4 c1 c2 c3 c4 z, u.oneCell' = true := by simp [rowV, Value.oneCell']
theorem toks_tk {R : Option (List (Int × Int))} {w w' : World} {en : Ending} (h : RetToks R w en w') : ∃ a cap, (R.getD []).length ≤ 65536 ∧ en = .returned (.tuple #[.slice a (R.getD []).length cap, .bool R.isSome]) ∧ PairsAt w' a (R.getD []) ∧ Ext w w' := by
  obtain ⟨hx, ⟨rfl, rfl⟩ | ⟨ts, a, cap, rfl, rfl, hl, ho⟩⟩ := h
  · exact ⟨none, 0, by simp, rfl, PairsAt.nil _ _, hx⟩
  · exact ⟨a, cap, hl, rfl, ho.pairs, hx⟩
section
variable {ops : Array Oper} {rest : List Oper} {o : Oper} {a : Act} {Q : Exit → Act → World → Prop} {w : World}
theorem mk0_col (hg : o.guard = none) {c : Operand} (hop : o.op = Op.makeSlice 31 (.const (.int .i64 0)) c) (n : Nat) (hc : a.eval c = .int .i64 n) (hb : n < 2 ^ 40) (N : Nat) (hN : w.heap.size = N)
    (hK : ∀ w', OwnV w' N 29 5 (.slice (some ⟨N, 0, none⟩) 0 n) [] → Ext w w' → w'.heap.size = N + 1 → wpList Yabn.prog ops Q rest (a.put o.dst (.slice (some ⟨N, 0, none⟩) 0 n)) w') :
    wpList Yabn.prog ops Q (o :: rest) a w := by
  obtain ⟨i, h2, h3, h4, h5⟩ := info_parts info_col
  exact wpList_mk0 hg hop 29 Yabn.underlying31 h2 h3 h4 (by omega) n hc hb N hN (fun w' ho hx hz => hK w' ⟨(fun r hr => by cases hr), ho⟩ hx hz)
end
theorem TokAll (s : ByteArray) (w : World) : Calls Yabn.prog 15 #[.string s] w (RetToks (tokens s) w) := by
  by_cases h : 65536 < (s.size : Int)
  · exact Tokenize_big s w h
  · exact Tokenize_main s w h
set_option maxHeartbeats 16000000 in
theorem FnRobust (x : ByteArray) (n : Int) (ks pl co rc : List Int) (ka pa ca ra : Option Addr) (kc pc cc rcap : Nat) (w : World) (hn0 : -2147483648 ≤ n) (hn1 : n ≤ 2147483647) (hk : Hid (I8At w ka ks)) (hp : Hid (IntsAt w pa pl)) (hc : Hid (IntsAt w ca co)) (hr : Hid (IntsAt w ra rc)) :
    Calls Yabn.prog 3 #[.string x, .int .i32 n, .slice ka ks.length kc, .slice pa pl.length pc, .slice ca co.length cc, .slice ra rc.length rcap] w (RetTrue w) := by
  by_cases l0 : 1048576 < x.size
  · have l0' : 1048576 < (x.size : Int) := by omega
    go_enter Yabn.func3, Yabn.ntmps3
    go_wp2
    go_ret
    exact ⟨rfl, Ext.refl w⟩
  have l0' : ¬ 1048576 < (x.size : Int) := by omega
  by_cases l1 : 1048576 < ks.length
  · have l1' : 1048576 < (ks.length : Int) := by omega
    go_enter Yabn.func3, Yabn.ntmps3
    go_wp2
    go_ret
    exact ⟨rfl, Ext.refl w⟩
  have l1' : ¬ 1048576 < (ks.length : Int) := by omega
  by_cases l2 : 1048576 < pl.length
  · have l2' : 1048576 < (pl.length : Int) := by omega
    go_enter Yabn.func3, Yabn.ntmps3
    go_wp2
    go_ret
    exact ⟨rfl, Ext.refl w⟩
  have l2' : ¬ 1048576 < (pl.length : Int) := by omega
  by_cases l3 : 1048576 < co.length
  · have l3' : 1048576 < (co.length : Int) := by omega
    go_enter Yabn.func3, Yabn.ntmps3
    go_wp2
    go_ret
    exact ⟨rfl, Ext.refl w⟩
  have l3' : ¬ 1048576 < (co.length : Int) := by omega
  by_cases l4 : 1048576 < rc.length
  · have l4' : 1048576 < (rc.length : Int) := by omega
    go_enter Yabn.func3, Yabn.ntmps3
    go_wp2
    go_ret
    exact ⟨rfl, Ext.refl w⟩
  have l4' : ¬ 1048576 < (rc.length : Int) := by omega
  go_enter Yabn.func3, Yabn.ntmps3
  go_wp2_with fail
  go_loopw [13, 14] (fun v i wr => ∃ k : Nat, i = .int .i64 k ∧ k ≤ rc.length ∧ Hid (OwnP wr w.heap.size 27 v (rbR pl rc k)) ∧ Hid (Ext w wr)) (fun _ i _ => rc.length - (intOf i).toNat)
  case atStart => exact ⟨0, rfl, Nat.zero_le _, OwnP.nil _ _ _, Ext.refl w⟩
  obtain ⟨k, rfl, hkk, hO, hX⟩ := hrel
  by_cases hkl : k < rc.length
  · have hkl' : (k : Int) < rc.length := by omega
    obtain ⟨b1, o1, e1, c1⟩ := (hr.out.ext hX.out) k hkl
    cases e1
    have hsu := hide (rbR_succ pl rc k)
    have hln : Hid ((rbR pl rc k).length < 2 ^ 39) := by show _ < _; rw [rbR_len]; omega
    by_cases hp0 : 0 < pl.length
    · have hp0' : (0 : Int) < pl.length := by omega
      have hmod : k % pl.length < pl.length := Nat.mod_lt _ hp0
      obtain ⟨b2, o2, e2, c2⟩ := (hp.out.ext hX.out) (k % pl.length) hmod
      cases e2
      have hF : Hid (rbF pl rc k = (pl.getD (k % pl.length) 0, rc.getD k 0)) := by show _ = _; unfold rbF; rw [if_pos hp0]
      rw [hF.out] at hsu
      generalize pl.getD (k % pl.length) 0 = y1 at *
      generalize rc.getD k 0 = y2 at *
      generalize rbR pl rc k = J at *
      have hrem : Int.tmod (k : Int) (pl.length : Int) = ((k % pl.length : Nat) : Int) := by rw [Int.ofNat_tmod]
      have hpz : ((pl.length : Int) == 0) = false := beq_eq_false_iff_ne.2 (by omega)
      have hmodi : ((k % pl.length : Nat) : Int) < pl.length := by omega
      generalize k % pl.length = q at *
      have hX3 : Hid (Ext wr (wr.alloc (.cells #[.int .i64 y1, .int .i64 y2] 27))) := (Ext.refl _).alloc _
      have hG3 := hide (OwnP.ext hO.out hX3.out)
      have hsz3 : Hid (w.heap.size ≤ (wr.alloc (.cells #[.int .i64 y1, .int .i64 y2] 27)).heap.size) := Nat.le_trans hX.out.size hX3.out.size
      have hblk := hide (heap_alloc_new wr (.cells #[.int .i64 y1, .int .i64 y2] 27))
      go_wp2_with (at_builtin; refine app_run rfl rfl w.heap.size hsz3.out _ J y1 y2 rfl hG3.out wr.heap.size 1 (by rfl) hblk.out hln.out ?_; intro g7 cap7 w7 O7 hgr7 hor7 hlt7; have hX7 : Hid (Ext w w7) := (hX.out.trans hX3.out).grown hgr7 (fun q hq => (World.ownsRow.lt hG3.out q hq).1); have hO7 := hide O7; clear O7 hgr7 hor7 hlt7)
      go_roundw
      case rel => exact ⟨k + 1, by go_num, by omega, by rw [hsu.out]; exact hO7.out, hX7.out⟩
      case measure => simp [intOf]; omega
    · have hp0' : ¬ (0 : Int) < pl.length := by omega
      have hF : Hid (rbF pl rc k = ((k : Int), rc.getD k 0)) := by show _ = _; unfold rbF; rw [if_neg hp0]
      rw [hF.out] at hsu
      generalize rc.getD k 0 = y2 at *
      generalize rbR pl rc k = J at *
      have hX3 : Hid (Ext wr (wr.alloc (.cells #[.int .i64 (k : Int), .int .i64 y2] 27))) := (Ext.refl _).alloc _
      have hG3 := hide (OwnP.ext hO.out hX3.out)
      have hsz3 : Hid (w.heap.size ≤ (wr.alloc (.cells #[.int .i64 (k : Int), .int .i64 y2] 27)).heap.size) := Nat.le_trans hX.out.size hX3.out.size
      have hblk := hide (heap_alloc_new wr (.cells #[.int .i64 (k : Int), .int .i64 y2] 27))
      go_wp2_with (at_builtin; refine app_run rfl rfl w.heap.size hsz3.out _ J (k : Int) y2 rfl hG3.out wr.heap.size 1 (by rfl) hblk.out hln.out ?_; intro g7 cap7 w7 O7 hgr7 hor7 hlt7; have hX7 : Hid (Ext w w7) := (hX.out.trans hX3.out).grown hgr7 (fun q hq => (World.ownsRow.lt hG3.out q hq).1); have hO7 := hide O7; clear O7 hgr7 hor7 hlt7)
      go_roundw
      case rel => exact ⟨k + 1, by go_num, by omega, by rw [hsu.out]; exact hO7.out, hX7.out⟩
      case measure => simp [intOf]; omega
  have hkl' : ¬ (k : Int) < rc.length := by omega
  obtain rfl : k = rc.length := by omega
  have hrul : Hid ((rbR pl rc rc.length).length = rc.length) := rbR_len _ _ _
  obtain ⟨ru, hru⟩ : ∃ ru, Hid (rbR pl rc rc.length = ru) := ⟨_, rfl⟩
  rw [hru.out] at hO hrul
  clear hkl hkk hru
  obtain ⟨ua, uc, rfl, _⟩ := hO.out.form
  have hru := hide hO.out.pairs
  clear hO
  obtain ⟨W1, rfl⟩ : ∃ W1, W1 = wr := ⟨_, rfl⟩
  have hpl1 := hide (hp.out.ext hX.out)
  go_wp2_with fail
  refine (RefEncodeDict pl pa pc W1 hpl1.out).mono ?_
  rintro e w2 ⟨d1, da, d3, d4, e1, dc, e3, e4, rfl, hD, x2⟩
  have hdi := hide hD.dict.ints
  have hdl : Hid ((encOf 1 pl).dict.length < 2 ^ 39) := by
    show _ < _
    unfold encOf
    split
    · simp [col0]
    · rw [if_neg (by decide), if_pos rfl]
      have := dictOf_len pl
      simp [encD]
      omega
  have hX2 : Hid (Ext w w2) := hX.out.trans x2
  have hru2 := hide (hru.out.ext x2)
  simp only [colV, colArg]
  obtain ⟨di, hdie⟩ : ∃ di, Hid ((encOf 1 pl).dict = di) := ⟨_, rfl⟩
  generalize (encOf 1 pl) = EC at *
  rw [hdie.out] at hdi hdl ⊢
  clear hD x2 hX hru hpl1
  obtain ⟨ek, ep, ed, ec, er⟩ := EC
  simp only
  have hfd : ∀ W : World, (Instr.field 29 (.agg #[.int .i64 ek, .slice d1 ep.length e1, .slice da di.length dc, .slice d3 ec.length e3, .slice d4 er.length e4]) 2).run Yabn.prog W = .ok (.slice da di.length dc) W := fun _ => by kernel_rfl
  go_wp2_with (at_make; refine mk0_col rfl rfl ks.length rfl (by omega) w2.heap.size rfl ?_; intro w3 O3 x3 z3; have hX3 : Hid (Ext w2 w3) := x3; have hO3 := hide O3; clear O3 x3 z3)
  go_loopw [17, 18] (fun v i wr => ∃ (k : Nat), i = .int .i64 k ∧ k ≤ ks.length ∧ Hid (OwnV wr w2.heap.size 29 5 v ((ks.take k).map (rowV pl di co ru pa da ca ua pc dc cc uc))) ∧ Hid (Ext w2 wr)) (fun _ i _ => ks.length - (intOf i).toNat)
  case atStart => exact ⟨0, rfl, Nat.zero_le _, hO3, hX3⟩
  clear hO3 hX3
  obtain ⟨k, rfl, hkk, hO, hX3⟩ := hrel
  by_cases hkl : k < ks.length
  · have hkl' : (k : Int) < ks.length := by omega
    obtain ⟨b1, o1, e1, c1, hz0, hz1⟩ := (hk.out.ext (hX2.out.trans hX3.out)) k hkl
    cases e1
    have htk := take_succ_getD2 ks k hkl
    have hsu : Hid ((ks.take (k + 1)).map (rowV pl di co ru pa da ca ua pc dc cc uc) = (ks.take k).map (rowV pl di co ru pa da ca ua pc dc cc uc) ++ [rowV pl di co ru pa da ca ua pc dc cc uc (ks.getD k 0)]) := by show _ = _; rw [← htk, List.map_append]; rfl
    have hln : Hid (((ks.take k).map (rowV pl di co ru pa da ca ua pc dc cc uc)).length < 2 ^ 39) := by show _ < _; rw [List.length_map, List.length_take]; omega
    generalize ks.getD k 0 = z at *
    generalize (ks.take k).map (rowV pl di co ru pa da ca ua pc dc cc uc) = J at *
    have hrl9 := hrul.out
    replace htk := hide htk
    clear hrl9
    have hX4 : Hid (Ext wr (wr.alloc (.cells (rowV pl di co ru pa da ca ua pc dc cc uc z).toArray 29))) := (Ext.refl _).alloc _
    have hG3 := hide (OwnV.ext hO.out hX4.out)
    have hsz3 : Hid (w2.heap.size ≤ (wr.alloc (.cells (rowV pl di co ru pa da ca ua pc dc cc uc z).toArray 29)).heap.size) := Nat.le_trans hX3.out.size hX4.out.size
    have hblk := hide (heap_alloc_new wr (.cells (rowV pl di co ru pa da ca ua pc dc cc uc z).toArray 29))
    simp only [rowV] at hblk hX4 hG3 hsz3
    go_wp2_with (at_builtin; refine app_col rfl rfl w2.heap.size hsz3.out _ J (rowV pl di co ru pa da ca ua pc dc cc uc z) rfl hG3.out wr.heap.size 1 (by rfl) hblk.out rfl (rowV_one _ _ _ _ _ _ _ _ _ _ _ _ _) hln.out ?_; intro g7 cap7 w7 O7 hgr7 hor7 hlt7; have hX7 : Hid (Ext w2 w7) := (hX3.out.trans hX4.out).grown hgr7 (fun q hq => (World.ownsRow.lt hG3.out.2 q hq).1); have hO7 := hide O7; clear O7 hgr7 hor7 hlt7)
    go_roundw
    case rel => exact ⟨k + 1, by go_num, by omega, by rw [hsu.out]; exact hO7.out, hX7.out⟩
    case measure => simp [intOf]; omega
  have hkl' : ¬ (k : Int) < ks.length := by omega
  obtain rfl : k = ks.length := by omega
  obtain ⟨ta, tcap, rfl, _⟩ := hO.out.form
  have hXw : Hid (Ext w wr) := hX2.out.trans hX3.out
  have hcols : Hid (ColsAt wr ta (rbC pl di co ru ks ks.length)) := fun i hi => by
    rw [rbC_len] at hi
    obtain ⟨g, off, ea, hcl⟩ := OwnV.rows hO.out i (by rw [List.length_map, List.length_take]; omega)
    have hrow : ((ks.take ks.length).map (rowV pl di co ru pa da ca ua pc dc cc uc)).getD i [] = rowV pl di co ru pa da ca ua pc dc cc uc (ks.getD i 0) := by
      rw [List.take_length, List.getD_eq_getElem?_getD, List.getElem?_map, List.getElem?_eq_getElem hi, List.getD_eq_getElem?_getD, List.getElem?_eq_getElem hi]
      rfl
    rw [hrow] at hcl
    rw [rbC_at _ _ _ _ _ _ hi]
    exact ⟨g, off, pa, da, ca, ua, pc, dc, cc, uc, ea, ⟨hcl 0 _ rfl, hcl 1 _ rfl, hcl 2 _ rfl, hcl 3 _ rfl, hcl 4 _ rfl⟩, ⟨hp.out.ext hXw.out, hdi.out.ext hX3.out, hc.out.ext hXw.out, hru2.out.ext hX3.out⟩, ⟨by simp only; omega, by simp only; have := hdl.out; omega, by simp only; omega, by simp only; have := hrul.out; omega⟩⟩
  have hcl : Hid ((rbC pl di co ru ks ks.length).length = ks.length) := rbC_len _ _ _ _ _
  obtain ⟨cs, hcs⟩ : ∃ cs, Hid (rbC pl di co ru ks ks.length = cs) := ⟨_, rfl⟩
  rw [hcs.out] at hcols hcl
  have hlm : ((ks.take ks.length).map (rowV pl di co ru pa da ca ua pc dc cc uc)).length = cs.length := by rw [List.length_map, List.take_length, hcl.out]
  rw [hlm]
  clear hO hkl hkk hlm hcs
  have hlc : Hid (cs.length < 2 ^ 39) := by have := hcl.out; show _ < _; omega
  have X4 : Hid (Ext w (wr.alloc (.cells #[.int .i64 n, .slice ta cs.length tcap] 34))) := hXw.out.alloc _
  have hB4 : Hid (Blk (wr.alloc (.cells #[.int .i64 n, .slice ta cs.length tcap] 34)) wr.heap.size 34 [.int .i64 n, .slice ta cs.length tcap]) := Blk.new wr _ _
  have hC4 := hide (hcols.out.ext ((Ext.refl wr).alloc (.cells #[.int .i64 n, .slice ta cs.length tcap] 34)))
  have hT := fun w => (TokAll x w).mono (fun _ _ h => toks_tk h)
  have hR := fun w => (RefTokenizeAll x _ rfl w).mono (fun _ _ h => toks_tk h)
  generalize (tokens x).getD [] = ts at *
  generalize (tokens x).isSome = ok at *
  replace hT := hide hT
  replace hR := hide hR
  have hok : (ok != ok) = false := by simp
  clear hcols
  go_wp2_with fail
  generalize (wr.alloc (.cells #[.int .i64 n, .slice ta cs.length tcap] 34)) = W4 at *
  generalize wr.heap.size = TT at *
  refine (hT.out W4).mono ?_
  rintro e w5 ⟨p1, q1, htl, rfl, hp1, x5⟩
  have X5 : Hid (Ext w w5) := X4.out.trans x5
  replace hB4 := hide (hB4.out.ext x5)
  replace hC4 := hide (hC4.out.ext x5)
  have hp1' := hide hp1
  clear hp1 x5
  go_wp2_with fail
  refine (hR.out w5).mono ?_
  rintro e w6 ⟨p2, q2, _, rfl, hp2, x6⟩
  have X6 : Hid (Ext w w6) := X5.out.trans x6
  replace hB4 := hide (hB4.out.ext x6)
  replace hC4 := hide (hC4.out.ext x6)
  have hp1'' := hide (hp1'.out.ext x6)
  have hp2' := hide hp2
  clear hp2 x6 hp1'
  go_wp2_with fail
  refine (TokensEqual_same ts p1 p2 q1 q2 w6 hp1'' hp2' (by omega)).mono ?_
  rintro e w7 ⟨rfl, x7⟩
  have X7 : Hid (Ext w w7) := X6.out.trans x7
  replace hB4 := hide (hB4.out.ext x7)
  replace hC4 := hide (hC4.out.ext x7)
  clear x7
  dsimp only
  go_wp2_with fail
  refine (parseAgrees x w7).mono ?_
  rintro e w8 ⟨rfl, x8⟩
  have X8 : Hid (Ext w w8) := X7.out.trans x8
  replace hB4 := hide (hB4.out.ext x8)
  replace hC4 := hide (hC4.out.ext x8)
  clear x8
  have t0 := hB4.out.box 0 _ rfl
  have t1 := hB4.out.box 1 _ rfl
  have hTT := hB4.out.lt
  go_wp2_with fail
  refine Dr.region_held (fun b => b = TT) [0, 2] (by kernel_rfl) ?_
  refine Dr.held_q1 (by rfl) ?_
  go_wp2_with fail
  refine Dr.held_act (by rfl) (by rfl) ?_
  go_wp2_with fail
  refine (ValidTable cs n ta tcap w8.drew (hC4.out.ext (Ext.refl w8).drew) (by have := hlc.out; omega)).mono ?_
  rintro e w9 ⟨v1, rfl, hv1, x9⟩
  refine ⟨fun b hb => x9.block b (by have h2 : b = TT := hb; simp only [World.drew]; omega), ?_⟩
  have X9 : Hid (Ext w8 w9) := (Ext.refl w8).drew.trans x9
  have hB9 := hide (hB4.out.ext X9.out)
  have hC9 := hide (hC4.out.ext X9.out)
  replace hv1 := hide hv1
  clear x9 t0 t1
  have t0 := hB9.out.box 0 _ rfl
  have t1 := hB9.out.box 1 _ rfl
  have hT9 := hB9.out.lt
  refine Dr.held_q1 (by rfl) ?_
  go_wp2_with fail
  refine Dr.held_act (by rfl) (by rfl) ?_
  go_wp2_with fail
  refine (RefValidTable cs n ta tcap w9 hC9.out (by have := hlc.out; omega)).mono ?_
  rintro e w10 ⟨v2, rfl, hv2, x10⟩
  refine ⟨fun b hb => x10.block b (by have h2 : b = TT := hb; omega), ?_⟩
  have hvv : v1 = v2 := by
    have h1 := hv1.out
    cases v1 with
    | true => exact (hv2.2 (h1.1 rfl)).symm
    | false =>
      cases v2 with
      | false => rfl
      | true => exact absurd (h1.2 (hv2.1 rfl)) (by decide)
  subst hvv
  have X10 : Hid (Ext w w10) := (X8.out.trans X9.out).trans x10
  have hB10 := hide (hB9.out.ext x10)
  have hC10 := hide (hC9.out.ext x10)
  have hvb : (v1 != v1) = false := by simp
  clear hv1 hv2 x10 t0 t1 hB4 hC4 hB9 hC9 X9 hT9 hTT
  have t0 := hB10.out.box 0 _ rfl
  have t1 := hB10.out.box 1 _ rfl
  refine Dr.held_q1 (by rfl) ?_
  go_wp2_with fail
  refine Dr.held_nil (by rfl) ⟨fun _ => ⟨TT, 0, rfl, rfl, Dr.isCells_of t0⟩, fun _ => ⟨TT, 0, rfl, rfl, Dr.isCells_of t0⟩, trivial⟩ ?_
  go_wp2_with fail
  refine (Execute x cs n ta tcap w10 hC10 hlc.out).mono ?_
  rintro e w11 ⟨x11, ⟨hr1, rfl⟩ | ⟨c, xs, a, cap, hr1, rfl, hi, hlen⟩⟩
  · have X11 : Hid (Ext w (w11.alloc (.cells #[.int .i64 0, .slice none 0 0] 42))) := (X10.out.trans x11).alloc _
    have hC11 := hide ((hC10.out.ext x11).ext ((Ext.refl w11).alloc (.cells #[.int .i64 0, .slice none 0 0] 42)))
    have hB11 := hide ((hB10.out.ext x11).alloc (.cells #[.int .i64 0, .slice none 0 0] 42))
    have hZ11 : Hid (Blk (w11.alloc (.cells #[.int .i64 0, .slice none 0 0] 42)) w11.heap.size 42 rsz) := Blk.new w11 _ _
    replace hr1 := hide hr1
    clear x11 t0 t1 hB10 hC10 X10
    have t0 := hB11.out.box 0 _ rfl
    have t1 := hB11.out.box 1 _ rfl
    go_wp2_with fail
    generalize (w11.alloc (.cells #[.int .i64 0, .slice none 0 0] 42)) = W11 at *
    generalize w11.heap.size = ZZ at *
    refine (RefExecute x cs n ta tcap W11 hC11 hlc.out).mono ?_
    rintro e w12 ⟨x12, ⟨hr2, rfl⟩ | ⟨c, xs, a, cap, hr2, rfl, hi, _⟩⟩
    · have X12 : Hid (Ext w (w12.alloc (.cells #[.int .i64 0, .slice none 0 0] 42))) := (X11.out.trans x12).alloc _
      have hZ12 := hide ((hZ11.out.ext x12).alloc (.cells #[.int .i64 0, .slice none 0 0] 42))
      have hY12 : Hid (Blk (w12.alloc (.cells #[.int .i64 0, .slice none 0 0] 42)) w12.heap.size 42 rsz) := Blk.new w12 _ _
      have z0 := hZ12.out.box 0 _ rfl
      have z1 := hZ12.out.box 1 _ rfl
      have y0 := hY12.out.box 0 _ rfl
      have y1 := hY12.out.box 1 _ rfl
      clear x12 t0 t1 hr2
      go_wp2_with fail
      generalize (w12.alloc (.cells #[.int .i64 0, .slice none 0 0] 42)) = W12 at *
      refine (ResultEqual_same 0 [] none none 0 0 W12 (IntsAt.nil _ _) (IntsAt.nil _ _) (by simp)).mono ?_
      rintro e w13 ⟨rfl, x13⟩
      have X13 : Hid (Ext w w13) := X12.out.trans x13
      clear x13 z0 z1 y0 y1
      dsimp only
      go_wp2
      go_ret
      exact ⟨rfl, X13.out⟩
    · cases hr1.out.det hr2
  · replace hlen := hide hlen
    have X11 : Hid (Ext w (w11.alloc (.cells #[.int .i64 c, .slice a xs.length cap] 42))) := (X10.out.trans x11).alloc _
    have hC11 := hide ((hC10.out.ext x11).ext ((Ext.refl w11).alloc (.cells #[.int .i64 c, .slice a xs.length cap] 42)))
    have hB11 := hide ((hB10.out.ext x11).alloc (.cells #[.int .i64 c, .slice a xs.length cap] 42))
    have hZ11 : Hid (Blk (w11.alloc (.cells #[.int .i64 c, .slice a xs.length cap] 42)) w11.heap.size 42 [.int .i64 c, .slice a xs.length cap]) := Blk.new w11 _ _
    have hi11 := hide (hi.ext ((Ext.refl w11).alloc (.cells #[.int .i64 c, .slice a xs.length cap] 42)))
    replace hr1 := hide hr1
    clear x11 t0 t1 hB10 hC10 X10 hi
    have t0 := hB11.out.box 0 _ rfl
    have t1 := hB11.out.box 1 _ rfl
    go_wp2_with fail
    generalize (w11.alloc (.cells #[.int .i64 c, .slice a xs.length cap] 42)) = W11 at *
    generalize w11.heap.size = ZZ at *
    refine (RefExecute x cs n ta tcap W11 hC11 hlc.out).mono ?_
    rintro e w12 ⟨x12, ⟨hr2, rfl⟩ | ⟨c2, xs2, a2, cap2, hr2, rfl, hi2, _⟩⟩
    · cases hr1.out.det hr2
    · have he := hr1.out.det hr2
      injection he with he
      injection he with he1 he2
      subst he1
      subst he2
      have X12 : Hid (Ext w (w12.alloc (.cells #[.int .i64 c, .slice a2 xs.length cap2] 42))) := (X11.out.trans x12).alloc _
      have hZ12 := hide ((hZ11.out.ext x12).alloc (.cells #[.int .i64 c, .slice a2 xs.length cap2] 42))
      have hY12 : Hid (Blk (w12.alloc (.cells #[.int .i64 c, .slice a2 xs.length cap2] 42)) w12.heap.size 42 [.int .i64 c, .slice a2 xs.length cap2]) := Blk.new w12 _ _
      have hi12 := hide ((hi11.out.ext x12).ext ((Ext.refl w12).alloc (.cells #[.int .i64 c, .slice a2 xs.length cap2] 42)))
      have hj12 := hide (hi2.ext ((Ext.refl w12).alloc (.cells #[.int .i64 c, .slice a2 xs.length cap2] 42)))
      have z0 := hZ12.out.box 0 _ rfl
      have z1 := hZ12.out.box 1 _ rfl
      have y0 := hY12.out.box 0 _ rfl
      have y1 := hY12.out.box 1 _ rfl
      clear x12 t0 t1 hr2 hi2
      go_wp2_with fail
      generalize (w12.alloc (.cells #[.int .i64 c, .slice a2 xs.length cap2] 42)) = W12 at *
      refine (ResultEqual_same c xs a a2 cap cap2 W12 hi12 hj12 hlen.out).mono ?_
      rintro e w13 ⟨rfl, x13⟩
      have X13 : Hid (Ext w w13) := X12.out.trans x13
      clear x13 z0 z1 y0 y1
      dsimp only
      go_wp2
      go_ret
      exact ⟨rfl, X13.out⟩
end Go.Proofs.Ybyabw
