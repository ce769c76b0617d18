/- Walk: laws.FnExactBuildTable -/
import Derived.Test.YbyabwTabSep
import Derived.Test.YbyabwRowM
import Derived.Test.YbyabwRefBldTab
import Derived.Test.YbyabwTabW
namespace Go.Proofs.Ybyabw
open Go.RowKit
set_option maxRecDepth 100000
set_option linter.unusedVariables false

set_option maxHeartbeats 4000000 in
theorem scRowsT (n : Nat) (f : Nat → List Int) (a : Option Addr) (cap base top : Nat) (w : World) (h : OwnRows w base top a cap n f) (hl : Hid (∀ i, i < n → (f i).length < 2 ^ 39)) (ln : n < 2 ^ 39) (hb : base ≤ w.heap.size) :
    Calls Yabn.prog 48 #[.slice a n cap] w (RetB base top w) := by
  obtain ⟨ss, lo, hi, g, h1, h2, h3, h4⟩ := h
  replace h1 := hide h1
  replace h2 := hide h2
  replace h3 := hide h3
  replace h4 := hide h4
  go_enter Yabn.func48, Yabn.ntmps48
  go_wp2
  go_loopw [2] (fun i wr => ∃ (k : Nat), i = .int .i64 k ∧ k ≤ n ∧ Hid (RowsF wr ss f lo hi k n) ∧ Hid (But (fun q => 0 < n ∧ g < q ∧ q < top) w wr)) (fun i _ => n - (intOf i).toNat)
  case atStart => exact ⟨0, rfl, by omega, h2, But.refl _ _⟩
  clear h2
  obtain ⟨k, rfl, hk, hrows, hbut⟩ := hrel
  by_cases hlt : k < n
  · have hlt' : (k : Int) < n := by omega
    have ho := hbut.out.row h1.out (fun q hq hh => by have := (h4.out q hq).1; have := hh.2.1; omega)
    obtain ⟨g', eg, gk⟩ := ownsRow_cell ho k hlt
    subst eg
    obtain ⟨p, q, e, hp, ht⟩ := hrows.out k (Nat.le_refl _) hlt
    rw [e] at gk
    have hlk := hide (hl.out k hlt)
    have hab := h3.out.above k hlt
    have hbw := h3.out.below k hlt
    have hnx : ∀ w1, But (Rng (lo k) (hi k)) wr w1 → RowsF w1 ss f lo hi (k + 1) n := fun w1 b1 => (hrows.out.from (by omega)).but b1 (fun i k1 k2 q q1 q2 q3 => by have := h3.out.ord k i (by omega) k2; have := q3.2; omega) (fun _ _ _ => rfl) (fun _ _ _ => rfl)
    replace hnx := hide hnx
    replace hp := hide hp
    replace ht := hide ht
    generalize f k = xs at *
    clear ho e
    go_wp2_with fail
    refine (scI64 xs p q (lo k) wr hp hlk.out).mono ?_
    rintro e w1 ⟨rfl, g1⟩
    have b1 : Hid (But (Rng (lo k) (hi k)) wr w1) := But.of_grown g1 (fun z hz => ⟨hp.out.block z hz, ht.out z hz⟩)
    clear g1
    go_wp2
    go_roundw
    case rel => exact ⟨k + 1, by go_num, by omega, hnx.out w1 b1.out, hbut.out.trans (b1.out.mono (fun z hz => ⟨by omega, by have := hz.1; omega, by have := hz.2; omega⟩))⟩
    case measure => simp [intOf]; omega
  · obtain rfl : k = n := by omega
    clear hlt hk
    have hfin : Hid (But (Rng base top) w wr) := by
      refine hbut.out.mono (fun q hq => ⟨?_, hq.2.2⟩)
      obtain ⟨g', eg, _⟩ := ownsRow_cell h1.out 0 hq.1
      subst eg
      have e := (h4.out g' rfl).1
      have := (World.ownsRow.lt h1.out g' rfl).1
      have := hq.2.1
      omega
    go_wp2
    go_end0
    exact ⟨rfl, hfin.out⟩


def szR (f : Nat → List Int) : Nat → Nat
  | 0 => 0
  | k + 1 => szR f k + (f k).length
theorem szR_le (f : Nat → List Int) : ∀ (m k : Nat), szR f k ≤ szR f (k + m)
  | 0, k => Nat.le_refl _
  | m + 1, k => by
    have := szR_le f m k
    rw [← Nat.add_assoc]
    simp only [szR]
    omega
theorem szR_all (f : Nat → List Int) (k n : Nat) (h : k ≤ n) : szR f k ≤ szR f n := by
  have := szR_le f (n - k) k
  rwa [Nat.add_sub_cancel' h] at this
theorem szR_len (f : Nat → List Int) (i n : Nat) (h : i < n) : (f i).length ≤ szR f n := by
  have h2 := szR_all f (i + 1) n h
  simp only [szR] at h2
  omega

set_option maxHeartbeats 2000000 in
theorem szRows (n : Nat) (f : Nat → List Int) (a : Option Addr) (cap : Nat) (w : World) (h : Hid (IRows w a n f)) (T : Nat) (hTe : Hid (T = n + szR f n)) (hTb : Hid (T ≤ 1048576)) :
    Calls Yabn.prog 40 #[.slice a n cap] w (RetIE T w) := by
  have hT : Hid (n + szR f n ≤ 1048576) := by simp only [Hid]; have := hTe.out; have := hTb.out; omega
  have hcl : n ≤ 1048576 := by have := hT.out; omega
  go_enter Yabn.func40, Yabn.ntmps40
  go_wp2
  go_loopw [3, 4] (fun s i wr => ∃ (k t : Nat), s = .int .i64 t ∧ i = .int .i64 k ∧ k ≤ n ∧ Hid (t = n + szR f k) ∧ Hid (Ext w wr)) (fun _ i _ => n - (intOf i).toNat)
  case atStart => exact ⟨0, n, rfl, rfl, by omega, (by simp [Hid, szR]), Ext.refl w⟩
  obtain ⟨k, t, rfl, rfl, hk, ht, hext⟩ := hrel
  have htb : t ≤ 1048576 := by have := ht.out; have := hT.out; have := szR_all f k n hk; omega
  have htI : (t : Int) ≤ 1048576 := by omega
  by_cases hlt : k < n
  · have hlt' : (k : Int) < n := by omega
    obtain ⟨b, off, p, q, rfl, g1, _⟩ := (h.out.ext hext.out) k hlt
    have hs3 := szR_all f (k + 1) n hlt
    have hnt : Hid (t + (f k).length = n + szR f (k + 1)) := by simp only [Hid, szR]; have := ht.out; omega
    have hub : t + (f k).length ≤ 1048576 := by have := hnt.out; have := hT.out; omega
    clear hs3
    generalize (f k).length = L at *
    go_wp2
    go_roundw
    case rel => exact ⟨k + 1, t + L, by go_num, by go_num, by omega, hnt.out, hext.out⟩
    case measure => simp [intOf]; omega
  · obtain rfl : k = n := by omega
    obtain rfl : t = T := ht.out.trans hTe.out.symm
    clear hlt hk
    go_wp2
    go_ret
    exact ⟨rfl, hext.out⟩


set_option maxHeartbeats 32000000 in
theorem fnExactBuildTable_main (n : Nat) (f : Nat → List Int) (ks : List Int) (a ak : Option Addr) (c ck : Nat) (w : World) (h : Hid (IRows w a n f)) (hk : Hid (IntsAt w ak ks)) (hWF : Hid (∀ i, i < n → (f i).length < 2 ^ 45))
    (hn1 : (n : Int) ≤ 1048576) (hk1 : (ks.length : Int) ≤ 1048576)
    (N : Int) (cs : List Col) (B : Bool) (lc2 : cs.length < 2 ^ 39) (hl : Hid (∀ i, i < cs.length → LenC (cs.getD i col0)))
    (hI : Hid (∀ a ak c ck w, IRows w a n f → IntsAt w ak ks → (∀ i, i < n → (f i).length < 2 ^ 39) → Calls Yabn.prog 44 #[.slice a n c, .slice ak ks.length ck] w (RetTO N cs B w)))
    (hS : Hid (∀ a ak c ck w, IRows w a n f → IntsAt w ak ks → (∀ i, i < n → (f i).length < 2 ^ 39) → Calls Yabn.prog 41 #[.slice a n c, .slice ak ks.length ck] w (RetTD N cs B w))) :
    Calls Yabn.prog 10 #[.slice a n c, .slice ak ks.length ck] w (TrueE w) := by
  go_enter Yabn.func10, Yabn.ntmps10
  go_wp2
  go_loopw [5, 6] (fun s i wr => ∃ (k t : Nat), s = .int .i64 t ∧ i = .int .i64 k ∧ k ≤ n ∧ Hid (t = n + szR f k) ∧ t ≤ 1048576 ∧ Hid (Ext w wr)) (fun _ i _ => n - (intOf i).toNat)
  case atStart => exact ⟨0, n, by go_num, rfl, by omega, (by simp [Hid, szR]), by omega, Ext.refl w⟩
  obtain ⟨k, t, rfl, rfl, hkn, ht, htb, hext⟩ := hrel
  have htI : (t : Int) ≤ 1048576 := by omega
  by_cases hlt : k < n
  · have hlt' : (k : Int) < n := by omega
    obtain ⟨b, off, p, q, rfl, g1, _⟩ := (h.out.ext hext.out) k hlt
    have hnt : Hid (t + (f k).length = n + szR f (k + 1)) := by simp only [Hid, szR]; have := ht.out; omega
    have l1 := hWF.out k hlt
    generalize (f k).length = L at *
    by_cases hov : 1048576 < (t : Int) + L
    · go_wp2
      go_ret
      exact ⟨rfl, hext.out⟩
    · go_wp2
      go_roundw
      case rel => exact ⟨k + 1, t + L, by go_num, by go_num, by omega, hnt.out, by omega, hext.out⟩
      case measure => simp [intOf]; omega
  obtain rfl : k = n := by omega
  obtain ⟨n, rfl⟩ : ∃ n, n = k := ⟨_, rfl⟩
  clear hlt hkn
  have hF : Hid (∀ i, i < n → (f i).length < 2 ^ 39) := fun i hi => by
    have h1 := szR_len f i n hi
    have h2 := ht.out
    omega
  have hN : n < 2 ^ 39 := by omega
  have lk : ks.length < 2 ^ 39 := by omega
  clear hWF
  obtain ⟨V0, rfl⟩ : ∃ V0, V0 = wr := ⟨_, rfl⟩
  replace htb := hide htb
  go_wp2_with fail
  refine (szRows n f a c V0 (h.out.ext hext.out) t ht htb).mono ?_
  rintro e w1 ⟨rfl, x1⟩
  have X1 : Hid (Ext w w1) := hext.out.trans x1
  clear x1 hext
  go_wp2_with fail
  refine (cpRows n f a c false w1 (h.out.ext X1.out) hF hN).mono ?_
  rintro e w2 ⟨pb, qb, rfl, OR, x2⟩
  have hR2 := hide OR.at
  have X2 : Hid (Ext w w2) := X1.out.trans x2
  clear OR x2 X1
  go_wp2_with fail
  refine (cpInt ks ak ck false w2 (hk.out.ext X2.out) lk).mono ?_
  rintro e w3 ⟨pc, qc, rfl, OK, x3⟩
  have hR3 := hide (hR2.out.ext x3)
  have hK3 := hide (OwnI.ints OK)
  have X3 : Hid (Ext w w3) := X2.out.trans x3
  clear OK x3 X2 hR2
  go_wp2_with fail
  refine (hS.out pb pc qb qc w3 hR3.out hK3.out hF.out).mono ?_
  rintro e w4 ⟨pw, qw, rfl, hC4, x4⟩
  have hbT : Box (w4.alloc (.cells #[.int .i64 N, .slice pw cs.length qw] 34)) w4.heap.size _ := Box.new w4 _ _
  have X4 : Hid (Ext w (w4.alloc (.cells #[.int .i64 N, .slice pw cs.length qw] 34))) := (X3.out.trans x4).alloc _
  have hC5 := hide (hC4.ext ((Ext.refl w4).alloc (.cells #[.int .i64 N, .slice pw cs.length qw] 34)))
  replace hbT := hide hbT
  clear x4 X3 hR3 hK3 hC4 hS
  go_wp2_with fail
  generalize (w4.alloc (.cells #[.int .i64 N, .slice pw cs.length qw] 34)) = w5 at *
  generalize w4.heap.size = T4 at *
  refine (cvTable cs N pw qw w5 hC5 hl lc2).mono ?_
  rintro e w6 ⟨pe, qe, rfl, hC6, x6⟩
  have hbE : Box (w6.alloc (.cells #[.int .i64 N, .slice pe cs.length qe] 69)) w6.heap.size _ := Box.new w6 _ _
  have X6 : Hid (Ext w (w6.alloc (.cells #[.int .i64 N, .slice pe cs.length qe] 69))) := (X4.out.trans x6).alloc _
  have hcE := hide (hC6.ext ((Ext.refl w6).alloc (.cells #[.int .i64 N, .slice pe cs.length qe] 69)))
  have hsE : w6.heap.size < (w6.alloc (.cells #[.int .i64 N, .slice pe cs.length qe] 69)).heap.size := by simp
  have hbb : (B != B) = false := by simp
  replace hbE := hide hbE
  clear x6 X4 hbT hC5 hC6
  go_wp2_with fail
  generalize (w6.alloc (.cells #[.int .i64 N, .slice pe cs.length qe] 69)) = V at *
  generalize w6.heap.size = E at *
  go_loopw [10] (fun i wr => ∃ k : Nat, i = .int .i64 k ∧ k ≤ 2 ∧ Hid (Ext V wr)) (fun i _ => 2 - (intOf i).toNat)
  case atStart => exact ⟨0, rfl, by omega, Ext.refl V⟩
  obtain ⟨k, rfl, hkk, XW⟩ := hrel
  by_cases hk2 : k < 2
  · have hk2' : (k : Int) < 2 := by omega
    generalize hne : ((k : Int) == 1) = ne
    replace hne := hide hne
    obtain ⟨W, rfl⟩ : ∃ W, W = wr := ⟨_, rfl⟩
    have hbEW := hide (hbE.out.ext XW.out)
    have hcEW := hide (hcE.out.ext XW.out)
    have XwW : Hid (Ext w W) := X6.out.trans XW.out
    have zW := XW.out.size
    go_wp2_with fail
    rw [hne.out]
    refine (cpRows n f a c ne W (h.out.ext XwW.out) hF hN).mono ?_
    rintro e w1 ⟨pa, qa, rfl, OA, x1⟩
    have z1 := x1.size
    replace OA := hide OA
    replace x1 := hide x1
    go_wp2_with fail
    refine (cpInt ks ak ck ne w1 (hk.out.ext (XwW.out.trans x1.out)) lk).mono ?_
    rintro e w2 ⟨pk, qk, rfl, OK, x2⟩
    have z2 := x2.size
    have OA2 := hide (OA.out.ext x2)
    replace OK := hide OK
    replace x2 := hide x2
    go_wp2_with fail
    refine (hI.out pa pk qa qk w2 OA2.out.at OK.out.ints hF.out).mono ?_
    rintro e w3 ⟨pg, qg, rfl, OG, x3⟩
    have z3 := x3.size
    have hbG : Box (w3.alloc (.cells #[.int .i64 N, .slice pg cs.length qg] 34)) w3.heap.size _ := Box.new w3 _ _
    have xWU : Ext W (w3.alloc (.cells #[.int .i64 N, .slice pg cs.length qg] 34)) := ((x1.out.trans x2.out).trans x3).alloc _
    have hsU : (w3.alloc (.cells #[.int .i64 N, .slice pg cs.length qg] 34)).heap.size = w3.heap.size + 1 := by simp
    obtain ⟨rows, lo, hi, gg, TG0, hsp, hq0⟩ := OG.tg
    have TGU := hide (TG0.ext ((Ext.refl w3).alloc (.cells #[.int .i64 N, .slice pg cs.length qg] 34)))
    have OAU := hide (OA2.out.ext (x3.alloc (.cells #[.int .i64 N, .slice pg cs.length qg] 34)))
    have OKU := hide (OK.out.ext (x3.alloc (.cells #[.int .i64 N, .slice pg cs.length qg] 34)))
    replace hbG := hide hbG
    replace xWU := hide xWU
    replace hsp := hide hsp
    replace hq0 := hide hq0
    have okb : Hid (∀ q, (Value.slice pk ks.length qk).ownBlock = some q → Rng w1.heap.size w2.heap.size q) := fun q hq => ⟨(World.ownsRow.lt OK.out q hq).1, (World.ownsRow.lt OK.out q hq).2⟩
    clear x3 x2 x1 OG TG0 OA OA2 OK
    go_wp2
    generalize (w3.alloc (.cells #[.int .i64 N, .slice pg cs.length qg] 34)) = U at *
    generalize w3.heap.size = G at *
    have hbEU := hide (hbEW.out.ext xWU.out)
    have hcEU := hide (hcEW.out.ext xWU.out)
    have hcG := hide (TGU.out.at hl.out)
    have XwU : Hid (Ext w U) := XwW.out.trans xWU.out
    have hsc : ∀ w', TG 27 29 w' w2.heap.size G (.slice pg cs.length qg) rows (fun i => (cs.map incC).getD i col0) lo hi cs.length → G ≤ w'.heap.size → Calls Yabn.prog 39 #[.agg #[.int .i64 N, .slice pg cs.length qg]] w' (RetB w2.heap.size G w') := fun w' t hz => by
      have hcl : (cs.map incC).length = cs.length := by simp
      have hl3 : Hid (∀ i, i < (cs.map incC).length → LenC ((cs.map incC).getD i col0)) := fun i hi' => by rw [getD_map_inc]; exact (hl.out i (by omega)).inc
      have hP : OwnTabP w' w2.heap.size G pg qg (cs.map incC) := TG.tabP (rows := rows) (lo := lo) (hi := hi) (g := gg) (by rw [hcl]; exact t) (by rw [hcl]; exact hsp.out) (by rw [hcl]; exact hq0.out)
      have := scTableT (cs.map incC) N pg qg w2.heap.size G w' hP.tabT hz hl3 (by omega)
      rw [hcl] at this
      exact this
    replace hsc := hide hsc
    have k0 := hbG.out 0 _ rfl
    have k1 := hbG.out 1 _ rfl
    refine Dr.region_held (fun b => b = E) [6] (by kernel_rfl) ?_
    refine Dr.held_q5 (by rfl) ?_
    go_wp2
    refine Dr.held_act (by rfl) (by rfl) ?_
    go_wp2_with fail
    clear k0 k1
    refine (cvTable cs N pg qg _ (hcG.out.ext (Ext.refl _).drew) hl lc2).mono ?_
    rintro e v1 ⟨pr, qr, rfl, f1, x1⟩
    have y1 : Hid (Ext U v1) := (Ext.refl _).drew.trans x1
    have zz1 := y1.out.size
    refine ⟨fun b hb => x1.block b (by simp only at hb; simp only [World.drew]; omega), ?_⟩
    replace f1 := hide f1
    clear x1
    have k0 := (hbEU.out.ext y1.out) 0 _ rfl
    have k1 := (hbEU.out.ext y1.out) 1 _ rfl
    refine Dr.held_q1 (by rfl) ?_
    go_wp2
    refine Dr.held_act (by rfl) (by rfl) ?_
    go_wp2_with fail
    refine (eqLTable cs N pr pe qr qe v1 f1 (hcEU.out.ext y1.out) hl lc2).mono ?_
    rintro e v2 ⟨rfl, x2⟩
    refine ⟨fun b hb => x2.block b (by simp only at hb; omega), ?_⟩
    have k7 := x2.cell k0
    clear k0 k1 f1
    have y2 : Hid (Ext U v2) := y1.out.trans x2
    have zz2 := y2.out.size
    clear x2 y1 zz1
    refine Dr.held_q5 (by rfl) ?_
    go_wp2
    refine Dr.held_act (by rfl) (by rfl) ?_
    go_wp2_with fail
    refine (eqRows n f pa a qa c v2 (OAU.out.at.ext y2.out) (h.out.ext (XwU.out.trans y2.out)) hF hN).mono ?_
    rintro e v3 ⟨rfl, x3⟩
    refine ⟨fun b hb => x3.block b (by simp only at hb; omega), ?_⟩
    have k8 := x3.cell k7
    replace y2 := hide (y2.out.trans x3)
    clear x3 k7
    have zz3 := y2.out.size
    refine Dr.held_q5 (by rfl) ?_
    go_wp2
    refine Dr.held_act (by rfl) (by rfl) ?_
    go_wp2_with fail
    refine (eqInt ks pk ak qk ck v3 (OKU.out.ints.ext y2.out) (hk.out.ext (XwU.out.trans y2.out)) lk).mono ?_
    rintro e v4 ⟨rfl, x4⟩
    refine ⟨fun b hb => x4.block b (by simp only at hb; omega), ?_⟩
    have k9 := x4.cell k8
    replace y2 := hide (y2.out.trans x4)
    clear x4 k8 zz3 zz2
    refine Dr.held_q2 (by rfl) ?_
    go_wp2
    refine Dr.held_nil (by rfl) ⟨fun _ => ⟨E, 0, rfl, rfl, Dr.isCells_of k9⟩, trivial⟩ ?_
    clear k9
    go_wp2
    have tM := hide (TGU.out.ext y2.out)
    have bM : Hid (But (Rng w2.heap.size G) U v4) := But.of_ext y2.out
    clear y2
    go_loopw [16] (fun i wr => ∃ m : Nat, i = .int .i64 m ∧ m ≤ 2 ∧ Hid (TG 27 29 wr w2.heap.size G (.slice pg cs.length qg) rows (fun i => cs.getD i col0) lo hi cs.length) ∧ Hid (But (Rng w2.heap.size G) U wr)) (fun i _ => 2 - (intOf i).toNat)
    case atStart => exact ⟨0, rfl, by omega, tM, bM⟩
    clear tM bM
    obtain ⟨m, rfl, hm, tM, bM⟩ := hrel
    have zM := bM.out.size
    have hbGM := hide (bM.out.box hbG.out (by omega) (fun hr => by have := hr.2; omega))
    by_cases hm2 : m < 2
    · have hm2' : (m : Int) < 2 := by omega
      have k0 := hbGM.out 0 _ rfl
      have k1 := hbGM.out 1 _ rfl
      go_wp2_with fail
      clear k0 k1
      refine (prTable cs.length N _ rows lo hi pg qg w2.heap.size G m (by omega) (by omega) wr tM (by omega) hl lc2).mono ?_
      rintro e w7 ⟨rfl, t7, b7⟩
      have B7 : Hid (But (Rng w2.heap.size G) U w7) := bM.out.trans b7
      replace t7 := hide t7
      have z7 := B7.out.size
      have hbG7 := hide (B7.out.box hbG.out (by omega) (fun hr => by have := hr.2; omega))
      have xW7 : Hid (Ext W w7) := But.ext ((But.of_ext xWU.out).trans B7.out) (fun k hr => by have := hr.1; omega)
      have hbE7 := hide (hbEW.out.ext xW7.out)
      have hcE7 := hide (hcEW.out.ext xW7.out)
      have hcG7 := hide (t7.out.at hl.out)
      have Xw7 : Hid (Ext w w7) := XwW.out.trans xW7.out
      have OA7 := hide (OAU.out.but B7.out (fun q q1 q2 hr => by have := hr.1; omega))
      have OK7 := hide (OKU.out.butS B7.out (fun q hq hr => by have := hr.1; have := (okb.out q hq).2; omega))
      clear b7 tM bM hbGM zM
      go_wp2
      have k0 := hbG7.out 0 _ rfl
      have k1 := hbG7.out 1 _ rfl
      refine Dr.region_held (fun b => b = E) [2] (by kernel_rfl) ?_
      refine Dr.held_q1 (by rfl) ?_
      go_wp2
      refine Dr.held_act (by rfl) (by rfl) ?_
      go_wp2_with fail
      clear k0 k1
      refine (cvTable cs N pg qg _ (hcG7.out.ext (Ext.refl _).drew) hl lc2).mono ?_
      rintro e v1 ⟨pr, qr, rfl, f1, x1⟩
      have y1 : Hid (Ext w7 v1) := (Ext.refl _).drew.trans x1
      have zz1 := y1.out.size
      refine ⟨fun b hb => x1.block b (by simp only at hb; simp only [World.drew]; omega), ?_⟩
      replace f1 := hide f1
      clear x1
      have k0 := (hbE7.out.ext y1.out) 0 _ rfl
      have k1 := (hbE7.out.ext y1.out) 1 _ rfl
      refine Dr.held_q1 (by rfl) ?_
      go_wp2
      refine Dr.held_act (by rfl) (by rfl) ?_
      go_wp2_with fail
      refine (eqLTable cs N pr pe qr qe v1 f1 (hcE7.out.ext y1.out) hl lc2).mono ?_
      rintro e v2 ⟨rfl, x2⟩
      refine ⟨fun b hb => x2.block b (by simp only at hb; omega), ?_⟩
      have k7 := x2.cell k0
      clear k0 k1 f1
      have y2 : Hid (Ext w7 v2) := y1.out.trans x2
      have zz2 := y2.out.size
      clear x2 y1 zz1
      refine Dr.held_q4 (by rfl) ?_
      go_wp2
      refine Dr.held_act (by rfl) (by rfl) ?_
      go_wp2_with fail
      refine (eqRows n f pa a qa c v2 (OA7.out.at.ext y2.out) (h.out.ext (Xw7.out.trans y2.out)) hF hN).mono ?_
      rintro e v3 ⟨rfl, x3⟩
      refine ⟨fun b hb => x3.block b (by simp only at hb; omega), ?_⟩
      have k8 := x3.cell k7
      replace y2 := hide (y2.out.trans x3)
      clear x3 k7
      have zz3 := y2.out.size
      refine Dr.held_q5 (by rfl) ?_
      go_wp2
      refine Dr.held_act (by rfl) (by rfl) ?_
      go_wp2_with fail
      refine (eqInt ks pk ak qk ck v3 (OK7.out.ints.ext y2.out) (hk.out.ext (Xw7.out.trans y2.out)) lk).mono ?_
      rintro e v4 ⟨rfl, x4⟩
      refine ⟨fun b hb => x4.block b (by simp only at hb; omega), ?_⟩
      have k9 := x4.cell k8
      replace y2 := hide (y2.out.trans x4)
      clear x4 k8 zz3 zz2
      refine Dr.held_q2 (by rfl) ?_
      go_wp2
      refine Dr.held_nil (by rfl) ⟨fun _ => ⟨E, 0, rfl, rfl, Dr.isCells_of k9⟩, trivial⟩ ?_
      clear k9
      go_wp2
      go_roundw
      case rel => exact ⟨m + 1, by go_num, by omega, t7.out.ext y2.out, B7.out.trans (But.of_ext y2.out)⟩
      case measure => simp [intOf]; omega
    · obtain rfl : m = 2 := by omega
      clear hm hm2
      have OAM := hide (OAU.out.but bM.out (fun q q1 q2 hr => by have := hr.1; omega))
      have OKM := hide (OKU.out.butS bM.out (fun q hq hr => by have := hr.1; have := (okb.out q hq).2; omega))
      have xWM : Hid (Ext W wr) := But.ext ((But.of_ext xWU.out).trans bM.out) (fun k hr => by have := hr.1; omega)
      clear bM
      go_wp2_with fail
      refine (scRowsT n f pa qa W.heap.size w1.heap.size wr OAM.out hF hN (by omega)).mono ?_
      rintro e w8 ⟨rfl, b8⟩
      have t8 := hide (tM.out.but b8 (fun q q1 q2 hr => by have := hr.2; omega))
      have OK8 := hide (OKM.out.butS b8 (fun q hq hr => by have := hr.2; have := (okb.out q hq).1; omega))
      have hbG8 := hide (b8.box hbGM.out (by omega) (fun hr => by have := hr.2; omega))
      have xW8 : Hid (Ext W w8) := But.ext ((But.of_ext xWM.out).trans b8) (fun k hr => hr.1)
      have z8 := b8.size
      clear b8 tM OAM OKM xWM hbGM
      go_wp2_with fail
      refine (scInt ks pk qk w1.heap.size w8 OK8 lk).mono ?_
      rintro e w9 ⟨rfl, g9⟩
      have b9 : But (Rng w1.heap.size w2.heap.size) w8 w9 := But.of_grown g9 (fun q hq => okb.out q hq)
      have t9 := hide (t8.out.but b9 (fun q q1 q2 hr => by have := hr.2; omega))
      have hbG9 := hide (b9.box hbG8.out (by omega) (fun hr => by have := hr.2; omega))
      have xW9 : Hid (Ext W w9) := But.ext ((But.of_ext xW8.out).trans b9) (fun k hr => by have := hr.1; omega)
      have z9 := b9.size
      clear b9 g9 t8 hbG8 xW8 OK8
      have hbE9 := hide (hbEW.out.ext xW9.out)
      have hcE9 := hide (hcEW.out.ext xW9.out)
      have hcG9 := hide (t9.out.at hl.out)
      go_wp2
      have k0 := hbG9.out 0 _ rfl
      have k1 := hbG9.out 1 _ rfl
      refine Dr.region_held (fun b => b = E) [2] (by kernel_rfl) ?_
      refine Dr.held_q1 (by rfl) ?_
      go_wp2
      refine Dr.held_act (by rfl) (by rfl) ?_
      go_wp2_with fail
      clear k0 k1
      refine (cvTable cs N pg qg _ (hcG9.out.ext (Ext.refl _).drew) hl lc2).mono ?_
      rintro e v1 ⟨pr, qr, rfl, f1, x1⟩
      have y1 : Hid (Ext w9 v1) := (Ext.refl _).drew.trans x1
      have zz1 := y1.out.size
      refine ⟨fun b hb => x1.block b (by simp only at hb; simp only [World.drew]; omega), ?_⟩
      replace f1 := hide f1
      clear x1
      have k0 := (hbE9.out.ext y1.out) 0 _ rfl
      have k1 := (hbE9.out.ext y1.out) 1 _ rfl
      refine Dr.held_q1 (by rfl) ?_
      go_wp2
      refine Dr.held_act (by rfl) (by rfl) ?_
      go_wp2_with fail
      refine (eqLTable cs N pr pe qr qe v1 f1 (hcE9.out.ext y1.out) hl lc2).mono ?_
      rintro e v2 ⟨rfl, x2⟩
      refine ⟨fun b hb => x2.block b (by simp only at hb; omega), ?_⟩
      have k7 := x2.cell k0
      clear k0 k1 f1
      have y2 : Hid (Ext w9 v2) := y1.out.trans x2
      have zz2 := y2.out.size
      clear x2 y1 zz1
      refine Dr.held_q1 (by rfl) ?_
      go_wp2
      refine Dr.held_nil (by rfl) ⟨fun _ => ⟨E, 0, rfl, rfl, Dr.isCells_of k7⟩, trivial⟩ ?_
      clear k7
      have tA := hide (t9.out.ext y2.out)
      have xWA : Hid (Ext W v2) := xW9.out.trans y2.out
      have hbGA := hide (hbG9.out.ext y2.out)
      clear y2 t9 hbG9 hbE9 hcE9 hcG9 xW9
      have k0 := hbGA.out 0 _ rfl
      have k1 := hbGA.out 1 _ rfl
      go_wp2_with fail
      clear k0 k1
      refine (sepTable cs N rows lo hi pg qg w2.heap.size G v2 tA (by omega) hl lc2).mono ?_
      rintro e w10 ⟨rfl, t10, b10⟩
      have z10 := b10.size
      have hbG10 := hide (b10.box hbGA.out (by omega) (fun hr => by have := hr.2; omega))
      have xW10 : Hid (Ext W w10) := But.ext ((But.of_ext xWA.out).trans b10) (fun k hr => by have := hr.1; omega)
      replace t10 := hide t10
      clear b10 xWA hbGA tA
      have k0 := hbG10.out 0 _ rfl
      have k1 := hbG10.out 1 _ rfl
      go_wp2_with fail
      clear k0 k1
      have hscT := hsc.out w10 t10.out (by omega)
      refine hscT.mono ?_
      clear hscT
      rintro e w11 ⟨rfl, b11⟩
      have xW11 : Hid (Ext W w11) := But.ext ((But.of_ext xW10.out).trans b11) (fun k hr => by have := hr.1; omega)
      clear b11 t10 hbG10 xW10
      go_wp2_with fail
      refine (cpRows n f a c ne w11 (h.out.ext (XwW.out.trans xW11.out)) hF hN).mono ?_
      rintro e w12 ⟨pb2, qb2, rfl, OR, x2⟩
      have hR2 := hide OR.at
      have X2 : Hid (Ext W w12) := xW11.out.trans x2
      clear OR x2 xW11
      go_wp2_with fail
      refine (cpInt ks ak ck ne w12 (hk.out.ext (XwW.out.trans X2.out)) lk).mono ?_
      rintro e w13 ⟨pc2, qc2, rfl, OK, x3⟩
      have hR3 := hide (hR2.out.ext x3)
      have hK3 := hide (OwnI.ints OK)
      have X3 : Hid (Ext W w13) := X2.out.trans x3
      clear OK x3 X2 hR2
      go_wp2_with fail
      refine (hI.out pb2 pc2 qb2 qc2 w13 hR3.out hK3.out hF.out).mono ?_
      rintro e w14 ⟨ph, qh, rfl, OH, x14⟩
      have hbH : Box (w14.alloc (.cells #[.int .i64 N, .slice ph cs.length qh] 34)) w14.heap.size _ := Box.new w14 _ _
      have xWY : Hid (Ext W (w14.alloc (.cells #[.int .i64 N, .slice ph cs.length qh] 34))) := (X3.out.trans x14).alloc _
      have hcH := hide ((OH.at hl.out).ext ((Ext.refl w14).alloc (.cells #[.int .i64 N, .slice ph cs.length qh] 34)))
      replace hbH := hide hbH
      clear x14 X3 OH hR3 hK3
      go_wp2
      generalize (w14.alloc (.cells #[.int .i64 N, .slice ph cs.length qh] 34)) = Y at *
      generalize w14.heap.size = H at *
      have hbEY := hide (hbEW.out.ext xWY.out)
      have hcEY := hide (hcEW.out.ext xWY.out)
      have zY := xWY.out.size
      have k0 := hbH.out 0 _ rfl
      have k1 := hbH.out 1 _ rfl
      refine Dr.region_held (fun b => b = E) [6] (by kernel_rfl) ?_
      refine Dr.held_q5 (by rfl) ?_
      go_wp2
      refine Dr.held_act (by rfl) (by rfl) ?_
      go_wp2_with fail
      clear k0 k1
      refine (cvTable cs N ph qh _ (hcH.out.ext (Ext.refl _).drew) hl lc2).mono ?_
      rintro e v1 ⟨pr, qr, rfl, f1, x1⟩
      have y1 : Hid (Ext Y v1) := (Ext.refl _).drew.trans x1
      have zz1 := y1.out.size
      refine ⟨fun b hb => x1.block b (by simp only at hb; simp only [World.drew]; omega), ?_⟩
      replace f1 := hide f1
      clear x1
      have k0 := (hbEY.out.ext y1.out) 0 _ rfl
      have k1 := (hbEY.out.ext y1.out) 1 _ rfl
      refine Dr.held_q1 (by rfl) ?_
      go_wp2
      refine Dr.held_act (by rfl) (by rfl) ?_
      go_wp2_with fail
      refine (eqLTable cs N pr pe qr qe v1 f1 (hcEY.out.ext y1.out) hl lc2).mono ?_
      rintro e v2 ⟨rfl, x2⟩
      refine ⟨fun b hb => x2.block b (by simp only at hb; omega), ?_⟩
      have k7 := x2.cell k0
      clear k0 k1 f1
      have y2 : Hid (Ext Y v2) := y1.out.trans x2
      have zz2 := y2.out.size
      clear x2 y1 zz1
      refine Dr.held_q2 (by rfl) ?_
      go_wp2
      refine Dr.held_nil (by rfl) ⟨fun _ => ⟨E, 0, rfl, rfl, Dr.isCells_of k7⟩, trivial⟩ ?_
      clear k7
      have xfin : Hid (Ext V v2) := (XW.out.trans xWY.out).trans y2.out
      clear y2
      go_wp2
      go_roundw
      case rel => exact ⟨k + 1, by go_num, by omega, xfin.out⟩
      case measure => simp [intOf]; omega
  · obtain rfl : k = 2 := by omega
    clear hkk hk2
    go_wp2
    go_ret
    exact ⟨rfl, X6.out.trans XW.out⟩

set_option maxHeartbeats 1000000 in
theorem fnExactBuildTable_big (n : Nat) (a ak : Option Addr) (c l ck : Nat) (w : World) (hn : n < 2 ^ 45) (hl : l < 2 ^ 45) (hb : 1048576 < (n : Int) ∨ 1048576 < (l : Int)) :
    Calls Yabn.prog 10 #[.slice a n c, .slice ak l ck] w (TrueE w) := by
  by_cases hl1 : 1048576 < (l : Int)
  · go_enter Yabn.func10, Yabn.ntmps10
    go_wp2
    go_ret
    exact ⟨rfl, Ext.refl w⟩
  · have hn1 : 1048576 < (n : Int) := by omega
    clear hb
    go_enter Yabn.func10, Yabn.ntmps10
    go_wp2
    go_ret
    exact ⟨rfl, Ext.refl w⟩

theorem fnExactBuildTable_walk (n : Nat) (f : Nat → List Int) (ks : List Int) (a ak : Option Addr) (c ck : Nat) (w : World) (h : IRows w a n f) (hk : IntsAt w ak ks) (hWF : ∀ i, i < n → (f i).length < 2 ^ 45) (hn : n < 2 ^ 45) (hkl : ks.length < 2 ^ 45) :
    Calls Yabn.prog 10 #[.slice a n c, .slice ak ks.length ck] w (TrueE w) := by
  by_cases hb : 1048576 < (n : Int) ∨ 1048576 < (ks.length : Int)
  · exact fnExactBuildTable_big n a ak c ks.length ck w hn hkl hb
  · by_cases hB : BOK n f ks
    · have hcl := colsT_len n f ks
      have hlc : ∀ i, i < (colsT n f ks).length → LenC ((colsT n f ks).getD i col0) := fun i hi => by
        rw [colsT_at n f ks i (by omega)]
        exact encOf_len _ _
      refine fnExactBuildTable_main n f ks a ak c ck w h hk hWF (by omega) (by omega) n (colsT n f ks) true (by omega) hlc ?_ ?_
      · intro a ak c ck w h1 h2 h3
        exact (BuildTable n f ks a ak c ck w h1 h2 (by omega) (by omega) h3).mono (fun e w' hh => by
          rcases hh with hh | hh
          · exact hh.2
          · exact absurd hB hh.1)
      · intro a ak c ck w h1 h2 h3
        exact (RefBuildTable n f ks a ak c ck w h1 h2 (by omega) (by omega) h3).mono (fun e w' hh => by
          rcases hh with hh | hh
          · exact hh.2
          · exact absurd hB hh.1)
    · refine fnExactBuildTable_main n f ks a ak c ck w h hk hWF (by omega) (by omega) 0 [] false (by simp) (fun i hi => by simp at hi) ?_ ?_
      · intro a ak c ck w h1 h2 h3
        exact (BuildTable n f ks a ak c ck w h1 h2 (by omega) (by omega) h3).mono (fun e w' hh => by
          rcases hh with hh | hh
          · exact absurd hh.1 hB
          · exact hh.2)
      · intro a ak c ck w h1 h2 h3
        exact (RefBuildTable n f ks a ak c ck w h1 h2 (by omega) (by omega) h3).mono (fun e w' hh => by
          rcases hh with hh | hh
          · exact absurd hh.1 hB
          · exact hh.2)
end Go.Proofs.Ybyabw
