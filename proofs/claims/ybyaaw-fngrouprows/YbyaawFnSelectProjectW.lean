/- Walk: laws.FnSelectProject -/
import Derived.Test.YbyaawEx9
import Derived.Test.YbyaawEx10
namespace Go.Proofs.Ybyaaw
open Go.RowKit
set_option maxRecDepth 100000
set_option linter.unusedVariables false
set_option linter.unusedSimpArgs false

theorem SelOK.mono {l : List Int} {n m : Int} (h : SelOK l n) (hm : n ≤ m) : SelOK l m := fun j hj => ⟨(h j hj).1, by have := (h j hj).2.1; omega, (h j hj).2.2⟩
theorem SelOK.snoc {l : List Int} {n : Nat} (h : SelOK l n) : SelOK (l ++ [(n : Int)]) (n + 1 : Nat) := fun j hj => by
  have e : ∀ i, i < l.length → (l ++ [(n : Int)]).getD i 0 = l.getD i 0 := fun i hi => by
    rw [List.getD_eq_getElem?_getD, List.getElem?_append_left hi, ← List.getD_eq_getElem?_getD]
  have e2 : (l ++ [(n : Int)]).getD l.length 0 = (n : Int) := by
    rw [List.getD_eq_getElem?_getD, List.getElem?_append_right (Nat.le_refl _)]
    simp
  rw [List.length_append, List.length_singleton] at hj
  by_cases hjl : j < l.length
  · obtain ⟨h1, h2, h3⟩ := h j hjl
    unfold ItS
    rw [e j hjl]
    refine ⟨h1, by omega, fun h0 => ?_⟩
    rw [e (j - 1) (by omega)]
    exact h3 h0
  · obtain rfl : j = l.length := by omega
    unfold ItS
    rw [e2]
    refine ⟨by omega, by omega, fun h0 => ?_⟩
    rw [e _ (by omega)]
    have := (h (l.length - 1) (by omega)).2.1
    exact this
theorem slTo_ok (p : Pl) (f : Nat → List Int) : ∀ n : Nat, SelOK (slTo p f n) n := by
  intro n
  induction n with
  | zero => intro j hj; simp [slTo] at hj
  | succ n ih =>
    simp only [slTo]
    split
    · exact ih.snoc
    · exact ih.mono (by omega)
theorem not_valid_succ {cs : List Col} {n : Nat} (hv : ValidT cs n) (hne : 1 ≤ cs.length) : ¬ ValidT cs ((n : Int) + 1) := fun h => by
  have h1 := dec_len _ _ (hv.2.2.2 0 (by omega))
  have h2 := dec_len _ _ (h.2.2.2 0 (by omega))
  omega
theorem SetOK.ext {w w' : World} {p : Pl} {ca pi pg : Option Addr} {cs : List Col} {n : Nat} {a : Option Addr} (h : SetOK w p ca pi pg cs n a) (he : Ext w w') : SetOK w' p ca pi pg cs n a := ⟨h.pat.ext he, h.ok, h.nc, h.t.ext he, h.v, h.ne⟩
/-- swapping the first two -/
theorem swap_bad {l : List Int} {n : Int} (h : SelOK l n) (h2 : 2 ≤ l.length) (m : Int) : ¬ SelOK ((l.set 0 (l.getD 1 0)).set 1 (l.getD 0 0)) m := fun hh => by
  have h1 := (h 1 (by omega)).2.2 (by omega)
  have h3 := (hh 1 (by simp; omega)).2.2 (by omega)
  match l, h2 with
  | a :: b :: r, _ =>
    simp at h1 h3
    omega
theorem oor_bad {l : List Int} {n : Nat} : ¬ SelOK (l ++ [(n : Int)]) n := fun hh => by
  have h1 := (hh l.length (by simp)).2.1
  rw [List.getD_eq_getElem?_getD, List.getElem?_append_right (Nat.le_refl _)] at h1
  simp at h1
set_option maxHeartbeats 16000000 in
theorem FnSelectProject (zs cells ks : List Int) (qa ce ka : Option Addr) (qc cec kc : Nat) (u : Int) (w : World) (hq : Hid (BytesAt w qa zs)) (hce : Hid (IntsAt w ce cells)) (hk : Hid (BytesAt w ka ks)) (hu0 : 0 ≤ u) (hu1 : u ≤ 255) :
    Calls Yaan.prog 11 #[.slice qa zs.length qc, .slice ce cells.length cec, .int .u8 u, .slice ka ks.length kc] w (RetTrue w) := by
  by_cases l1 : 1048576 < zs.length
  · have l1' : 1048576 < (zs.length : Int) := by omega
    go_enter Yaan.func11, Yaan.ntmps11
    go_wp2
    go_ret
    exact ⟨rfl, Ext.refl w⟩
  have l1' : ¬ 1048576 < (zs.length : Int) := by omega
  by_cases l2 : 1048576 < cells.length
  · have l2' : 1048576 < (cells.length : Int) := by omega
    go_enter Yaan.func11, Yaan.ntmps11
    go_wp2
    go_ret
    exact ⟨rfl, Ext.refl w⟩
  have l2' : ¬ 1048576 < (cells.length : Int) := by omega
  by_cases l3 : 1048576 < ks.length
  · have l3' : 1048576 < (ks.length : Int) := by omega
    go_enter Yaan.func11, Yaan.ntmps11
    go_wp2
    go_ret
    exact ⟨rfl, Ext.refl w⟩
  have l3' : ¬ 1048576 < (ks.length : Int) := by omega
  go_enter Yaan.func11, Yaan.ntmps11
  go_wp2_with fail
  refine (setup zs cells ks qa ce ka qc cec kc u w hq hce hk hu0 hu1 (by omega) (by omega) (by omega)).mono ?_
  rintro e w1 ⟨x1, hcase⟩
  rcases hcase with rfl | ⟨p, ca, ia, ga, cc, ic, gc, cs, n, a, cap, rfl, hset⟩
  · have X1 : Hid (Ext w ((w1.alloc (.cells #[.int .i64 0, .slice none 0 0, .int .i64 0, .slice none 0 0, .slice none 0 0, .int .i64 0, .bool false] 81)).alloc (.cells #[.int .i64 0, .slice none 0 0] 66))) := (x1.alloc _).alloc _
    clear x1
    simp only [plz]
    go_wp2
    go_ret
    exact ⟨rfl, X1.out⟩
  obtain ⟨V, hV⟩ : ∃ V, Hid (costV p cs.length n = V) := ⟨_, rfl⟩
  obtain ⟨S, hS⟩ : ∃ S, Hid (slTo p (rowT cs) n = S) := ⟨_, rfl⟩
  have hSok : Hid (SelOK S n) := by rw [← hS.out]; exact slTo_ok p (rowT cs) n
  have hn2 : n ≤ 65536 := by have := hset.v.2.1; omega
  have hSl : S.length ≤ 65536 := by rw [← hS.out]; exact Nat.le_trans (slTo_len p (rowT cs) n) hn2
  have hcl : cs.length ≤ 256 := hset.v.2.2.1
  obtain ⟨nc, code, wh, its, gr, li, ag⟩ := p
  have hlc : code.length ≤ 65536 := hset.pat.lc
  have hli : its.length ≤ 65536 := hset.pat.li
  have X1 : Hid (Ext w ((w1.alloc (.cells #[.int .i64 nc, .slice ca code.length cc, .int .i64 wh, .slice ia its.length ic, .slice ga gr.length gc, .int .i64 li, .bool ag] 81)).alloc (.cells #[.int .i64 n, .slice a cs.length cap] 66))) := (x1.alloc _).alloc _
  have hs1 := hide (hset.ext (((Ext.refl w1).alloc (.cells #[.int .i64 nc, .slice ca code.length cc, .int .i64 wh, .slice ia its.length ic, .slice ga gr.length gc, .int .i64 li, .bool ag] 81)).alloc (.cells #[.int .i64 n, .slice a cs.length cap] 66)))
  have hB1 : Hid (Blk ((w1.alloc (.cells #[.int .i64 nc, .slice ca code.length cc, .int .i64 wh, .slice ia its.length ic, .slice ga gr.length gc, .int .i64 li, .bool ag] 81)).alloc (.cells #[.int .i64 n, .slice a cs.length cap] 66)) w1.heap.size 81 [.int .i64 nc, .slice ca code.length cc, .int .i64 wh, .slice ia its.length ic, .slice ga gr.length gc, .int .i64 li, .bool ag]) := (Blk.new w1 _ _).alloc _
  have hB2 : Hid (Blk ((w1.alloc (.cells #[.int .i64 nc, .slice ca code.length cc, .int .i64 wh, .slice ia its.length ic, .slice ga gr.length gc, .int .i64 li, .bool ag] 81)).alloc (.cells #[.int .i64 n, .slice a cs.length cap] 66)) (w1.heap.size + 1) 66 [.int .i64 n, .slice a cs.length cap]) := blk2 w1 _ _ _ _
  have hpo := hide hs1.out.ok
  have hpn := hs1.out.nc
  replace hpn := hide hpn
  have hvv := hide hs1.out.v
  clear x1 hset
  simp only [plCells]
  go_wp2_with fail
  generalize ((w1.alloc (.cells #[.int .i64 nc, .slice ca code.length cc, .int .i64 wh, .slice ia its.length ic, .slice ga gr.length gc, .int .i64 li, .bool ag] 81)).alloc (.cells #[.int .i64 n, .slice a cs.length cap] 66)) = W1 at *
  generalize w1.heap.size = Pb at *
  refine (Select ⟨nc, code, wh, its, gr, li, ag⟩ ca ia ga a cc ic gc cap cs n W1 hs1.out.pat hpo hs1.out.t hvv hpn.out).mono ?_
  rintro e w2 hh
  unfold RetSel at hh
  rw [hV.out, hS.out] at hh
  cases V with
  | false =>
    rcases hh with ⟨h0, _⟩ | ⟨_, rfl, x2⟩
    · cases h0
    have X2 : Hid (Ext W1 w2) := x2
    clear x2
    (try clear q0)
    (try clear q1)
    (try clear q2)
    (try clear q3)
    (try clear q4)
    (try clear q5)
    (try clear q6)
    (try clear t0)
    (try clear t1)
    have q0 := (hB1.out.ext X2.out).box 0 _ rfl
    have q1 := (hB1.out.ext X2.out).box 1 _ rfl
    have q2 := (hB1.out.ext X2.out).box 2 _ rfl
    have q3 := (hB1.out.ext X2.out).box 3 _ rfl
    have q4 := (hB1.out.ext X2.out).box 4 _ rfl
    have q5 := (hB1.out.ext X2.out).box 5 _ rfl
    have q6 := (hB1.out.ext X2.out).box 6 _ rfl
    have t0 := (hB2.out.ext X2.out).box 0 _ rfl
    have t1 := (hB2.out.ext X2.out).box 1 _ rfl
    go_wp2_with fail
    refine (RefSelect ⟨nc, code, wh, its, gr, li, ag⟩ ca ia ga a cc ic gc cap cs n w2 (hs1.out.pat.ext X2.out) hpo (hs1.out.t.ext X2.out) hvv hpn.out).mono ?_
    rintro e w3 hh
    unfold RetSel at hh
    rw [hV.out, hS.out] at hh
    rcases hh with ⟨h0, _⟩ | ⟨_, rfl, x3⟩
    · cases h0
    have X3 : Hid (Ext W1 w3) := X2.out.trans x3
    clear x3 X2 q0 q1 q2 q3 q4 q5 q6 t0 t1
    go_wp2_with fail
    refine (IntsEq_same [] none none 0 0 w3 (IntsAt.nil _ _) (IntsAt.nil _ _) (by simp)).mono ?_
    rintro e w4 ⟨rfl, x4⟩
    have X4 : Hid (Ext w w4) := (X1.out.trans X3.out).trans x4
    clear x4
    dsimp only
    go_wp2
    go_ret
    exact ⟨rfl, X4.out⟩
  | true =>
    rcases hh with ⟨_, sa, sc, rfl, oS, x2⟩ | ⟨h0, _⟩
    rotate_left
    · cases h0
    have X2 : Hid (Ext W1 w2) := x2
    have oS2 := hide oS.ints
    clear x2 oS
    (try clear q0)
    (try clear q1)
    (try clear q2)
    (try clear q3)
    (try clear q4)
    (try clear q5)
    (try clear q6)
    (try clear t0)
    (try clear t1)
    have q0 := (hB1.out.ext X2.out).box 0 _ rfl
    have q1 := (hB1.out.ext X2.out).box 1 _ rfl
    have q2 := (hB1.out.ext X2.out).box 2 _ rfl
    have q3 := (hB1.out.ext X2.out).box 3 _ rfl
    have q4 := (hB1.out.ext X2.out).box 4 _ rfl
    have q5 := (hB1.out.ext X2.out).box 5 _ rfl
    have q6 := (hB1.out.ext X2.out).box 6 _ rfl
    have t0 := (hB2.out.ext X2.out).box 0 _ rfl
    have t1 := (hB2.out.ext X2.out).box 1 _ rfl
    go_wp2_with fail
    refine (RefSelect ⟨nc, code, wh, its, gr, li, ag⟩ ca ia ga a cc ic gc cap cs n w2 (hs1.out.pat.ext X2.out) hpo (hs1.out.t.ext X2.out) hvv hpn.out).mono ?_
    rintro e w3 hh
    unfold RetSel at hh
    rw [hV.out, hS.out] at hh
    rcases hh with ⟨_, ra, rc, rfl, oR, x3⟩ | ⟨h0, _⟩
    rotate_left
    · cases h0
    have X3 : Hid (Ext W1 w3) := X2.out.trans x3
    have oS3 := hide (oS2.out.ext x3)
    have oR3 := hide oR.ints
    clear x3 X2 oS2 oR q0 q1 q2 q3 q4 q5 q6 t0 t1
    go_wp2_with fail
    refine (IntsEq_same S sa ra sc rc w3 oS3.out oR3.out (by omega)).mono ?_
    rintro e w4 ⟨rfl, x4⟩
    have X4 : Hid (Ext W1 w4) := X3.out.trans x4
    have oR4 := hide (oR3.out.ext x4)
    clear x4 X3 oS3 oR3
    dsimp only
    (try clear q0)
    (try clear q1)
    (try clear q2)
    (try clear q3)
    (try clear q4)
    (try clear q5)
    (try clear q6)
    (try clear t0)
    (try clear t1)
    have q0 := (hB1.out.ext X4.out).box 0 _ rfl
    have q1 := (hB1.out.ext X4.out).box 1 _ rfl
    have q2 := (hB1.out.ext X4.out).box 2 _ rfl
    have q3 := (hB1.out.ext X4.out).box 3 _ rfl
    have q4 := (hB1.out.ext X4.out).box 4 _ rfl
    have q5 := (hB1.out.ext X4.out).box 5 _ rfl
    have q6 := (hB1.out.ext X4.out).box 6 _ rfl
    have t0 := (hB2.out.ext X4.out).box 0 _ rfl
    have t1 := (hB2.out.ext X4.out).box 1 _ rfl
    have hBT : Hid (Blk (w4.alloc (.cells #[.int .i64 ((n : Int) + 1), .slice a cs.length cap] 66)) w4.heap.size 66 [.int .i64 ((n : Int) + 1), .slice a cs.length cap]) := Blk.new w4 _ _
    have X5 : Hid (Ext W1 (w4.alloc (.cells #[.int .i64 ((n : Int) + 1), .slice a cs.length cap] 66))) := X4.out.alloc _
    have oR5 := hide (oR4.out.ext ((Ext.refl w4).alloc (.cells #[.int .i64 ((n : Int) + 1), .slice a cs.length cap] 66)))
    have b0 := hBT.out.box 0 _ rfl
    have b1 := hBT.out.box 1 _ rfl
    have r0 := (hB1.out.ext X5.out).box 0 _ rfl
    have r1 := (hB1.out.ext X5.out).box 1 _ rfl
    have r2 := (hB1.out.ext X5.out).box 2 _ rfl
    have r3 := (hB1.out.ext X5.out).box 3 _ rfl
    have r4 := (hB1.out.ext X5.out).box 4 _ rfl
    have r5 := (hB1.out.ext X5.out).box 5 _ rfl
    have r6 := (hB1.out.ext X5.out).box 6 _ rfl
    go_wp2_with fail
    generalize (w4.alloc (.cells #[.int .i64 ((n : Int) + 1), .slice a cs.length cap] 66)) = W5 at *
    refine (Select_no ⟨nc, code, wh, its, gr, li, ag⟩ ca ia ga a cc ic gc cap cs ((n : Int) + 1) W5 (hs1.out.t.ext X5.out) (by omega) (not_valid_succ hs1.out.v hs1.out.ne)).mono ?_
    rintro e w6 ⟨rfl, x6⟩
    have X6 : Hid (Ext W1 w6) := X5.out.trans x6
    have oR6 := hide (oR5.out.ext x6)
    clear x6 b0 b1 r0 r1 r2 r3 r4 r5 r6 q0 q1 q2 q3 q4 q5 q6 t0 t1 X5 oR5 oR4 X4 hBT
    have q2 := (hB1.out.ext X6.out).box 2 _ rfl
    go_upto_if 102 with fail
    go_cut [19] from 100 to 107 (fun v wc => ∃ rs : List Int, Hid (OwnI wc w6.heap.size 3 v rs) ∧ Hid (rs.length ≤ 1) ∧ Hid (Ext w6 wc))
    case first =>
      by_cases hw : wh = -1
      · have hwb : (wh != -1) = false := by simp [hw]
        replace hw := hide hw
        go_wp2_with fail
        go_meet
        case rel => exact ⟨[], OwnI.nil _ _ _, by simp [Hid], Ext.refl _⟩
      · have hwb : (wh != -1) = true := by simp [hw]
        replace hw := hide hw
        have hX3 : Hid (Ext w6 (w6.alloc (.cells #[.int .i64 wh] 3))) := (Ext.refl _).alloc _
        have hG3 : Hid (OwnI (w6.alloc (.cells #[.int .i64 wh] 3)) w6.heap.size 3 (.slice none 0 0) []) := OwnI.nil _ _ _
        have hblk := hide (heap_alloc_new w6 (.cells #[.int .i64 wh] 3))
        go_wp2_with (at_builtin; refine app_int rfl rfl w6.heap.size hX3.out.size _ [] wh rfl hG3.out w6.heap.size 1 (by rfl) hblk.out (by simp) ?_; intro g7 cap7 w7 O7 hgr7 hor7 hlt7; have hX7 : Hid (Ext w6 w7) := hX3.out.grown hgr7 (fun q hq => (World.ownsRow.lt hG3.out q hq).1); have hO7 := hide O7; clear O7 hgr7 hor7 hlt7)
        go_meet
        case rel => exact ⟨[wh], hO7.out, by simp [Hid], hX7.out⟩
    case rest =>
    clear q2
    obtain ⟨rs0, hRs, hrl, XC⟩ := hcut
    go_wp2_with fail
    go_loopw [19, 20] (fun v i wr => ∃ (k : Nat) (rs : List Int), i = .int .i64 k ∧ k ≤ its.length ∧ Hid (OwnI wr w6.heap.size 3 v rs) ∧ Hid (rs.length ≤ k + 1) ∧ Hid (Ext w6 wr)) (fun _ i _ => its.length - (intOf i).toNat)
    case atStart => exact ⟨0, rs0, rfl, Nat.zero_le _, hRs, hrl, XC⟩
    clear hRs hrl XC
    obtain ⟨k, rs, rfl, hk, hRs, hrl, XC⟩ := hrel
    have q3 := (hB1.out.ext (X6.out.trans XC.out)).box 3 _ rfl
    by_cases hlt : k < its.length
    · have hlt' : (k : Int) < its.length := by omega
      obtain ⟨b, off, hia, c1, c2⟩ := (hs1.out.pat.its.ext (X6.out.trans XC.out)) k hlt
      subst hia
      simp only at c1 c2
      obtain ⟨⟨g, y⟩, hit⟩ : ∃ z, Hid (its.getD k (0, 0) = z) := ⟨_, rfl⟩
      rw [hit.out] at c1 c2
      simp only at c1 c2
      have hcb := cell_lt c2
      simp only at hcb
      by_cases hy : y = -1
      · have hyb : (y != -1) = false := by simp [hy]
        replace hy := hide hy
        go_wp2_with fail
        go_roundw
        case rel => exact ⟨k + 1, rs, by go_num, by omega, hRs.out, by have := hrl.out; show _ ≤ _; omega, XC.out⟩
        case measure => simp [intOf]; omega
      · have hyb : (y != -1) = true := by simp [hy]
        replace hy := hide hy
        have hX3 : Hid (Ext w6 (wr.alloc (.cells #[.int .i64 y] 3))) := XC.out.alloc _
        have hG3 := hide (OwnI.alloc hRs.out (.cells #[.int .i64 y] 3))
        have hblk := hide (heap_alloc_new wr (.cells #[.int .i64 y] 3))
        have hln : Hid (rs.length < 2 ^ 39) := by have := hrl.out; show _ < _; omega
        go_wp2_with (at_builtin; refine app_int rfl rfl w6.heap.size hX3.out.size _ rs y rfl hG3.out wr.heap.size 1 (by rfl) hblk.out hln.out ?_; intro g7 cap7 w7 O7 hgr7 hor7 hlt7; have hX7 : Hid (Ext w6 w7) := hX3.out.grown hgr7 (fun q hq => (World.ownsRow.lt hG3.out q hq).1); have hO7 := hide O7; clear O7 hgr7 hor7 hlt7)
        go_roundw
        case rel => exact ⟨k + 1, rs ++ [y], by go_num, by omega, hO7.out, by have := hrl.out; simp [Hid]; omega, hX7.out⟩
        case measure => simp [intOf]; omega
    · have hlt' : ¬ (k : Int) < its.length := by omega
      obtain ⟨va, vc, rfl, _⟩ := hRs.out.form
      have hrs2 : rs.length ≤ 65537 := by have := hrl.out; omega
      have hRi := hide hRs.out.ints
      have X7 : Hid (Ext W1 wr) := X6.out.trans XC.out
      have oR7 := hide (oR6.out.ext XC.out)
      clear hlt hk hRs hrl XC X6 oR6
      obtain ⟨W7, hW7⟩ : ∃ W7, W7 = wr := ⟨_, rfl⟩
      rw [← hW7] at hRi X7 oR7
      go_wp2_with fail
      rw [← hW7]
      clear hW7 q3
      go_loopw [21] (fun i wr => ∃ (k : Nat), i = .int .i64 k ∧ k ≤ rs.length ∧ Hid (Ext W7 wr)) (fun i _ => rs.length - (intOf i).toNat)
      case atStart => exact ⟨0, rfl, Nat.zero_le _, Ext.refl W7⟩
      obtain ⟨k, rfl, hk, XC⟩ := hrel
      by_cases hlt : k < rs.length
      · have hlt' : (k : Int) < rs.length := by omega
        obtain ⟨b, off, hva, c1⟩ := (hRi.out.ext XC.out) k hlt
        subst hva
        obtain ⟨y, hy⟩ : ∃ y, Hid (rs.getD k 0 = y) := ⟨_, rfl⟩
        rw [hy.out] at c1
        have X8 : Hid (Ext W1 wr) := X7.out.trans XC.out
        (try clear q0)
        (try clear q1)
        (try clear q2)
        (try clear q3)
        (try clear q4)
        (try clear q5)
        (try clear q6)
        (try clear t0)
        (try clear t1)
        have q0 := (hB1.out.ext X8.out).box 0 _ rfl
        have q1 := (hB1.out.ext X8.out).box 1 _ rfl
        have q2 := (hB1.out.ext X8.out).box 2 _ rfl
        have q3 := (hB1.out.ext X8.out).box 3 _ rfl
        have q4 := (hB1.out.ext X8.out).box 4 _ rfl
        have q5 := (hB1.out.ext X8.out).box 5 _ rfl
        have q6 := (hB1.out.ext X8.out).box 6 _ rfl
        have t0 := (hB2.out.ext X8.out).box 0 _ rfl
        have t1 := (hB2.out.ext X8.out).box 1 _ rfl
        go_wp2_with fail
        refine Dr.region_text (by kernel_rfl) ?_
        go_wp2_with fail
        refine (Project ⟨nc, code, wh, its, gr, li, ag⟩ ca ia ga a ra cc ic gc cap rc cs n y S wr.drew (hs1.out.pat.ext X8.out.drew) hpo (hs1.out.t.ext X8.out.drew) hvv hpn.out (oR7.out.ext XC.out.drew) (by omega)).mono ?_
        rintro e v1 hj1
        clear q0 q1 q2 q3 q4 q5 q6 t0 t1 c1
        rcases hj1 with ⟨hc1, ja, jc, rfl, oJ, y1⟩ | ⟨hc1, rfl, y1⟩
        · have Y1 : Hid (Ext W7 v1) := XC.out.drew.trans y1
          have oJ1 := hide oJ.ints
          clear oJ y1
          go_wp2
          refine ⟨by rfl, ?_⟩
          obtain ⟨b9, off9, e9, c1⟩ := (hRi.out.ext Y1.out) k hlt
          cases e9
          rw [hy.out] at c1
          have X9 : Hid (Ext W1 v1) := X7.out.trans Y1.out
          (try clear q0)
          (try clear q1)
          (try clear q2)
          (try clear q3)
          (try clear q4)
          (try clear q5)
          (try clear q6)
          (try clear t0)
          (try clear t1)
          have q0 := (hB1.out.ext X9.out).box 0 _ rfl
          have q1 := (hB1.out.ext X9.out).box 1 _ rfl
          have q2 := (hB1.out.ext X9.out).box 2 _ rfl
          have q3 := (hB1.out.ext X9.out).box 3 _ rfl
          have q4 := (hB1.out.ext X9.out).box 4 _ rfl
          have q5 := (hB1.out.ext X9.out).box 5 _ rfl
          have q6 := (hB1.out.ext X9.out).box 6 _ rfl
          have t0 := (hB2.out.ext X9.out).box 0 _ rfl
          have t1 := (hB2.out.ext X9.out).box 1 _ rfl
          go_wp2_with fail
          refine Dr.region_text (by kernel_rfl) ?_
          go_wp2_with fail
          refine (RefProject ⟨nc, code, wh, its, gr, li, ag⟩ ca ia ga a ra cc ic gc cap rc cs n y S v1.drew (hs1.out.pat.ext X9.out.drew) hpo (hs1.out.t.ext X9.out.drew) hvv hpn.out (oR7.out.ext Y1.out.drew) (by omega)).mono ?_
          rintro e v2 hj2
          clear q0 q1 q2 q3 q4 q5 q6 t0 t1 c1
          rcases hj2 with ⟨_, ka2, kc2, rfl, oK, y2⟩ | ⟨hc2, _⟩
          rotate_left
          · exact absurd hc1 hc2
          have Y2 : Hid (Ext W7 v2) := Y1.out.drew.trans y2
          have oJ2 := hide (oJ1.out.ext ((Ext.refl v1).drew.trans y2))
          have oK2 := hide oK.ints
          clear y2 oK oJ1
          replace hc1 := hide hc1
          obtain ⟨L, hL⟩ : ∃ L, Hid (projV ⟨nc, code, wh, its, gr, li, ag⟩ cs y S = L) := ⟨_, rfl⟩
          have hLl : L.length < 2 ^ 39 := by rw [← hL.out]; unfold projV; rw [projL_len]; omega
          rw [hL.out] at oJ2 oK2
          rw [hL.out]
          go_wp2
          refine ⟨by rfl, ?_⟩
          go_wp2_with fail
          refine (Int64sEqual L L ja ka2 jc kc2 v2 oJ2.out oK2.out (by omega) (by omega)).mono ?_
          rintro e v3 ⟨bz, rfl, hbz, y3⟩
          obtain rfl : bz = true := hbz.2 rfl
          have Y3 : Hid (Ext W7 v3) := Y2.out.trans y3
          clear y3 hbz
          dsimp only
          go_wp2_with fail
          go_roundw
          case rel => exact ⟨k + 1, by go_num, by omega, Y3.out⟩
          case measure => simp [intOf]; omega
        · have Y1 : Hid (Ext W7 v1) := XC.out.drew.trans y1
          clear y1
          go_wp2
          refine ⟨by rfl, ?_⟩
          obtain ⟨b9, off9, e9, c1⟩ := (hRi.out.ext Y1.out) k hlt
          cases e9
          rw [hy.out] at c1
          have X9 : Hid (Ext W1 v1) := X7.out.trans Y1.out
          (try clear q0)
          (try clear q1)
          (try clear q2)
          (try clear q3)
          (try clear q4)
          (try clear q5)
          (try clear q6)
          (try clear t0)
          (try clear t1)
          have q0 := (hB1.out.ext X9.out).box 0 _ rfl
          have q1 := (hB1.out.ext X9.out).box 1 _ rfl
          have q2 := (hB1.out.ext X9.out).box 2 _ rfl
          have q3 := (hB1.out.ext X9.out).box 3 _ rfl
          have q4 := (hB1.out.ext X9.out).box 4 _ rfl
          have q5 := (hB1.out.ext X9.out).box 5 _ rfl
          have q6 := (hB1.out.ext X9.out).box 6 _ rfl
          have t0 := (hB2.out.ext X9.out).box 0 _ rfl
          have t1 := (hB2.out.ext X9.out).box 1 _ rfl
          go_wp2_with fail
          refine Dr.region_text (by kernel_rfl) ?_
          go_wp2_with fail
          refine (RefProject ⟨nc, code, wh, its, gr, li, ag⟩ ca ia ga a ra cc ic gc cap rc cs n y S v1.drew (hs1.out.pat.ext X9.out.drew) hpo (hs1.out.t.ext X9.out.drew) hvv hpn.out (oR7.out.ext Y1.out.drew) (by omega)).mono ?_
          rintro e v2 hj2
          clear q0 q1 q2 q3 q4 q5 q6 t0 t1 c1
          rcases hj2 with ⟨hc2, _⟩ | ⟨_, rfl, y2⟩
          · exact absurd hc2 hc1
          have Y2 : Hid (Ext W7 v2) := Y1.out.drew.trans y2
          clear y2
          replace hc1 := hide hc1
          go_wp2
          refine ⟨by rfl, ?_⟩
          go_wp2_with fail
          refine (Int64sEqual [] [] none none 0 0 v2 (IntsAt.nil _ _) (IntsAt.nil _ _) (by simp) (by simp)).mono ?_
          rintro e v3 ⟨bz, rfl, hbz, y3⟩
          obtain rfl : bz = true := hbz.2 rfl
          have Y3 : Hid (Ext W7 v3) := Y2.out.trans y3
          clear y3 hbz
          dsimp only
          go_wp2_with fail
          go_roundw
          case rel => exact ⟨k + 1, by go_num, by omega, Y3.out⟩
          case measure => simp [intOf]; omega
      · have hlt' : ¬ (k : Int) < rs.length := by omega
        have X8 : Hid (Ext W1 wr) := X7.out.trans XC.out
        have oR8 := hide (oR7.out.ext XC.out)
        clear hlt hk X7 XC oR7 hRi
        have q1 := (hB1.out.ext X8.out).box 1 _ rfl
        by_cases hcode : code.length = 0
        · have hc0 : ¬ (0 : Int) < code.length := by omega
          replace hcode := hide hcode
          go_wp2
          go_ret
          exact ⟨rfl, X1.out.trans X8.out⟩
        have hc0 : (0 : Int) < code.length := by omega
        replace hcode := hide hcode
        go_upto_if 174 with fail
        clear q1
        go_cut [26, 27, 28, 29] from 100 to 204 (fun v26 v27 v28 v29 wc => Hid (Ext wr wc))
        case first =>
          by_cases h2 : 2 ≤ S.length
          · have h2' : (2 : Int) ≤ S.length := by omega
            have h20 : (0 : Int) < S.length := by omega
            have h21 : (1 : Int) < S.length := by omega
            have hbad : Hid (∀ m : Int, ¬ SelOK ((S.set 0 (S.getD 1 0)).set 1 (S.getD 0 0)) m) := fun m => swap_bad hSok.out h2 m
            obtain ⟨y0, hy0⟩ : ∃ y, Hid (S.getD 0 0 = y) := ⟨_, rfl⟩
            obtain ⟨y1, hy1⟩ : ∃ y, Hid (S.getD 1 0 = y) := ⟨_, rfl⟩
            rw [hy0.out, hy1.out] at hbad
            replace h2 := hide h2
            go_wp2_with (first | (at_make; refine mk_int rfl rfl S.length rfl rfl (by omega) wr.heap.size rfl ?_; intro wg Og xg zg; have hXg : Hid (Ext wr wg) := xg; have hOg := hide Og; have hRg := hide (oR8.out.ext xg); clear xg zg Og) | (refine wpList_cpI rfl rfl 3 Yaan.underlying34 size_int wr.heap.size wr.heap.size S.length S.length (List.replicate S.length 0) S (by rfl) (by simp) hOg.out ra S.length rc (by rfl) rfl hRg.out (by simp) ?_; intro wk Ok hgk; have hXk : Hid (Ext wr wk) := hXg.out.grown hgk (fun q hq => by cases hq; exact Nat.le_refl _); have hOk := hide Ok; have k0 := Ok.cellAt 0 (by have := h2.out; omega); have k1 := Ok.cellAt 1 (by have := h2.out; omega); rw [hy0.out] at k0; rw [hy1.out] at k1; clear Ok hgk) | (refine wpList_stI (g := wr.heap.size) (i := 0) (u := y1) rfl rfl (by rfl) (by rfl) hOk.out rfl (by have := h2.out; omega) size_int ?_; intro wl Ol hgl; have hXl : Hid (Ext wr wl) := hXk.out.grown hgl (fun q hq => by cases hq; exact Nat.le_refl _); have hOl := hide Ol; clear Ol hgl) | (refine wpList_stI (g := wr.heap.size) (i := 1) (u := y0) rfl rfl (by rfl) (by rfl) hOl.out (by simp) (by simp; have := h2.out; omega) size_int ?_; intro wm Om hgm; have hXm : Hid (Ext wr wm) := hXl.out.grown hgm (fun q hq => by cases hq; exact Nat.le_refl _); have hOm := hide Om.ints; clear Om hgm; have X9 : Hid (Ext W1 wm) := X8.out.trans hXm.out; have q0 := (hB1.out.ext X9.out).box 0 _ rfl; have q1 := (hB1.out.ext X9.out).box 1 _ rfl; have q2 := (hB1.out.ext X9.out).box 2 _ rfl; have q3 := (hB1.out.ext X9.out).box 3 _ rfl; have q4 := (hB1.out.ext X9.out).box 4 _ rfl; have q5 := (hB1.out.ext X9.out).box 5 _ rfl; have q6 := (hB1.out.ext X9.out).box 6 _ rfl; have t0 := (hB2.out.ext X9.out).box 0 _ rfl; have t1 := (hB2.out.ext X9.out).box 1 _ rfl))
            have hpj := Project ⟨nc, code, wh, its, gr, li, ag⟩ ca ia ga a (some ⟨wr.heap.size, 0, none⟩) cc ic gc cap S.length cs n 0 ((S.set 0 y1).set 1 y0) wm (hs1.out.pat.ext X9.out) hpo (hs1.out.t.ext X9.out) hvv hpn.out hOm (by simp; omega)
            rw [List.length_set, List.length_set] at hpj
            refine hpj.mono ?_
            clear hpj
            rintro e v1 hj1
            clear q0 q1 q2 q3 q4 q5 q6 t0 t1
            rcases hj1 with ⟨hc1, _⟩ | ⟨_, rfl, y9⟩
            · exact absurd hc1.2.2.2 (hbad.out _)
            have Y1 : Hid (Ext wr v1) := hXm.out.trans y9
            clear y9
            go_wp2_with fail
            go_meet
            case rel => exact Y1.out
          · have h2' : ¬ (2 : Int) ≤ S.length := by omega
            replace h2 := hide h2
            go_wp2_with fail
            go_meet
            case rel => exact Ext.refl _
        case rest =>
        have XC : Hid (Ext wr wc) := hcut
        clear hcut
        have oR9 := hide (oR8.out.ext XC.out)
        have X9 : Hid (Ext W1 wc) := X8.out.trans XC.out
        have hgs : Hid (W1.heap.size ≤ wc.heap.size) := X9.out.size
        have hln : Hid (S.length < 2 ^ 39) := by show _ < _; omega
        go_wp2_with (first | (at_make; refine mk_int rfl rfl S.length rfl rfl (by omega) wc.heap.size rfl ?_; intro wg Og xg zg; have hXg : Hid (Ext wc wg) := xg; have hOg := hide Og; have hRg := hide (oR9.out.ext xg); clear xg zg Og) | (refine wpList_cpI rfl rfl 3 Yaan.underlying34 size_int wc.heap.size wc.heap.size S.length S.length (List.replicate S.length 0) S (by rfl) (by simp) hOg.out ra S.length rc (by rfl) rfl hRg.out (by simp) ?_; intro wk Ok hgk; have hXk : Hid (Ext wc wk) := hXg.out.grown hgk (fun q hq => by cases hq; exact Nat.le_refl _); have hOk := hide Ok; have t0 := (hB2.out.ext (X9.out.trans hXk.out)).box 0 _ rfl; have hX3 : Hid (Ext wc (wk.alloc (.cells #[.int .i64 (n : Int)] 3))) := hXk.out.alloc _; have hG3 := hide (OwnI.alloc Ok (.cells #[.int .i64 (n : Int)] 3)); have hblk := hide (heap_alloc_new wk (.cells #[.int .i64 (n : Int)] 3)); clear Ok hgk) | (at_builtin; refine app_int rfl rfl wc.heap.size hX3.out.size _ S (n : Int) rfl hG3.out wk.heap.size 1 (by rfl) hblk.out hln.out ?_; intro g7 cap7 w7 O7 hgr7 hor7 hlt7; have hX7 : Hid (Ext wc w7) := hX3.out.grown hgr7 (fun q hq => (World.ownsRow.lt hG3.out q hq).1); have hO7 := hide O7.ints; clear O7 hgr7 hor7 hlt7 t0; have XA : Hid (Ext W1 w7) := X9.out.trans hX7.out; have q0 := (hB1.out.ext XA.out).box 0 _ rfl; have q1 := (hB1.out.ext XA.out).box 1 _ rfl; have q2 := (hB1.out.ext XA.out).box 2 _ rfl; have q3 := (hB1.out.ext XA.out).box 3 _ rfl; have q4 := (hB1.out.ext XA.out).box 4 _ rfl; have q5 := (hB1.out.ext XA.out).box 5 _ rfl; have q6 := (hB1.out.ext XA.out).box 6 _ rfl; have t0 := (hB2.out.ext XA.out).box 0 _ rfl; have t1 := (hB2.out.ext XA.out).box 1 _ rfl))
        have hpj := Project ⟨nc, code, wh, its, gr, li, ag⟩ ca ia ga a (some ⟨g7, 0, none⟩) cc ic gc cap cap7 cs n 0 (S ++ [(n : Int)]) w7 (hs1.out.pat.ext XA.out) hpo (hs1.out.t.ext XA.out) hvv hpn.out hO7 (by simp; omega)
        rw [List.length_append, List.length_singleton] at hpj
        refine hpj.mono ?_
        clear hpj
        rintro e v1 hj1
        clear q0 q1 q2 q3 q4 q5 q6 t0 t1
        rcases hj1 with ⟨hc1, _⟩ | ⟨_, rfl, y9⟩
        · exact absurd hc1.2.2.2 oor_bad
        have Y1 : Hid (Ext W1 v1) := XA.out.trans y9
        have oRA := hide ((oR9.out.ext hX7.out).ext y9)
        clear y9
        (try clear q0)
        (try clear q1)
        (try clear q2)
        (try clear q3)
        (try clear q4)
        (try clear q5)
        (try clear q6)
        (try clear t0)
        (try clear t1)
        have q0 := (hB1.out.ext Y1.out).box 0 _ rfl
        have q1 := (hB1.out.ext Y1.out).box 1 _ rfl
        have q2 := (hB1.out.ext Y1.out).box 2 _ rfl
        have q3 := (hB1.out.ext Y1.out).box 3 _ rfl
        have q4 := (hB1.out.ext Y1.out).box 4 _ rfl
        have q5 := (hB1.out.ext Y1.out).box 5 _ rfl
        have q6 := (hB1.out.ext Y1.out).box 6 _ rfl
        have t0 := (hB2.out.ext Y1.out).box 0 _ rfl
        have t1 := (hB2.out.ext Y1.out).box 1 _ rfl
        go_wp2_with fail
        refine (Project ⟨nc, code, wh, its, gr, li, ag⟩ ca ia ga a ra cc ic gc cap rc cs n (code.length : Int) S v1 (hs1.out.pat.ext Y1.out) hpo (hs1.out.t.ext Y1.out) hvv hpn.out oRA (by omega)).mono ?_
        rintro e v2 hj2
        clear q0 q1 q2 q3 q4 q5 q6 t0 t1
        rcases hj2 with ⟨hc2, _⟩ | ⟨_, rfl, y9⟩
        · exact absurd hc2.2.2.1 (by simp only; omega)
        have Y2 : Hid (Ext w v2) := (X1.out.trans Y1.out).trans y9
        clear y9
        go_wp2
        go_ret
        exact ⟨rfl, Y2.out⟩
end Go.Proofs.Ybyaaw
